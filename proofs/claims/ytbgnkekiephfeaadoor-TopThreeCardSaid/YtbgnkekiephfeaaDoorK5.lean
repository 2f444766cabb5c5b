/-
  A region that draws its order and in which the order of some pairs of operations is seen: one plan for each order of these pairs. Over any program.
-/
import Derived.Test.YtbgnkekiephfeaaDoorK1
namespace Go.Proofs.YtbgnkekiephfeaaDoor
open Go.RowKit

/-- In this list the second number does not stand ahead of the first. -/
def bef : List Nat → Nat → Nat → Prop
  | [], _, _ => True
  | i :: s, p, q => i = p ∨ (i ≠ q ∧ bef s p q)
theorem bef_total (p q : Nat) (h : p ≠ q) : ∀ s, bef s p q ∨ bef s q p
  | [] => .inl trivial
  | i :: s => by
    rcases Nat.decEq i p with h1 | h1
    · rcases Nat.decEq i q with h2 | h2
      · exact (bef_total p q h s).imp (fun h => .inr ⟨h2, h⟩) (fun h => .inr ⟨h1, h⟩)
      · exact .inr (.inl h2)
    · exact .inl (.inl h1)

section
variable {P : Program} {ops : Array Oper} {Q : Exit → Act → World → Prop} {md : Region.Mode}

/-- What an operation waits for at first hand: by its edges, and by further pairs. -/
def direct (md : Region.Mode) (ops : Array Oper) (E : List (Nat × Nat)) (q : Nat) : List Nat :=
  (match ops[q]? with
   | some o => (o.after.toList.filter fun e => Region.binds md e).map (·.on)
   | none => []) ++ (E.filter fun e => e.2 == q).map (·.1)
theorem direct_edge {E : List (Nat × Nat)} {q : Nat} {o : Oper} (ho : ops[q]? = some o) {e : Edge} (he : e ∈ o.after) (hb : Region.binds md e = true) : e.on ∈ direct md ops E q := by
  unfold direct
  rw [ho]
  exact List.mem_append_left _ (List.mem_map.2 ⟨e, List.mem_filter.2 ⟨by simpa using he, hb⟩, rfl⟩)
theorem direct_cases {E : List (Nat × Nat)} {q d : Nat} {o : Oper} (ho : ops[q]? = some o) (h : d ∈ direct md ops E q) : (∃ e ∈ o.after, Region.binds md e = true ∧ e.on = d) ∨ (d, q) ∈ E := by
  unfold direct at h
  rw [ho] at h
  rcases List.mem_append.1 h with h | h
  · obtain ⟨e, he, rfl⟩ := List.mem_map.1 h
    obtain ⟨h1, h2⟩ := List.mem_filter.1 he
    exact .inl ⟨e, by simpa using h1, h2, rfl⟩
  · obtain ⟨⟨x, y⟩, he, rfl⟩ := List.mem_map.1 h
    obtain ⟨h1, h2⟩ := List.mem_filter.1 he
    obtain rfl : y = q := by simpa using h2
    exact .inr h1

def bitsAt (M : List Nat) (ds : List Nat) : Nat := ds.foldl (fun m d => m ||| (1 <<< d) ||| M.getD d 0) 0
theorem bitsAt_spec {M : List Nat} {p : Nat} : ∀ (ds : List Nat) (m : Nat), (ds.foldl (fun m d => m ||| (1 <<< d) ||| M.getD d 0) m).testBit p = true →
    m.testBit p = true ∨ ∃ d ∈ ds, d = p ∨ (M.getD d 0).testBit p = true
  | [], m, h => .inl h
  | d :: ds, m, h => by
    rw [List.foldl_cons] at h
    rcases bitsAt_spec ds _ h with h | ⟨d', hd', h⟩
    · rw [Nat.testBit_or, Nat.testBit_or, Bool.or_eq_true, Bool.or_eq_true] at h
      rcases h with (h | h) | h
      · exact .inl h
      · refine .inr ⟨d, by simp, .inl ?_⟩
        rw [Nat.one_shiftLeft, Nat.testBit_two_pow] at h
        simpa using h
      · exact .inr ⟨d, by simp, .inr h⟩
    · exact .inr ⟨d', by simp [hd'], h⟩

def lineE (md : Region.Mode) (ops : Array Oper) (M : List Nat) (E : List (Nat × Nat)) : List Nat → List (Nat × Cls) → Bool
  | _, [] => true
  | done, q :: l => decide (q.1 < ops.size) && ((direct md ops E q.1).all fun d => done.contains d) && ((M.getD q.1 0 ||| bitsAt M (direct md ops E q.1)) == bitsAt M (direct md ops E q.1)) && lineE md ops M E (q.1 :: done) l

/-- What 'lineE' says, of each place of the line. -/
structure LineAt (md : Region.Mode) (ops : Array Oper) (M : List Nat) (E : List (Nat × Nat)) (q : Nat) (ahead : Nat → Prop) : Prop where
  lt : q < ops.size
  deps : ∀ d ∈ direct md ops E q, ahead d
  mask : ∀ b, (M.getD q 0).testBit b = true → ∃ d ∈ direct md ops E q, d = b ∨ (M.getD d 0).testBit b = true

theorem lineE_spec {M : List Nat} {E : List (Nat × Nat)} : ∀ (l : List (Nat × Cls)) (done : List Nat), lineE md ops M E done l = true → ∀ pre q post, l = pre ++ q :: post →
    LineAt md ops M E q.1 fun d => d ∈ done ∨ ∃ p ∈ pre, p.1 = d
  | [], _, _, pre, q, post, h => by simp at h
  | r :: l, done, hk, pre, q, post, h => by
    unfold lineE at hk
    simp only [Bool.and_eq_true, decide_eq_true_eq, beq_iff_eq] at hk
    obtain ⟨⟨⟨h1, h2⟩, h3⟩, h4⟩ := hk
    cases pre with
    | nil =>
      obtain ⟨rfl, rfl⟩ : r = q ∧ l = post := by simpa using h
      refine ⟨h1, fun d hd => .inl ?_, fun b hb => ?_⟩
      · have := List.all_eq_true.1 h2 d hd
        simpa using this
      · have h5 : (bitsAt M (direct md ops E r.1)).testBit b = true := by rw [← h3, Nat.testBit_or, hb, Bool.true_or]
        rcases bitsAt_spec _ _ h5 with h6 | h6
        · simp at h6
        · exact h6
    | cons p pre =>
      obtain ⟨rfl, rfl⟩ : r = p ∧ l = pre ++ q :: post := by simpa using h
      obtain ⟨i1, i2, i3⟩ := lineE_spec _ _ h4 pre q post rfl
      refine ⟨i1, fun d hd => ?_, i3⟩
      rcases i2 d hd with hd | ⟨p', hp', hpe⟩
      · rcases List.mem_cons.1 hd with hd | hd
        · exact .inr ⟨r, by simp, hd.symm⟩
        · exact .inl hd
      · exact .inr ⟨p', by simp [hp'], hpe⟩

structure InvE (md : Region.Mode) (ops : Array Oper) (M : List Nat) (E : List (Nat × Nat)) (listed : Array Bool) (l : List (Nat × Cls)) : Prop where
  un : ∀ i, i < ops.size → (listed.getD i true = false ↔ ∃ q ∈ l, q.1 = i)
  lt : ∀ q ∈ l, q.1 < ops.size
  size : listed.size = ops.size
  closed : ∀ j, listed.getD j false = true → ∀ d ∈ direct md ops E j, listed.getD d false = true
  pairs : l.Pairwise fun p q => p.1 ≠ q.1 ∧ ((M.getD q.1 0).testBit p.1 = true ∨ PassOk ops p q)
  line : ∀ pre q post, l = pre ++ q :: post → ∀ d ∈ direct md ops E q.1, listed.getD d false = true ∨ ∃ p ∈ pre, p.1 = d

theorem masks_closed {M : List Nat} {E : List (Nat × Nat)} {listed : Array Bool} {l0 : List (Nat × Cls)} (hm : lineE md ops M E [] l0 = true)
    (hcl : ∀ j, listed.getD j false = true → ∀ d ∈ direct md ops E j, listed.getD d false = true) (b : Nat) :
    ∀ n pre q post, pre.length = n → l0 = pre ++ q :: post → (∀ d ∈ direct md ops E q.1, listed.getD d false = true) → (M.getD q.1 0).testBit b = true → listed.getD b false = true := by
  intro n
  induction n using Nat.strongRecOn with
  | _ n ih =>
    intro pre q post hn hl hdeps hbit
    have h1 := lineE_spec l0 [] hm pre q post hl
    obtain ⟨d, hd, h2⟩ := h1.mask b hbit
    rcases h2 with rfl | h2
    · exact hdeps d hd
    · obtain ⟨p, hp, rfl⟩ := (h1.deps d hd).resolve_left (by simp)
      obtain ⟨pre1, pre2, rfl⟩ := List.append_of_mem hp
      exact ih pre1.length (by rw [← hn]; simp) pre1 p (pre2 ++ q :: post) rfl (by rw [hl]; simp) (hcl _ (hdeps _ hd)) h2

theorem plan_draw {M : List Nat} {E : List (Nat × Nat)} {l0 : List (Nat × Cls)} (hsel : ∀ (j : Nat) (o : Oper) cs b, ops[j]? = some o → o.op ≠ .select cs b) (hm : lineE md ops M E [] l0 = true) :
    ∀ (n : Nat) (l : List (Nat × Cls)) (listed : Array Bool) (a : Act) (w : World) (t : Nat), l.length = n → (∀ q ∈ l, q ∈ l0) → InvE md ops M E listed l →
    (∀ e ∈ E, e.1 ≠ e.2 ∧ (listed.getD e.1 false = true ∨ bef (Region.linearise.go md ops n t listed []) e.1 e.2)) → wpPlan P ops Q l a w → wpOps P ops Q (Region.linearise.go md ops n t listed []) a w := by
  intro n
  induction n with
  | zero =>
    intro l listed a w t hl _ inv _ h
    obtain rfl : l = [] := List.eq_nil_of_length_eq_zero hl
    simp only [Region.linearise.go, List.reverse_nil, wpOps]
    exact h
  | succ n ih =>
    intro l listed a w t hl hsub inv hE h
    simp only [Region.linearise.go] at hE ⊢
    change ∀ e ∈ E, e.1 ≠ e.2 ∧ (listed.getD e.1 false = true ∨ bef (match (Region.ready md ops listed)[t % (Region.ready md ops listed).length]? with
      | some i => Region.linearise.go md ops n (t / (Region.ready md ops listed).length) (listed.setIfInBounds i true) [i]
      | none => [].reverse) e.1 e.2) at hE
    change wpOps P ops Q (match (Region.ready md ops listed)[t % (Region.ready md ops listed).length]? with
      | some i => Region.linearise.go md ops n (t / (Region.ready md ops listed).length) (listed.setIfInBounds i true) [i]
      | none => [].reverse) a w
    cases hi : (Region.ready md ops listed)[t % (Region.ready md ops listed).length]? with
    | none =>
      exfalso
      have hnil : Region.ready md ops listed = [] := by
        cases hr : Region.ready md ops listed with
        | nil => rfl
        | cons x xs =>
          rw [hr] at hi
          have hlt : t % (x :: xs).length < (x :: xs).length := Nat.mod_lt _ (by simp)
          simp at hi
          simp at hlt
          omega
      cases l with
      | nil => cases hl
      | cons q rest =>
        have hq := inv.lt q (by simp)
        have ho := Array.getElem?_eq_getElem hq
        have : q.1 ∈ Region.ready md ops listed := mem_ready.2 ⟨(inv.un q.1 hq).2 ⟨q, by simp, rfl⟩, _, ho, fun e he hb => (inv.line [] q rest rfl _ (direct_edge ho he hb)).resolve_right (by simp)⟩
        rw [hnil] at this
        cases this
    | some i =>
      rw [hi] at hE
      simp only [] at hE ⊢
      rw [linearise_go_acc, List.reverse_singleton, List.singleton_append] at hE ⊢
      rw [wpOps_cons]
      obtain ⟨hu, o, ho, hdeps⟩ := mem_ready.1 (List.mem_of_getElem? hi)
      have hi' : i < ops.size := (Array.getElem?_eq_some_iff.1 ho).1
      have hdir : ∀ d ∈ direct md ops E i, listed.getD d false = true := by
        intro d hd
        rcases direct_cases ho hd with ⟨e, he, hb, rfl⟩ | hd
        · exact hdeps e he hb
        · obtain ⟨hne, h1 | h1⟩ := hE _ hd
          · exact h1
          · rcases h1 with h1 | h1
            · exact absurd h1.symm hne
            · exact absurd rfl h1.1
      obtain ⟨q, hq, rfl⟩ := (inv.un i hi').1 hu
      obtain ⟨pre, post, rfl⟩ := List.append_of_mem hq
      have hpw := inv.pairs
      have hpre : ∀ p ∈ pre, PassOk ops p q := by
        intro p hp
        have h1 := (List.pairwise_append.1 hpw).2.2 p hp q (by simp)
        refine h1.2.resolve_left fun hbit => ?_
        obtain ⟨p0, s0, hs0⟩ := List.append_of_mem (hsub q hq)
        have h2 := masks_closed hm inv.closed p.1 p0.length p0 q s0 rfl hs0 hdir hbit
        have hpl := inv.lt p (by simp [hp])
        have h3 := (inv.un p.1 hpl).2 ⟨p, by simp [hp], rfl⟩
        rw [getD_flip (by rw [inv.size]; exact hpl), h2] at h3
        cases h3
      have h1 := plan_front hsel pre hpre a w h
      have hset : (listed.setIfInBounds q.1 true).getD q.1 false = true := by
        have : q.1 < listed.size := by rw [inv.size]; exact hi'
        simp [this]
      refine wpOp_mono (fun a' w' h' => ih (pre ++ post) (listed.setIfInBounds q.1 true) a' w' _ (by simp at hl ⊢; omega) (fun r hr => hsub r (by rcases List.mem_append.1 hr with hr | hr <;> simp [hr])) ?_ ?_ h') (stepP_wpOp h1)
      · have hne : ∀ p ∈ pre ++ post, p.1 ≠ q.1 := by
          intro p hp
          rcases List.mem_append.1 hp with hp | hp
          · exact ((List.pairwise_append.1 hpw).2.2 p hp q (by simp)).1
          · exact Ne.symm ((List.pairwise_cons.1 (List.pairwise_append.1 hpw).2.1).1 p hp).1
        refine ⟨?_, fun p hp => inv.lt p (by rcases List.mem_append.1 hp with hp | hp <;> simp [hp]), by simp [inv.size], ?_, ?_, ?_⟩
        · intro j hj
          by_cases hjq : q.1 = j
          · subst hjq
            constructor
            · intro h2
              rw [getD_flip (by simp [inv.size]; exact hj), hset] at h2
              cases h2
            · rintro ⟨p, hp, he⟩
              exact absurd he (hne p hp)
          · rw [getD_set_ne true hjq, inv.un j hj]
            constructor
            · rintro ⟨p, hp, he⟩
              refine ⟨p, ?_, he⟩
              rcases List.mem_append.1 hp with hp | hp
              · simp [hp]
              · rcases List.mem_cons.1 hp with rfl | hp
                · exact absurd he hjq
                · simp [hp]
            · rintro ⟨p, hp, he⟩
              exact ⟨p, by rcases List.mem_append.1 hp with hp | hp <;> simp [hp], he⟩
        · intro j hlj d hd
          by_cases hjq : q.1 = j
          · subst hjq
            exact getD_set_true (hdir d hd)
          · rw [getD_set_ne false hjq] at hlj
            exact getD_set_true (inv.closed j hlj d hd)
        · exact hpw.sublist ((List.Sublist.refl pre).append (List.sublist_cons_self q post))
        · intro pre' r post' heq d hd
          rcases List.append_eq_append_iff.1 heq with ⟨s, hs1, hs2⟩ | ⟨s, hs1, hs2⟩
          · subst hs1
            rcases inv.line (pre ++ q :: s) r post' (by rw [hs2]; simp) d hd with hd | ⟨p, hp, hpe⟩
            · exact .inl (getD_set_true hd)
            · rcases List.mem_append.1 hp with hp | hp
              · exact .inr ⟨p, by simp [hp], hpe⟩
              · rcases List.mem_cons.1 hp with rfl | hp
                · exact .inl (by rw [← hpe]; exact hset)
                · exact .inr ⟨p, by simp [hp], hpe⟩
          · subst hs1
            cases s with
            | nil =>
              rcases inv.line (pre' ++ [q]) r post' (by simp at hs2; simp [← hs2]) d hd with hd | ⟨p, hp, hpe⟩
              · exact .inl (getD_set_true hd)
              · rcases List.mem_append.1 hp with hp | hp
                · exact .inr ⟨p, hp, hpe⟩
                · obtain rfl : p = q := by simpa using hp
                  exact .inl (by rw [← hpe]; exact hset)
            | cons s0 s =>
              obtain ⟨rfl, rfl⟩ : r = s0 ∧ post' = s ++ post := by simpa using hs2
              exact (inv.line pre' r (s ++ q :: post) (by simp) d hd).imp getD_set_true id
      · intro e he
        refine ⟨(hE e he).1, ?_⟩
        rcases (hE e he).2 with h2 | h2
        · exact .inl (getD_set_true h2)
        · rcases h2 with h2 | h2
          · exact .inl (by rw [← h2]; exact hset)
          · exact .inr h2.2

/-- The plans: a leaf is one; a node splits upon which of two operations comes first. -/
inductive Plans where
  | leaf (M : List Nat) (l : List (Nat × Cls))
  | node (p q : Nat) (s t : Plans)
def plansOk (ops : Array Oper) : List (Nat × Nat) → Plans → Bool
  | E, .leaf M l => lineE .any ops M E [] l && pairsOk ops M l && l.length == ops.size && (List.range ops.size).all fun i => l.any (·.1 == i)
  | E, .node p q s t => p != q && plansOk ops ((p, q) :: E) s && plansOk ops ((q, p) :: E) t
def wpPlans (P : Program) (ops : Array Oper) (Q : Exit → Act → World → Prop) (a : Act) (w : World) : Plans → Prop
  | .leaf _ l => wpPlan P ops Q l a w
  | .node _ _ s t => wpPlans P ops Q a w s ∧ wpPlans P ops Q a w t

theorem plans_draw (hsel : ∀ (j : Nat) (o : Oper) cs b, ops[j]? = some o → o.op ≠ .select cs b) (a : Act) (w : World) (t : Nat) : ∀ (T : Plans) (E : List (Nat × Nat)), plansOk ops E T = true →
    (∀ e ∈ E, e.1 ≠ e.2 ∧ bef (Region.linearise.go .any ops ops.size t (Array.replicate ops.size false) []) e.1 e.2) → wpPlans P ops Q a w T → wpOps P ops Q (Region.linearise.go .any ops ops.size t (Array.replicate ops.size false) []) a w
  | .leaf M l, E, hk, hE, h => by
    unfold plansOk at hk
    simp only [Bool.and_eq_true, beq_iff_eq] at hk
    obtain ⟨⟨⟨h1, h2⟩, h3⟩, h4⟩ := hk
    refine plan_draw (l0 := l) hsel h1 ops.size l _ a w t h3 (fun q hq => hq) ⟨?_, ?_, by simp, ?_, pairs_of l h2, ?_⟩ (fun e he => ⟨(hE e he).1, .inr (hE e he).2⟩) h
    · intro i hi
      refine ⟨fun _ => ?_, fun _ => by simp [hi]⟩
      have := List.all_eq_true.1 h4 i (List.mem_range.2 hi)
      obtain ⟨q, hq, he⟩ := List.any_eq_true.1 this
      exact ⟨q, hq, by simpa using he⟩
    · intro q hq
      obtain ⟨pre, post, rfl⟩ := List.append_of_mem hq
      exact (lineE_spec _ _ h1 pre q post rfl).lt
    · intro j hj
      rcases Nat.lt_or_ge j ops.size with h | h
      · simp [h] at hj
      · simp [h] at hj
    · intro pre q post heq d hd
      exact .inr (((lineE_spec _ _ h1 pre q post heq).deps d hd).resolve_left (by simp))
  | .node p q s t', E, hk, hE, h => by
    unfold plansOk at hk
    simp only [Bool.and_eq_true, bne_iff_ne] at hk
    obtain ⟨⟨h1, h2⟩, h3⟩ := hk
    rcases bef_total p q h1 (Region.linearise.go .any ops ops.size t (Array.replicate ops.size false) []) with hb | hb
    · exact plans_draw hsel a w t s _ h2 (fun e he => (List.mem_cons.1 he).elim (fun h => by subst h; exact ⟨h1, hb⟩) (hE e)) h.1
    · exact plans_draw hsel a w t t' _ h3 (fun e he => (List.mem_cons.1 he).elim (fun h => by subst h; exact ⟨Ne.symm h1, hb⟩) (hE e)) h.2

/-- Where all plans come out. -/
def meetsIn (R : Act → World → Prop) : Exit → Act → World → Prop
  | .normal, a, w => R a w
  | _, _, _ => False

/-- A REGION THAT DRAWS ITS ORDER, BY A PLAN FOR EACH ORDER OF SOME PAIRS. -/
theorem wp_region_plans {id : Nat} {a : Act} {w : World} (T : Plans) (R : Act → Act → World → Prop) (hf : P.follows .mixedOrders = true) (hs : Region.noSelect ops = true) (hk : plansOk ops [] T = true)
    (h : wpPlans P ops (meetsIn (R a)) a w.drew T) (hR : ∀ a' w', R a a' w' → Q .normal a' w') : (Code.region id ops true).wp P Q a w := by
  refine Code.wp_mono (Q := meetsIn (R a)) (fun e a' w' h => ?_) ?_
  · cases e <;> first | exact hR _ _ h | exact h.elim
  · refine wp_region_draw fun t => ?_
    simp only [Region.schedule, hf, Bool.true_or, if_true]
    exact plans_draw (Region.noSelect_spec hs) a _ t T [] hk (by simp) h
end
end Go.Proofs.YtbgnkekiephfeaaDoor
