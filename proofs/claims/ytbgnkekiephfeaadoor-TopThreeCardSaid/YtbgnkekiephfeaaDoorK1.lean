/-
  A region that draws its order, walked once, in one order of the prover's own: over any program. The operations are of four kinds: L (the world plays no part), R (it reads), A (it leaves all old blocks as they are), W (whatever else).
  Two operations that the region leaves unordered may be exchanged if the earlier one of the prover's order is of kind L, or of kind R where the later one is of kind L, R or A.
-/
import Derived.Orders
import Derived.Tactics
import Derived.Below
import Derived.KernelRfl
namespace Go.Proofs.YtbgnkekiephfeaaDoor
open Go.RowKit

/-- All blocks of w lie in w' as they lay. -/
def Ext (w w' : World) : Prop := ∀ k, k < w.heap.size → w'.heap[k]? = w.heap[k]?
theorem Ext.refl (w : World) : Ext w w := fun _ _ => rfl
theorem Ext.of_below {w w' : World} (h : Below w.heap.size w w') : Ext w w' := h.block
theorem Ext.alloc (w : World) (o : Obj) : Ext w (w.alloc o) := ((Below.refl w.heap.size w).alloc (Nat.le_refl _) o).block
theorem Ext.drew (w : World) : Ext w w.drew := fun _ _ => rfl

inductive Cls where
  | L | R | A | W
/-- May an operation of the first kind be passed by a later one of the second? -/
def Cls.passes : Cls → Cls → Bool
  | .L, _ => true
  | .R, .L | .R, .R | .R, .A => true
  | _, _ => false

def noPanic (Q : Exit → Act → World → Prop) : Exit → Act → World → Prop
  | .panic _, _, _ => False
  | e, a, w => Q e a w
theorem noPanic_imp {Q : Exit → Act → World → Prop} : ∀ e a w, noPanic Q e a w → Q e a w
  | .panic _, _, _, h => h.elim
  | .normal, _, _, h => h
  | .exit _, _, _, h => h
  | .goto _, _, _, h => h
  | .ret, _, _, h => h
  | .outgrown, _, _, h => h

section
variable {P : Program} {ops : Array Oper} {Q : Exit → Act → World → Prop} {md : Region.Mode}

theorem wp_imp {o : Oper} {a : Act} {w : World} {K K' : Act → World → Prop} {Q Q' : Exit → Act → World → Prop} (hK : ∀ a w, K a w → K' a w) (hQ : ∀ e a w, Q e a w → Q' e a w)
    (hh : o.wp P a w K Q) : o.wp P a w K' Q' := by
  unfold Oper.wp at *
  generalize (execOp a.eval o).run P w = r at *
  have hlet : LetsOut Q → LetsOut Q' := fun ⟨a, w, h⟩ => ⟨a, w, hQ _ _ _ h⟩
  cases r with
  | ok n w' =>
    cases n <;> simp only [Oper.upon] at hh ⊢ <;>
      first
        | exact hK _ _ hh
        | exact Calls.mono hh (fun e w'' he => by cases e <;> first | exact hK _ _ he | exact hQ _ _ _ he | exact hlet he)
        | exact Rows.mono hh (fun _ _ he => hK _ _ he)
  | halt x w' => cases x <;> simp only [Oper.upon] at hh ⊢ <;> first | exact hQ _ _ _ hh | exact hh

/-- One operation, of a kind. -/
def stepP (P : Program) (ops : Array Oper) (Q : Exit → Act → World → Prop) (c : Cls) (i : Nat) (K : Act → World → Prop) (a : Act) (w : World) : Prop :=
  ∃ o, ops[i]? = some o ∧
    ((Region.wanted o (yielded ops a.tmps) = false ∧ K (a.put o.dst undef) w) ∨
     (Region.wanted o (yielded ops a.tmps) = true ∧ match c with
      | .L => ∃ v, (∀ w', (execOp a.eval o).run P w' = .ok (.value v) w') ∧ K (a.put o.dst v) w
      | .R => ∃ v, (∀ w', Ext w w' → (execOp a.eval o).run P w' = .ok (.value v) w') ∧ K (a.put o.dst v) w
      | .A => o.wp P a w (fun a' w' => Ext w w' ∧ K a' w') (noPanic Q)
      | .W => o.wp P a w K (noPanic Q)))

theorem stepP_mono {c : Cls} {i : Nat} {K K' : Act → World → Prop} {a : Act} {w : World} (hK : ∀ a w, K a w → K' a w) (h : stepP P ops Q c i K a w) : stepP P ops Q c i K' a w := by
  obtain ⟨o, ho, h⟩ := h
  refine ⟨o, ho, ?_⟩
  rcases h with ⟨hw, h⟩ | ⟨hw, h⟩
  · exact .inl ⟨hw, hK _ _ h⟩
  · refine .inr ⟨hw, ?_⟩
    cases c with
    | L => obtain ⟨v, hv, h⟩ := h; exact ⟨v, hv, hK _ _ h⟩
    | R => obtain ⟨v, hv, h⟩ := h; exact ⟨v, hv, hK _ _ h⟩
    | A => exact wp_imp (fun a w h => ⟨h.1, hK _ _ h.2⟩) (fun _ _ _ h => h) h
    | W => exact wp_imp hK (fun _ _ _ h => h) h

theorem stepP_wpOp {c : Cls} {i : Nat} {K : Act → World → Prop} {a : Act} {w : World} (h : stepP P ops Q c i K a w) : wpOp P ops Q i K a w := by
  obtain ⟨o, ho, h⟩ := h
  unfold wpOp
  simp only [ho]
  rcases h with ⟨hw, h⟩ | ⟨hw, h⟩
  · simp only [hw, Bool.false_eq_true, if_false]; exact h
  · simp only [hw, if_true]
    refine .inl ?_
    cases c with
    | L => obtain ⟨v, hv, h⟩ := h; simp only [Oper.wp, hv w, Oper.upon]; exact h
    | R => obtain ⟨v, hv, h⟩ := h; simp only [Oper.wp, hv w (Ext.refl w), Oper.upon]; exact h
    | A => exact wp_imp (fun _ _ h => h.2) noPanic_imp h
    | W => exact wp_imp (fun _ _ h => h) noPanic_imp h

theorem wp_put {x y : Oper} {v : Value} {a : Act} {w : World} {K K' : Act → World → Prop} (hex : execOp (a.put x.dst v).eval y = execOp a.eval y) (hc : ∀ d, x.dst = some d → y.dst ≠ some d)
    (hK : ∀ (d : List Deferred) u w', K ((({ a with defers := d } : Act).put y.dst u).put x.dst v) w' → K' (({ a with defers := d } : Act).put y.dst u) w')
    (h : y.wp P (a.put x.dst v) w K (noPanic Q)) : y.wp P a w K' (noPanic Q) := by
  have hself : ∀ u w', K ((a.put x.dst v).put y.dst u) w' → K' (a.put y.dst u) w' := fun u w' h => hK a.defers u w' (by rw [Act.put_comm a v u hc] at h; exact h)
  unfold Oper.wp at *
  rw [hex] at h
  generalize (execOp a.eval y).run P w = r at *
  cases r with
  | ok n w' =>
    cases n <;> simp only [Oper.upon] at h ⊢
    case value u => exact hself _ _ h
    case skip => exact hself _ _ h
    case defer d =>
      refine hK _ _ _ ?_
      rw [← Act.put_comm _ v undef hc, ← Act.put_defers]
      exact h
    case enter f args =>
      refine Calls.mono h fun e w'' he => ?_
      cases e with
      | returned u => exact hself _ _ he
      | panicked c => exact he.elim
      | outgrown => exact he
    case row row args => exact Rows.mono h fun u w'' he => hself _ _ he
  | halt z w' =>
    cases z <;> simp only [Oper.upon] at h ⊢
    case panic u => exact h.elim

/-- What an operation of kind L or R gives. -/
def Gives (P : Program) (ops : Array Oper) (c : Cls) (x : Oper) (v : Value) (a : Act) (w : World) : Prop :=
  (Region.wanted x (yielded ops a.tmps) = false ∧ v = undef) ∨
  (Region.wanted x (yielded ops a.tmps) = true ∧ match c with
    | .L => ∀ w', (execOp a.eval x).run P w' = .ok (.value v) w'
    | .R => ∀ w', Ext w w' → (execOp a.eval x).run P w' = .ok (.value v) w'
    | _ => False)
theorem stepP_gives {c : Cls} {i : Nat} {K : Act → World → Prop} {a : Act} {w : World} (hc : c = .L ∨ c = .R) : stepP P ops Q c i K a w ↔ ∃ x v, ops[i]? = some x ∧ Gives P ops c x v a w ∧ K (a.put x.dst v) w := by
  constructor
  · rintro ⟨o, ho, ⟨hw, h⟩ | ⟨hw, h⟩⟩
    · exact ⟨o, undef, ho, .inl ⟨hw, rfl⟩, h⟩
    · rcases hc with rfl | rfl
      · obtain ⟨v, hv, h⟩ := h; exact ⟨o, v, ho, .inr ⟨hw, hv⟩, h⟩
      · obtain ⟨v, hv, h⟩ := h; exact ⟨o, v, ho, .inr ⟨hw, hv⟩, h⟩
  · rintro ⟨x, v, ho, ⟨hw, rfl⟩ | ⟨hw, hg⟩, h⟩
    · exact ⟨x, ho, .inl ⟨hw, h⟩⟩
    · rcases hc with rfl | rfl
      · exact ⟨x, ho, .inr ⟨hw, v, hg, h⟩⟩
      · exact ⟨x, ho, .inr ⟨hw, v, hg, h⟩⟩
theorem Gives.of_same {c : Cls} {x : Oper} {v : Value} {a a' : Act} {w : World} (h : Gives P ops c x v a w) (he : execOp a'.eval x = execOp a.eval x)
    (hw : Region.wanted x (yielded ops a'.tmps) = Region.wanted x (yielded ops a.tmps)) : Gives P ops c x v a' w := by
  unfold Gives at *
  rw [he, hw]
  exact h
theorem Gives.later {c : Cls} {x : Oper} {v : Value} {a : Act} {w w' : World} (h : Gives P ops c x v a w) (hsz : w.heap.size ≤ w'.heap.size) (he : Ext w w') : Gives P ops c x v a w' := by
  rcases h with h | ⟨hw, h⟩
  · exact .inl h
  · refine .inr ⟨hw, ?_⟩
    cases c with
    | L => exact h
    | R => exact fun w'' h'' => h w'' fun k hk => (h'' k (by omega)).trans (he k hk)
    | A => exact h
    | W => exact h
theorem Gives.anyL {x : Oper} {v : Value} {a : Act} {w w' : World} (h : Gives P ops .L x v a w) : Gives P ops .L x v a w' := h

theorem ext_size {w w' : World} (h : Ext w w') : w.heap.size ≤ w'.heap.size := by
  rcases Nat.eq_zero_or_pos w.heap.size with h0 | h0
  · omega
  · have h1 := h (w.heap.size - 1) (by omega)
    have h2 : w.heap[w.heap.size - 1]? = some (w.heap[w.heap.size - 1]'(by omega)) := Array.getElem?_eq_getElem (by omega)
    rw [h2] at h1
    have := (Array.getElem?_eq_some_iff.1 h1).1
    omega

theorem stepP_comm {cp ci : Cls} {p i : Nat} {x y : Oper} {K : Act → World → Prop} {a : Act} {w : World} (hp : cp.passes ci = true) (hx : ops[p]? = some x) (hy : ops[i]? = some y)
    (hap : x.apart ops y = true) (hsx : ∀ cs b, x.op ≠ .select cs b) (hsy : ∀ cs b, y.op ≠ .select cs b)
    (h : stepP P ops Q cp p (stepP P ops Q ci i K) a w) : stepP P ops Q ci i (stepP P ops Q cp p K) a w := by
  have hc : cp = .L ∨ cp = .R := by cases cp <;> first | exact .inl rfl | exact .inr rfl | (cases ci <;> cases hp)
  obtain ⟨h1, h2, h3⟩ := Oper.apart_spec hap
  obtain ⟨x', v, hx', hg, o, ho, hstep⟩ := (stepP_gives hc).1 h
  obtain rfl : x = x' := Option.some.inj (hx.symm.trans hx')
  obtain rfl : y = o := Option.some.inj (hy.symm.trans ho)
  rw [wanted_put y a x.dst v h1] at hstep
  have keep : ∀ (d : List Deferred) u w', (cp = .L ∨ Ext w w') → Gives P ops cp x v (({ a with defers := d } : Act).put y.dst u) w' := fun d u w' hw' => by
    have hg' : Gives P ops cp x v a w' := by
      rcases hc with rfl | rfl
      · exact hg.anyL
      · rcases hw' with hw' | hw'
        · cases hw'
        · exact hg.later (ext_size hw') hw'
    have hg2 : Gives P ops cp x v ({ a with defers := d } : Act) w' := hg'.of_same rfl rfl
    exact hg2.of_same (execOp_put x hsx _ y.dst u h3) (wanted_put x _ y.dst u h3)
  refine ⟨y, hy, ?_⟩
  rcases hstep with ⟨hw, hk⟩ | ⟨hw, hk⟩
  · exact .inl ⟨hw, (stepP_gives hc).2 ⟨x, v, hx, keep a.defers undef w (.inr (Ext.refl w)), by rw [← Act.put_comm a v undef h2]; exact hk⟩⟩
  · refine .inr ⟨hw, ?_⟩
    have hex := execOp_put y hsy a x.dst v h1
    cases ci with
    | L =>
      obtain ⟨u, hu, hk⟩ := hk
      rw [hex] at hu
      exact ⟨u, hu, (stepP_gives hc).2 ⟨x, v, hx, keep a.defers u w (.inr (Ext.refl w)), by rw [← Act.put_comm a v u h2]; exact hk⟩⟩
    | R =>
      obtain ⟨u, hu, hk⟩ := hk
      rw [hex] at hu
      exact ⟨u, hu, (stepP_gives hc).2 ⟨x, v, hx, keep a.defers u w (.inr (Ext.refl w)), by rw [← Act.put_comm a v u h2]; exact hk⟩⟩
    | A =>
      refine wp_put hex h2 (fun d u w' hk => ⟨hk.1, (stepP_gives hc).2 ⟨x, v, hx, keep d u w' (.inr hk.1), hk.2⟩⟩) hk
    | W =>
      have hL : cp = .L := by cases cp <;> first | rfl | cases hp
      refine wp_put hex h2 (fun d u w' hk => (stepP_gives hc).2 ⟨x, v, hx, keep d u w' (.inl hL), hk⟩) hk

/-- The operations in the prover's order. -/
def wpPlan (P : Program) (ops : Array Oper) (Q : Exit → Act → World → Prop) : List (Nat × Cls) → Act → World → Prop
  | [] => Q .normal
  | (i, c) :: rest => stepP P ops Q c i (wpPlan P ops Q rest)

def PassOk (ops : Array Oper) (p q : Nat × Cls) : Prop := p.2.passes q.2 = true ∧ ∀ x y, ops[p.1]? = some x → ops[q.1]? = some y → x.apart ops y = true

theorem plan_front (hsel : ∀ (j : Nat) (o : Oper) cs b, ops[j]? = some o → o.op ≠ .select cs b) {q : Nat × Cls} {post : List (Nat × Cls)} : ∀ (pre : List (Nat × Cls)), (∀ p ∈ pre, PassOk ops p q) → ∀ a w,
    wpPlan P ops Q (pre ++ q :: post) a w → stepP P ops Q q.2 q.1 (wpPlan P ops Q (pre ++ post)) a w
  | [], _, a, w, h => h
  | p :: pre, hp, a, w, h => by
    have h1 : stepP P ops Q p.2 p.1 (stepP P ops Q q.2 q.1 (wpPlan P ops Q (pre ++ post))) a w :=
      stepP_mono (fun a w h => plan_front hsel pre (fun p' hp' => hp p' (by simp [hp'])) a w h) h
    obtain ⟨x, hx, _⟩ := id h1
    have hy : ∃ y, ops[q.1]? = some y := by
      obtain ⟨o, ho, h2⟩ := h1
      rcases h2 with ⟨_, o2, ho2, _⟩ | ⟨_, h2⟩
      · exact ⟨o2, ho2⟩
      · have hpp := (hp p (by simp)).1
        cases hpc : p.2 with
        | L => rw [hpc] at h2; obtain ⟨_, _, o2, ho2, _⟩ := h2; exact ⟨o2, ho2⟩
        | R => rw [hpc] at h2; obtain ⟨_, _, o2, ho2, _⟩ := h2; exact ⟨o2, ho2⟩
        | A => rw [hpc] at hpp; cases hq : q.2 <;> rw [hq] at hpp <;> cases hpp
        | W => rw [hpc] at hpp; cases hq : q.2 <;> rw [hq] at hpp <;> cases hpp
    obtain ⟨y, hy⟩ := hy
    exact stepP_comm (hp p (by simp)).1 hx hy ((hp p (by simp)).2 x y hx hy) (fun cs b => hsel _ _ cs b hx) (fun cs b => hsel _ _ cs b hy) h1

/-- What an operation waits for, at first hand or through another, as the bits of a number: from the like numbers of the operations before it. -/
def bitsOf (md : Region.Mode) (M : List Nat) (es : List Edge) : Nat := es.foldl (fun m e => if Region.binds md e then m ||| (1 <<< e.on) ||| M.getD e.on 0 else m) 0
theorem bitsOf_spec {M : List Nat} {p : Nat} : ∀ (es : List Edge) (m : Nat), (es.foldl (fun m e => if Region.binds md e then m ||| (1 <<< e.on) ||| M.getD e.on 0 else m) m).testBit p = true →
    m.testBit p = true ∨ ∃ e ∈ es, Region.binds md e = true ∧ (e.on = p ∨ (M.getD e.on 0).testBit p = true)
  | [], m, h => .inl h
  | e :: es, m, h => by
    rw [List.foldl_cons] at h
    rcases bitsOf_spec es _ h with h | ⟨e', he', hb, h⟩
    · by_cases hb : Region.binds md e = true
      · rw [if_pos hb, Nat.testBit_or, Nat.testBit_or, Bool.or_eq_true, Bool.or_eq_true] at h
        rcases h with (h | h) | h
        · exact .inl h
        · refine .inr ⟨e, by simp, hb, .inl ?_⟩
          rw [Nat.one_shiftLeft, Nat.testBit_two_pow] at h
          simpa using h
        · exact .inr ⟨e, by simp, hb, .inr h⟩
      · rw [if_neg hb] at h; exact .inl h
    · exact .inr ⟨e', by simp [he'], hb, h⟩

/-- The numbers M are borne out: each is within what the operation's edges give, and all edges lead back. -/
def masksOk (md : Region.Mode) (ops : Array Oper) (M : List Nat) : Bool :=
  (List.range ops.size).all fun q => match ops[q]? with
    | some o => (M.getD q 0 ||| bitsOf md M o.after.toList) == bitsOf md M o.after.toList && o.after.all fun e => !Region.binds md e || decide (e.on < q)
    | none => true
def pairOk (ops : Array Oper) (M : List Nat) (p q : Nat × Cls) : Bool :=
  p.1 != q.1 && ((M.getD q.1 0).testBit p.1 || (p.2.passes q.2 && match ops[p.1]?, ops[q.1]? with
    | some x, some y => x.apart ops y
    | _, _ => false))
def pairsOk (ops : Array Oper) (M : List Nat) : List (Nat × Cls) → Bool
  | [] => true
  | p :: l => l.all (pairOk ops M p) && pairsOk ops M l
def lineOk (md : Region.Mode) (ops : Array Oper) : List Nat → List (Nat × Cls) → Bool
  | _, [] => true
  | done, q :: l => (match ops[q.1]? with
    | some o => o.after.all fun e => !Region.binds md e || done.contains e.on
    | none => false) && lineOk md ops (q.1 :: done) l
def planOk (md : Region.Mode) (ops : Array Oper) (M : List Nat) (l : List (Nat × Cls)) : Bool :=
  Region.noSelect ops && masksOk md ops M && pairsOk ops M l && lineOk md ops [] l && l.length == ops.size && (List.range ops.size).all fun i => l.any (·.1 == i)

structure Inv (md : Region.Mode) (ops : Array Oper) (M : List Nat) (listed : Array Bool) (l : List (Nat × Cls)) : Prop where
  un : ∀ i, i < ops.size → (listed.getD i true = false ↔ ∃ q ∈ l, q.1 = i)
  lt : ∀ q ∈ l, q.1 < ops.size
  size : listed.size = ops.size
  closed : ∀ j o, ops[j]? = some o → listed.getD j false = true → ∀ e ∈ o.after, Region.binds md e = true → listed.getD e.on false = true
  pairs : l.Pairwise fun p q => p.1 ≠ q.1 ∧ ((M.getD q.1 0).testBit p.1 = true ∨ PassOk ops p q)
  line : ∀ pre q post, l = pre ++ q :: post → ∃ o, ops[q.1]? = some o ∧ ∀ e ∈ o.after, Region.binds md e = true → listed.getD e.on false = true ∨ ∃ p ∈ pre, p.1 = e.on

theorem getD_flip {listed : Array Bool} {i : Nat} (hi : i < listed.size) : listed.getD i true = listed.getD i false := by simp [hi]

theorem masks_listed {M : List Nat} {listed : Array Bool} (hm : masksOk md ops M = true)
    (hcl : ∀ j o, ops[j]? = some o → listed.getD j false = true → ∀ e ∈ o.after, Region.binds md e = true → listed.getD e.on false = true) (p : Nat) :
    ∀ q o, ops[q]? = some o → (∀ e ∈ o.after, Region.binds md e = true → listed.getD e.on false = true) → (M.getD q 0).testBit p = true → listed.getD p false = true := by
  intro q
  induction q using Nat.strongRecOn with
  | _ q ih =>
    intro o ho hdeps hbit
    have hq : q < ops.size := (Array.getElem?_eq_some_iff.1 ho).1
    have h1 := List.all_eq_true.1 hm q (List.mem_range.2 hq)
    rw [ho] at h1
    simp only [Bool.and_eq_true, beq_iff_eq] at h1
    have h2 : (bitsOf md M o.after.toList).testBit p = true := by rw [← h1.1, Nat.testBit_or, hbit, Bool.true_or]
    rcases bitsOf_spec _ _ h2 with h3 | ⟨e, he, hb, h3⟩
    · simp at h3
    · have he' : e ∈ o.after := Array.mem_toList_iff.1 he
      have hl := hdeps e he' hb
      rcases h3 with rfl | h3
      · exact hl
      · have hlt : e.on < q := by simpa [hb] using (Array.all_eq_true_iff_forall_mem.1 h1.2) e he'
        have hon : e.on < ops.size := by omega
        exact ih e.on hlt ops[e.on] (Array.getElem?_eq_getElem hon) (hcl e.on _ (Array.getElem?_eq_getElem hon) hl) h3

theorem plan_any {M : List Nat} (hsel : ∀ (j : Nat) (o : Oper) cs b, ops[j]? = some o → o.op ≠ .select cs b) (hm : masksOk md ops M = true) :
    ∀ (n : Nat) (l : List (Nat × Cls)) (listed : Array Bool) (a : Act) (w : World), l.length = n → Inv md ops M listed l → wpPlan P ops Q l a w → wpAny P md ops Q n listed a w := by
  intro n
  induction n with
  | zero =>
    intro l listed a w hl inv h
    obtain rfl : l = [] := List.eq_nil_of_length_eq_zero hl
    refine ⟨?_, h⟩
    rw [List.eq_nil_iff_forall_not_mem]
    intro i hi
    obtain ⟨hu, o, ho, _⟩ := mem_ready.1 hi
    obtain ⟨q, hq, _⟩ := (inv.un i (Array.getElem?_eq_some_iff.1 ho).1).1 hu
    cases hq
  | succ n ih =>
    intro l listed a w hl inv h
    refine ⟨fun hr => ?_, fun i hi => ?_⟩
    · cases l with
      | nil => cases hl
      | cons q rest =>
        obtain ⟨o, ho, hd⟩ := inv.line [] q rest rfl
        have : q.1 ∈ Region.ready md ops listed := mem_ready.2 ⟨(inv.un q.1 (Array.getElem?_eq_some_iff.1 ho).1).2 ⟨q, by simp, rfl⟩, o, ho, fun e he hb => (hd e he hb).resolve_right (by simp)⟩
        rw [hr] at this
        cases this
    · obtain ⟨hu, o, ho, hdeps⟩ := mem_ready.1 hi
      have hi' : i < ops.size := (Array.getElem?_eq_some_iff.1 ho).1
      obtain ⟨q, hq, rfl⟩ := (inv.un i hi').1 hu
      obtain ⟨pre, post, rfl⟩ := List.append_of_mem hq
      have hpw := inv.pairs
      have hpre : ∀ p ∈ pre, PassOk ops p q := by
        intro p hp
        have h1 := (List.pairwise_append.1 hpw).2.2 p hp q (by simp)
        refine h1.2.resolve_left fun hbit => ?_
        have h2 := masks_listed hm inv.closed p.1 q.1 o ho hdeps hbit
        have hpl := inv.lt p (by simp [hp])
        have h3 := (inv.un p.1 hpl).2 ⟨p, by simp [hp], rfl⟩
        rw [getD_flip (by rw [inv.size]; exact hpl), h2] at h3
        cases h3
      have h1 := plan_front hsel pre hpre a w h
      refine wpOp_mono (fun a' w' h' => ih (pre ++ post) (listed.setIfInBounds q.1 true) a' w' (by simp at hl ⊢; omega) ?_ h') (stepP_wpOp h1)
      have hne : ∀ p ∈ pre ++ post, p.1 ≠ q.1 := by
        intro p hp
        rcases List.mem_append.1 hp with hp | hp
        · exact ((List.pairwise_append.1 hpw).2.2 p hp q (by simp)).1
        · exact Ne.symm ((List.pairwise_cons.1 (List.pairwise_append.1 hpw).2.1).1 p hp).1
      have hset : (listed.setIfInBounds q.1 true).getD q.1 false = true := by
        have : q.1 < listed.size := by rw [inv.size]; exact hi'
        simp [this]
      refine ⟨?_, fun p hp => inv.lt p (by rcases List.mem_append.1 hp with hp | hp <;> simp [hp]), by simp [inv.size], ?_, ?_, ?_⟩
      · intro j hj
        by_cases hjq : q.1 = j
        · subst hjq
          constructor
          · intro h2
            rw [getD_flip (by simp [inv.size]; exact hj), hset] at h2
            cases h2
          · rintro ⟨p, hp, he⟩
            exact absurd he (hne p hp)
        · rw [getD_set_ne true hjq, inv.un j hj]
          constructor
          · rintro ⟨p, hp, he⟩
            refine ⟨p, ?_, he⟩
            rcases List.mem_append.1 hp with hp | hp
            · simp [hp]
            · rcases List.mem_cons.1 hp with rfl | hp
              · exact absurd he hjq
              · simp [hp]
          · rintro ⟨p, hp, he⟩
            exact ⟨p, by rcases List.mem_append.1 hp with hp | hp <;> simp [hp], he⟩
      · intro j oj hj hlj e he hb
        by_cases hjq : q.1 = j
        · subst hjq
          obtain rfl : o = oj := Option.some.inj (ho.symm.trans hj)
          exact getD_set_true (hdeps e he hb)
        · rw [getD_set_ne false hjq] at hlj
          exact getD_set_true (inv.closed j oj hj hlj e he hb)
      · exact hpw.sublist ((List.Sublist.refl pre).append (List.sublist_cons_self q post))
      · intro pre' r post' heq
        have hr : r ∈ pre ++ post := by rw [heq]; simp
        rcases List.append_eq_append_iff.1 heq with ⟨s, hs1, hs2⟩ | ⟨s, hs1, hs2⟩
        · subst hs1
          obtain ⟨or, hor, hd⟩ := inv.line (pre ++ q :: s) r post' (by rw [hs2]; simp)
          refine ⟨or, hor, fun e he hb => ?_⟩
          rcases hd e he hb with hd | ⟨p, hp, hpe⟩
          · exact .inl (getD_set_true hd)
          · rcases List.mem_append.1 hp with hp | hp
            · exact .inr ⟨p, by simp [hp], hpe⟩
            · rcases List.mem_cons.1 hp with rfl | hp
              · exact .inl (by rw [← hpe]; exact hset)
              · exact .inr ⟨p, by simp [hp], hpe⟩
        · subst hs1
          cases s with
          | nil =>
            obtain ⟨or, hor, hd⟩ := inv.line (pre' ++ [q]) r post' (by simp at hs2; simp [← hs2])
            refine ⟨or, hor, fun e he hb => ?_⟩
            rcases hd e he hb with hd | ⟨p, hp, hpe⟩
            · exact .inl (getD_set_true hd)
            · rcases List.mem_append.1 hp with hp | hp
              · exact .inr ⟨p, hp, hpe⟩
              · obtain rfl : p = q := by simpa using hp
                exact .inl (by rw [← hpe]; exact hset)
          | cons s0 s =>
            obtain ⟨rfl, rfl⟩ : r = s0 ∧ post' = s ++ post := by simpa using hs2
            obtain ⟨or, hor, hd⟩ := inv.line pre' r (s ++ q :: post) (by simp)
            exact ⟨or, hor, fun e he hb => (hd e he hb).imp getD_set_true id⟩

theorem line_of {listed : Array Bool} : ∀ (l : List (Nat × Cls)) (done : List Nat), lineOk md ops done l = true → ∀ pre q post, l = pre ++ q :: post → ∃ o, ops[q.1]? = some o ∧ ∀ e ∈ o.after, Region.binds md e = true → e.on ∈ done ∨ ∃ p ∈ pre, p.1 = e.on
  | [], _, _, pre, q, post, h => by simp at h
  | r :: l, done, hk, pre, q, post, h => by
    unfold lineOk at hk
    rw [Bool.and_eq_true] at hk
    cases pre with
    | nil =>
      obtain ⟨rfl, rfl⟩ : r = q ∧ l = post := by simpa using h
      cases ho : ops[r.1]? with
      | none => rw [ho] at hk; cases hk.1
      | some o =>
        rw [ho] at hk
        refine ⟨o, rfl, fun e he hb => .inl ?_⟩
        have := (Array.all_eq_true_iff_forall_mem.1 hk.1) e he
        simpa [hb] using this
    | cons p pre =>
      obtain ⟨rfl, rfl⟩ : r = p ∧ l = pre ++ q :: post := by simpa using h
      obtain ⟨o, ho, hd⟩ := line_of (listed := listed) _ _ hk.2 pre q post rfl
      refine ⟨o, ho, fun e he hb => ?_⟩
      rcases hd e he hb with hd | ⟨p', hp', hpe⟩
      · rcases List.mem_cons.1 hd with hd | hd
        · exact .inr ⟨r, by simp, hd.symm⟩
        · exact .inl hd
      · exact .inr ⟨p', by simp [hp'], hpe⟩

theorem pairs_of {M : List Nat} : ∀ (l : List (Nat × Cls)), pairsOk ops M l = true → l.Pairwise fun p q => p.1 ≠ q.1 ∧ ((M.getD q.1 0).testBit p.1 = true ∨ PassOk ops p q)
  | [], _ => .nil
  | p :: l, h => by
    unfold pairsOk at h
    rw [Bool.and_eq_true] at h
    refine .cons (fun q hq => ?_) (pairs_of l h.2)
    have h1 := List.all_eq_true.1 h.1 q hq
    unfold pairOk at h1
    rw [Bool.and_eq_true, Bool.or_eq_true, Bool.and_eq_true] at h1
    refine ⟨by simpa using h1.1, h1.2.imp id fun h2 => ⟨h2.1, fun x y hx hy => ?_⟩⟩
    rw [hx, hy] at h2
    exact h2.2

/-- A REGION THAT DRAWS ITS ORDER, BY A PLAN. -/
theorem wp_region_plan {id : Nat} {a : Act} {w : World} (M : List Nat) (l : List (Nat × Cls)) (hf : P.follows .mixedOrders = true) (hk : planOk .any ops M l = true)
    (h : wpPlan P ops Q l a w.drew) : (Code.region id ops true).wp P Q a w := by
  refine wp_region_any hf ?_
  unfold planOk at hk
  simp only [Bool.and_eq_true, beq_iff_eq] at hk
  obtain ⟨⟨⟨⟨⟨h1, h2⟩, h3⟩, h4⟩, h5⟩, h6⟩ := hk
  refine plan_any (Region.noSelect_spec h1) h2 ops.size l _ a _ h5 ⟨?_, ?_, by simp, ?_, pairs_of l h3, ?_⟩ h
  · intro i hi
    refine ⟨fun _ => ?_, fun _ => by simp [hi]⟩
    have := List.all_eq_true.1 h6 i (List.mem_range.2 hi)
    obtain ⟨q, hq, he⟩ := List.any_eq_true.1 this
    exact ⟨q, hq, by simpa using he⟩
  · intro q hq
    obtain ⟨pre, post, rfl⟩ := List.append_of_mem hq
    obtain ⟨o, ho, _⟩ := line_of (listed := #[]) _ _ h4 pre q post rfl
    exact (Array.getElem?_eq_some_iff.1 ho).1
  · intro j o _ hj
    rcases Nat.lt_or_ge j ops.size with h | h
    · simp [h] at hj
    · simp [h] at hj
  · intro pre q post heq
    obtain ⟨o, ho, hd⟩ := line_of (listed := #[]) _ _ h4 pre q post heq
    exact ⟨o, ho, fun e he hb => .inr ((hd e he hb).resolve_left (by simp))⟩
end
end Go.Proofs.YtbgnkekiephfeaaDoor
