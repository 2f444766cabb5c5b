/-
  A region that draws its order, by a plan, in a round of a range over a function (under the widest fence).
-/
import Derived.Test.YtbgnkekiephfeaaDoorK2
import Derived.Test.YtbgnkekiephfeaaDoorK3
import Derived.OrdersIn
namespace Go.Proofs.YtbgnkekiephfeaaDoor
open Go.RowKit

def noDefer (ops : Array Oper) : Bool := ops.all fun o => match o.op with | .defer _ => false | _ => true
theorem noDefer_spec {ops : Array Oper} (h : noDefer ops = true) {i : Nat} {o : Oper} (ho : ops[i]? = some o) : ∀ c, o.op ≠ .defer c := by
  intro c heq
  have := Array.all_eq_true_iff_forall_mem.1 h o (Array.mem_of_getElem? ho)
  simp [heq] at this

section
variable {P : Program} {ops : Array Oper} {Q : Exit → Act → World → Prop} {md : Region.Mode} {lp nn : Nat}
theorem rows_wide {row : String} {args : Array Value} {w : World} {R : Value → World → Prop} (h : Rows P row args w R) : RowsIn (Fence.wide.inRound lp) nn P row args w R :=
  fun c cs _ => let ⟨v, w', r, s⟩ := h c cs; ⟨v, w', r, stepsIn_wide.2 s⟩
theorem wp_wpIn {o : Oper} {a : Act} {w : World} {K : Act → World → Prop} (hdf : ∀ c, o.op ≠ .defer c) (h : o.wp P a w K Q) : o.wpIn (Fence.wide.inRound lp) nn P a w K Q := by
  refine ⟨fun f _ => trivial, ?_⟩
  rw [Oper.semAt_eq _ _ _ hdf]
  unfold Oper.wp at h
  generalize (execOp a.eval o).run P w = r at *
  have hd : (Fence.wide.inRound lp).depth.isSome = true → 1 ≤ nn := fun h => absurd h (by simp [Fence.wide, Fence.inRound])
  cases r with
  | ok x w' =>
    cases x <;> simp only [Oper.upon, Oper.uponIn] at h ⊢ <;>
      first
        | exact h
        | exact ⟨hd, CallsIn.inRound lp (callsIn_wide.2 h)⟩
        | exact ⟨hd, rows_wide h⟩
  | halt x w' => cases x <;> simp only [Oper.upon, Oper.uponIn] at h ⊢ <;> exact h
theorem stepP_wpOpIn {c : Cls} {i : Nat} {K : Act → World → Prop} {a : Act} {w : World} (hdef : noDefer ops = true) (h : stepP P ops Q c i K a w) : wpOpIn (Fence.wide.inRound lp) nn P ops Q i K a w := by
  obtain ⟨o, ho, h⟩ := h
  have hdf := noDefer_spec hdef ho
  unfold wpOpIn
  simp only [ho]
  rcases h with ⟨hw, h⟩ | ⟨hw, h⟩
  · simp only [hw, Bool.false_eq_true, if_false]; exact ⟨fun f _ => trivial, h⟩
  · simp only [hw, if_true]
    refine wp_wpIn hdf ?_
    cases c with
    | L => obtain ⟨v, hv, h⟩ := h; simp only [Oper.wp, hv w, Oper.upon]; exact h
    | R => obtain ⟨v, hv, h⟩ := h; simp only [Oper.wp, hv w (Ext.refl w), Oper.upon]; exact h
    | A => exact wp_imp (fun _ _ h => h.2) noPanic_imp h
    | W => exact wp_imp (fun _ _ h => h) noPanic_imp h

theorem plan_anyIn {M : List Nat} (hsel : ∀ (j : Nat) (o : Oper) cs b, ops[j]? = some o → o.op ≠ .select cs b) (hm : masksOk md ops M = true) (hdef : noDefer ops = true) :
    ∀ (n : Nat) (l : List (Nat × Cls)) (listed : Array Bool) (a : Act) (w : World), l.length = n → Inv md ops M listed l → wpPlan P ops Q l a w → wpAnyIn (Fence.wide.inRound lp) nn P md ops Q n listed a w := by
  intro n
  induction n with
  | zero =>
    intro l listed a w hl inv h
    obtain rfl : l = [] := List.eq_nil_of_length_eq_zero hl
    refine ⟨?_, h⟩
    rw [List.eq_nil_iff_forall_not_mem]
    intro i hi
    obtain ⟨hu, o, ho, _⟩ := mem_ready.1 hi
    obtain ⟨q, hq, _⟩ := (inv.un i (Array.getElem?_eq_some_iff.1 ho).1).1 hu
    cases hq
  | succ n ih =>
    intro l listed a w hl inv h
    refine ⟨fun hr => ?_, fun i hi => ?_⟩
    · cases l with
      | nil => cases hl
      | cons q rest =>
        obtain ⟨o, ho, hd⟩ := inv.line [] q rest rfl
        have : q.1 ∈ Region.ready md ops listed := mem_ready.2 ⟨(inv.un q.1 (Array.getElem?_eq_some_iff.1 ho).1).2 ⟨q, by simp, rfl⟩, o, ho, fun e he hb => (hd e he hb).resolve_right (by simp)⟩
        rw [hr] at this
        cases this
    · obtain ⟨hu, o, ho, hdeps⟩ := mem_ready.1 hi
      have hi' : i < ops.size := (Array.getElem?_eq_some_iff.1 ho).1
      obtain ⟨q, hq, rfl⟩ := (inv.un i hi').1 hu
      obtain ⟨pre, post, rfl⟩ := List.append_of_mem hq
      have hpw := inv.pairs
      have hpre : ∀ p ∈ pre, PassOk ops p q := by
        intro p hp
        have h1 := (List.pairwise_append.1 hpw).2.2 p hp q (by simp)
        refine h1.2.resolve_left fun hbit => ?_
        have h2 := masks_listed hm inv.closed p.1 q.1 o ho hdeps hbit
        have hpl := inv.lt p (by simp [hp])
        have h3 := (inv.un p.1 hpl).2 ⟨p, by simp [hp], rfl⟩
        rw [getD_flip (by rw [inv.size]; exact hpl), h2] at h3
        cases h3
      have h1 := plan_front hsel pre hpre a w h
      refine wpOpIn_mono (fun a' w' h' => ih (pre ++ post) (listed.setIfInBounds q.1 true) a' w' (by simp at hl ⊢; omega) ?_ h') (stepP_wpOpIn hdef h1)
      have hne : ∀ p ∈ pre ++ post, p.1 ≠ q.1 := by
        intro p hp
        rcases List.mem_append.1 hp with hp | hp
        · exact ((List.pairwise_append.1 hpw).2.2 p hp q (by simp)).1
        · exact Ne.symm ((List.pairwise_cons.1 (List.pairwise_append.1 hpw).2.1).1 p hp).1
      have hset : (listed.setIfInBounds q.1 true).getD q.1 false = true := by
        have : q.1 < listed.size := by rw [inv.size]; exact hi'
        simp [this]
      refine ⟨?_, fun p hp => inv.lt p (by rcases List.mem_append.1 hp with hp | hp <;> simp [hp]), by simp [inv.size], ?_, ?_, ?_⟩
      · intro j hj
        by_cases hjq : q.1 = j
        · subst hjq
          constructor
          · intro h2
            rw [getD_flip (by simp [inv.size]; exact hj), hset] at h2
            cases h2
          · rintro ⟨p, hp, he⟩
            exact absurd he (hne p hp)
        · rw [getD_set_ne true hjq, inv.un j hj]
          constructor
          · rintro ⟨p, hp, he⟩
            refine ⟨p, ?_, he⟩
            rcases List.mem_append.1 hp with hp | hp
            · simp [hp]
            · rcases List.mem_cons.1 hp with rfl | hp
              · exact absurd he hjq
              · simp [hp]
          · rintro ⟨p, hp, he⟩
            exact ⟨p, by rcases List.mem_append.1 hp with hp | hp <;> simp [hp], he⟩
      · intro j oj hj hlj e he hb
        by_cases hjq : q.1 = j
        · subst hjq
          obtain rfl : o = oj := Option.some.inj (ho.symm.trans hj)
          exact getD_set_true (hdeps e he hb)
        · rw [getD_set_ne false hjq] at hlj
          exact getD_set_true (inv.closed j oj hj hlj e he hb)
      · exact hpw.sublist ((List.Sublist.refl pre).append (List.sublist_cons_self q post))
      · intro pre' r post' heq
        have hr : r ∈ pre ++ post := by rw [heq]; simp
        rcases List.append_eq_append_iff.1 heq with ⟨s, hs1, hs2⟩ | ⟨s, hs1, hs2⟩
        · subst hs1
          obtain ⟨or, hor, hd⟩ := inv.line (pre ++ q :: s) r post' (by rw [hs2]; simp)
          refine ⟨or, hor, fun e he hb => ?_⟩
          rcases hd e he hb with hd | ⟨p, hp, hpe⟩
          · exact .inl (getD_set_true hd)
          · rcases List.mem_append.1 hp with hp | hp
            · exact .inr ⟨p, by simp [hp], hpe⟩
            · rcases List.mem_cons.1 hp with rfl | hp
              · exact .inl (by rw [← hpe]; exact hset)
              · exact .inr ⟨p, by simp [hp], hpe⟩
        · subst hs1
          cases s with
          | nil =>
            obtain ⟨or, hor, hd⟩ := inv.line (pre' ++ [q]) r post' (by simp at hs2; simp [← hs2])
            refine ⟨or, hor, fun e he hb => ?_⟩
            rcases hd e he hb with hd | ⟨p, hp, hpe⟩
            · exact .inl (getD_set_true hd)
            · rcases List.mem_append.1 hp with hp | hp
              · exact .inr ⟨p, hp, hpe⟩
              · obtain rfl : p = q := by simpa using hp
                exact .inl (by rw [← hpe]; exact hset)
          | cons s0 s =>
            obtain ⟨rfl, rfl⟩ : r = s0 ∧ post' = s ++ post := by simpa using hs2
            obtain ⟨or, hor, hd⟩ := inv.line pre' r (s ++ q :: post) (by simp)
            exact ⟨or, hor, fun e he hb => (hd e he hb).imp getD_set_true id⟩

/-- A REGION THAT DRAWS ITS ORDER, BY A PLAN. -/
theorem wp_region_planIn {id : Nat} {a : Act} {w : World} (M : List Nat) (l : List (Nat × Cls)) (hf : P.follows .mixedOrders = true) (hk : planOk .any ops M l = true) (hdef : noDefer ops = true)
    (h : wpPlan P ops Q l a w.drew) : (Code.region id ops true).wpIn (Fence.wide.inRound lp) nn P Q a w := by
  refine wpIn_region_any hf ?_
  unfold planOk at hk
  simp only [Bool.and_eq_true, beq_iff_eq] at hk
  obtain ⟨⟨⟨⟨⟨h1, h2⟩, h3⟩, h4⟩, h5⟩, h6⟩ := hk
  refine plan_anyIn (Region.noSelect_spec h1) h2 hdef ops.size l _ a _ h5 ⟨?_, ?_, by simp, ?_, pairs_of l h3, ?_⟩ h
  · intro i hi
    refine ⟨fun _ => ?_, fun _ => by simp [hi]⟩
    have := List.all_eq_true.1 h6 i (List.mem_range.2 hi)
    obtain ⟨q, hq, he⟩ := List.any_eq_true.1 this
    exact ⟨q, hq, by simpa using he⟩
  · intro q hq
    obtain ⟨pre, post, rfl⟩ := List.append_of_mem hq
    obtain ⟨o, ho, _⟩ := line_of (listed := #[]) _ _ h4 pre q post rfl
    exact (Array.getElem?_eq_some_iff.1 ho).1
  · intro j o _ hj
    rcases Nat.lt_or_ge j ops.size with h | h
    · simp [h] at hj
    · simp [h] at hj
  · intro pre q post heq
    obtain ⟨o, ho, hd⟩ := line_of (listed := #[]) _ _ h4 pre q post heq
    exact ⟨o, ho, fun e he hb => .inr ((hd e he hb).resolve_left (by simp))⟩
end
end Go.Proofs.YtbgnkekiephfeaaDoor
