/-
  slices.Clone and bytes.Clone at bytes: for every slice of bytes, nil and empty ones too.
-/
import Derived.Test.YtbgnkekiephfeaaDoorA0
import Derived.Test.YtbgnkekiephfeaaDoorK0
namespace Go.Proofs.YtbgnkekiephfeaaDoor
open Go.RowKit

theorem addr_add (g o j : Nat) : (⟨g, o, none⟩ : Addr).add j = ⟨g, o + j, none⟩ := by unfold Addr.add; split <;> simp_all
theorem vb_cell (n : Nat) : (vb n).oneCell' = true := rfl
theorem RdB.src {w : World} {v : Value} {l : List Nat} (h : RdB w v l) : Src w v l.length 1 (l.map vb) := by
  obtain ⟨A, c, rfl, h1, h2, hc⟩ := h.form
  refine ⟨by simp, fun y hy => ?_, A, c, rfl, fun hp => ?_⟩
  · obtain ⟨n, _, rfl⟩ := List.mem_map.1 hy; rfl
  · obtain ⟨g, o, rfl, hg⟩ := hc hp
    refine ⟨_, rfl, fun j y hj => ?_⟩
    rw [List.getElem?_map] at hj
    obtain ⟨n, hn, rfl⟩ := Option.map_eq_some_iff.1 hj
    have hlt : j < l.length := by
      rcases Nat.lt_or_ge j l.length with h | h
      · exact h
      · rw [List.getElem?_eq_none h] at hn; cases hn
    have := hg j hlt
    rw [hn] at this
    rw [addr_add]
    exact this

theorem OwnB.app {w w' : World} {base : Nat} {v v' : Value} {l m : List Nat} (hl : OwnB w base v l) (hm : ∀ b ∈ m, b < 256) (hlen : l.length + m.length ≤ 140737488355328)
    (h : w'.ownsRow base 5 1 v' (l.length + m.length) (l.map vb ++ m.map vb)) : OwnB w' base v' (l ++ m) := by
  refine ⟨fun b hb => ?_, by simpa using hlen, by simpa using h⟩
  rcases List.mem_append.1 hb with hb | hb
  · exact hl.bytes b hb
  · exact hm b hb
theorem OwnB.lt {w : World} {base : Nat} {v : Value} {l : List Nat} (h : OwnB w base v l) : ∀ k, v.ownBlock = some k → base ≤ k := fun k hk => (h.own.lt k hk).1
theorem OwnB.empty (w : World) (base : Nat) (hb : base ≤ w.heap.size) : OwnB (w.alloc (.cells #[] 5)) base (.slice (some ⟨w.heap.size, 0, none⟩) 0 0) [] :=
  ⟨by simp, by simp, World.ownsRow_lit w #[] 0 hb (by simp only [maxLen]; omega) rfl⟩

theorem own_nil_ (W : World) (base : Nat) : W.ownsRow base 5 1 (.slice none 0 0) 0 [] := ⟨by simp, .inl ⟨rfl, rfl⟩⟩

set_option maxHeartbeats 400000 in
theorem sclone_any (l : List Nat) (v : Value) (w : World) (h : RdB w v l) :
    Calls Tryd.prog 19 #[v] w fun e w' => ∃ v', e = .returned v' ∧ OwnB w' w.heap.size v' l ∧ Below w.heap.size w w' := by
  obtain ⟨A, c, rfl, hlc, hcm, hform⟩ := h.form
  have hlen := h.len
  rcases A with _ | ad
  · have hl : l = [] := List.eq_nil_of_length_eq_zero (by
      rcases Nat.eq_zero_or_pos l.length with h0 | h0
      · exact h0
      · obtain ⟨_, _, hn, _⟩ := hform h0; cases hn)
    subst hl
    have hnil := fun w => Lib.run_eql_slice_nil (P := Tryd.prog) w 22 5 none 0 c 0 0 Tryd.underlying22
    clear h hform
    go_enter Tryd.func19, Tryd.ntmps19
    go_wp2
    go_ret
    exact ⟨_, rfl, ⟨by simp, by simp, own_nil_ _ _⟩, Below.refl _ _⟩
  · have hsrc := h.src
    have hby := h.bytes
    have HS := Lib.hid (show ∀ o, Src (w.alloc o) (.slice (some ad) l.length c) l.length 1 (l.map vb) from fun o => (h.below ((Below.refl w.heap.size w).alloc (Nat.le_refl _) o) (Nat.le_refl _)).src)
    have HY := Lib.hid hby
    have HE := Lib.hid (OwnB.empty w w.heap.size (Nat.le_refl _))
    have hnil := fun w => Lib.run_eql_slice_nil (P := Tryd.prog) w 22 5 (some ad) l.length c 0 0 Tryd.underlying22
    clear h hform hsrc hby
    go_enter Tryd.func19, Tryd.ntmps19
    go_wp2_with (at_builtin; refine wpList_append_src _ rfl (.tmp 5) (.tmp 6) 22 5 rfl w.heap.size (.int .u8 0) 1 1 Tryd.underlying22 info5 rfl (by decide) (by decide) _ _ 0 l.length [] _ rfl rfl HE.out.own (HS.out _) (by omega) (by simp) ?_; intro v1 w1 ho hg _)
    go_ret
    refine ⟨_, rfl, HE.out.app HY.out (by simpa using hlen) (by simpa using ho), ?_⟩
    exact ((Below.refl w.heap.size w).alloc (Nat.le_refl _) _).grown hg (by simp) HE.out.lt

set_option maxHeartbeats 400000 in
theorem bclone_any (l : List Nat) (v : Value) (w : World) (h : RdB w v l) :
    Calls Tryd.prog 15 #[v] w fun e w' => ∃ v', e = .returned v' ∧ OwnB w' w.heap.size v' l ∧ Below w.heap.size w w' := by
  obtain ⟨A, c, rfl, hlc, hcm, hform⟩ := h.form
  have hlen := h.len
  rcases A with _ | ad
  · have hl : l = [] := List.eq_nil_of_length_eq_zero (by
      rcases Nat.eq_zero_or_pos l.length with h0 | h0
      · exact h0
      · obtain ⟨_, _, hn, _⟩ := hform h0; cases hn)
    subst hl
    have hnil := fun w => Lib.run_eql_slice_nil (P := Tryd.prog) w 22 5 none 0 c 0 0 Tryd.underlying22
    clear h hform
    go_enter Tryd.func15, Tryd.ntmps15
    go_wp2
    go_ret
    exact ⟨_, rfl, ⟨by simp, by simp, own_nil_ _ _⟩, Below.refl _ _⟩
  · have hsrc := h.src
    have hby := h.bytes
    have HS := Lib.hid (show ∀ o, Src (w.alloc o) (.slice (some ad) l.length c) l.length 1 (l.map vb) from fun o => (h.below ((Below.refl w.heap.size w).alloc (Nat.le_refl _) o) (Nat.le_refl _)).src)
    have HY := Lib.hid hby
    have HE := Lib.hid (OwnB.empty w w.heap.size (Nat.le_refl _))
    have hnil := fun w => Lib.run_eql_slice_nil (P := Tryd.prog) w 22 5 (some ad) l.length c 0 0 Tryd.underlying22
    clear h hform hsrc hby
    go_enter Tryd.func15, Tryd.ntmps15
    go_wp2_with (at_builtin; refine wpList_append_src _ rfl (.tmp 5) (.tmp 6) 22 5 rfl w.heap.size (.int .u8 0) 1 1 Tryd.underlying22 info5 rfl (by decide) (by decide) _ _ 0 l.length [] _ rfl rfl HE.out.own (HS.out _) (by omega) (by simp) ?_; intro v1 w1 ho hg _)
    go_ret
    refine ⟨_, rfl, HE.out.app HY.out (by simpa using hlen) (by simpa using ho), ?_⟩
    exact ((Below.refl w.heap.size w).alloc (Nat.le_refl _) _).grown hg (by simp) HE.out.lt

/-- append(v, x) of one byte. -/
theorem wpList_appB {ops : Array Oper} {rest : List Oper} {o : Oper} {a : Act} {Q : Exit → Act → World → Prop} {w W : World} (hgd : o.guard = none) (s x : Operand)
    (ho : o.op = .call { callee := .builtin .append, args := #[s, x], argTypes := #[22, 22] })
    (v : Value) (l : List Nat) (b : Nat) (y : Int) (hy : y = (b : Int)) (hb : b < 256) (hs : a.eval s = v) (hx : a.eval x = .slice (some ⟨W.heap.size, 0, none⟩) 1 1)
    (own : OwnB W w.heap.size v l) (hB : Below w.heap.size w W) (hlen : l.length + 1 ≤ 140737488355328)
    (h : ∀ v1 w1, OwnB w1 w.heap.size v1 (l ++ [b]) → Below w.heap.size w w1 → wpList Tryd.prog ops Q rest (a.put o.dst v1) w1) :
    wpList Tryd.prog ops Q (o :: rest) a (W.alloc (.cells #[.int .u8 y] 5)) := by
  subst hy
  refine wpList_append_src _ hgd s x 22 5 ho w.heap.size (.int .u8 0) 1 1 Tryd.underlying22 info5 rfl (by decide) (by decide) v _ l.length 1 (l.map vb) [vb b] hs hx (own.own.alloc _)
    (Src.one W (vb b) 5 rfl) (by omega) (by have := hB.size; simp; omega) ?_
  intro v1 w1 hown hg _
  refine h v1 w1 ⟨?_, by simpa using hlen, by simpa using hown⟩ ((hB.alloc hB.size _).grown hg (by have := hB.size; simp; omega) own.lt)
  intro c hc
  rcases List.mem_append.1 hc with hc | hc
  · exact own.bytes c hc
  · simp at hc; omega
end Go.Proofs.YtbgnkekiephfeaaDoor
