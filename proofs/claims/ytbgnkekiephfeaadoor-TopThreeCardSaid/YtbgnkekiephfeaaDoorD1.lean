/-
  The cursor of package frame: next and rest.
-/
import Derived.Test.YtbgnkekiephfeaaDoorA6
import Derived.OneCell
namespace Go.Proofs.YtbgnkekiephfeaaDoor
open Go.RowKit

/-- The cells of a reader. -/
def rdr (s x1 x2 x3 x4 : Value) : Obj := .cells #[s, x1, x2, x3, x4] 46 (0, 0)
theorem rdr_cell {w : World} {g : Nat} {s x1 x2 x3 x4 : Value} (h : w.heap[g]? = some (rdr s x1 x2 x3 x4)) : ∀ o, w.cell? ⟨g, o, none⟩ = #[s, x1, x2, x3, x4][o]? := fun o => by simp [World.cell?, h, rdr]
theorem rdr_free {w : World} {g : Nat} {s x1 x2 x3 x4 : Value} (h : w.heap[g]? = some (rdr s x1 x2 x3 x4)) : ∀ o, w.frozen? ⟨g, o, none⟩ = false := fun o => by simp [World.frozen?, h, rdr]
theorem setCell_heap {w : World} {g o : Nat} {cs : Array Value} {t : TypeId} {v : Value} (h : w.heap[g]? = some (.cells cs t (0, 0))) : (w.setCell ⟨g, o, none⟩ v).heap[g]? = some (.cells (cs.setIfInBounds o v) t (0, 0)) := by
  simp only [World.setCell, Array.getElem?_modify, if_true]
  rw [h]
  rfl
theorem setCell_grown (w : World) (g o : Nat) (v : Value) : w.grownBy (w.setCell ⟨g, o, none⟩ v) (some g) :=
  ⟨rfl, rfl, rfl, by simp [World.setCell], fun k _ hk => Below.heap_setCell _ _ _ _ (fun e => hk (by rw [e]))⟩

set_option maxHeartbeats 400000 in
theorem next_any (g gb o n c b : Nat) (x1 x2 x3 x4 : Value) (w : World) (h : w.heap[g]? = some (rdr (.slice (some ⟨gb, o, none⟩) n c) x1 x2 x3 x4)) (hn : 2 ≤ n) (hc : n ≤ c) (hcm : c ≤ 9223372036854775807)
    (hb : w.cell? ⟨gb, o, none⟩ = some (.int .u8 (b : Int))) (hb8 : b < 256) :
    Calls Tryd.prog 21 #[.pointer (some ⟨g, 0, none⟩)] w fun e w' => e = .returned (.int .i64 b) ∧ w'.heap[g]? = some (rdr (.slice (some ⟨gb, o + 1, none⟩) (n - 1) (c - 1)) x1 x2 x3 x4) ∧ w.grownBy w' (some g) := by
  have hc0 := rdr_cell h 0
  have hf0 := rdr_free h 0
  simp only [List.size_toArray, List.getElem?_toArray, List.getElem?_cons_zero] at hc0
  have H := Lib.hid h
  have hs := run_drop22 gb o n c 1 (by omega) (by omega)
  have hn0 : (0 : Int) < (n : Int) := by omega
  clear h
  go_enter Tryd.func21, Tryd.ntmps21
  go_wp2
  go_ret
  exact ⟨rfl, setCell_heap H.out, setCell_grown _ _ _ _⟩

set_option maxHeartbeats 400000 in
theorem rest_any (l : List Nat) (g : Nat) (v x1 x2 x3 x4 : Value) (w : World) (h : w.heap[g]? = some (rdr v x1 x2 x3 x4)) (hv : RdB w v l) :
    Calls Tryd.prog 22 #[.pointer (some ⟨g, 0, none⟩)] w fun e w' => ∃ v', e = .returned v' ∧ OwnB w' w.heap.size v' l ∧ w'.heap[g]? = some (rdr (.slice none 0 0) x1 x2 x3 x4) ∧ w.grownBy w' (some g) := by
  have hc0 := rdr_cell h 0
  simp only [List.size_toArray, List.getElem?_toArray, List.getElem?_cons_zero] at hc0
  have H := Lib.hid h
  have HV := Lib.hid hv
  obtain ⟨A, c, rfl, _⟩ := hv.form
  clear h hv
  go_enter Tryd.func22, Tryd.ntmps22
  go_wp2_with fail
  refine (bclone_any l _ _ HV.out).mono ?_
  rintro e w1 ⟨v1, rfl, ho, hb⟩
  have hg := lt_of_block H.out
  have h1 : w1.heap[g]? = some (rdr (.slice A l.length c) x1 x2 x3 x4) := (hb.block g hg).trans H.out
  have hc1 := rdr_cell h1 0
  have hf1 := rdr_free h1 0
  simp only [List.size_toArray, List.getElem?_toArray, List.getElem?_cons_zero] at hc1
  have H1 := Lib.hid h1
  have HO := Lib.hid ho
  have HB := Lib.hid hb
  clear h1 ho hb
  go_wp2
  go_ret
  refine ⟨_, rfl, ?_, setCell_heap H1.out, ?_⟩
  · have := HO.out.own
    refine ⟨HO.out.bytes, HO.out.len, ownsRow_setCell_other this ?_ _⟩
    intro e
    have := (this.lt g e).1
    omega
  · have hb := HB.out
    exact World.grownBy.trans ⟨hb.os, hb.tape, hb.output, hb.size, fun k hk _ => hb.block k hk⟩ (setCell_grown _ _ _ _)
end Go.Proofs.YtbgnkekiephfeaaDoor
