/-
  bytes.Equal and frame.Same where the frames are equal; bytes as a string.
-/
import Derived.Test.YtbgnkekiephfeaaDoorB1
namespace Go.Proofs.YtbgnkekiephfeaaDoor
open Go.RowKit

def strB (l : List Nat) : ByteArray := strOfNums (l.map Int.ofNat)
theorem conv_rd {w : World} {v : Value} {l : List Nat} (h : RdB w v l) : (convert 22 9 v).run Tryd.prog w = .ok (.string (strB l)) w := by
  obtain ⟨A, c, rfl, h1, h2, hc⟩ := h.form
  rcases Nat.eq_zero_or_pos l.length with h0 | h0
  · have hl : l = [] := List.eq_nil_of_length_eq_zero h0
    subst hl
    rcases A with _ | ⟨b, o, s⟩
    · exact run_convert_bytes_nil (P := Tryd.prog) w 22 5 Tryd.underlying22 Tryd.underlying5 0 c 9 Tryd.underlying9
    · have hl : (loadCells (⟨b, o, s⟩ : Addr) 0).run Tryd.prog w = .ok (([] : List Int).map (Value.int .u8)).toArray w := by simp [loadCells, loadCellsFrom, Sem.run_pure]
      have := run_bytesToString (P := Tryd.prog) (w := w) ⟨b, o, s⟩ 0 c [] hl
      rw [List.length_nil, run_convert_bytes_string w 22 9 5 _ 0 c Tryd.underlying22 Tryd.underlying5 Tryd.underlying9, this]
      rfl
  · obtain ⟨g, o, rfl, hg⟩ := hc h0
    refine run_convert_bytes_arg (P := Tryd.prog) w 22 5 Tryd.underlying22 Tryd.underlying5 g o l.length c (l.map Int.ofNat) (by simp) (fun i hi => ?_) 9 Tryd.underlying9
    rw [hg i hi]
    simp [List.getD_eq_getElem?_getD, List.getElem?_eq_getElem hi]

set_option maxHeartbeats 400000 in
theorem equal_same (l : List Nat) (v u : Value) (w : World) (hv : RdB w v l) (hu : RdB w u l) :
    Calls Tryd.prog 14 #[v, u] w fun e w' => e = .returned (.bool true) ∧ w' = w := by
  have h1 := conv_rd hv
  have h2 := conv_rd hu
  clear hv hu
  generalize strB l = s at h1 h2
  go_enter Tryd.func14, Tryd.ntmps14
  go_wp2
  go_ret
  exact ⟨rfl, rfl⟩

set_option maxHeartbeats 400000 in
theorem same_any (vl net seq : Int) (l : List Nat) (v u : Value) (w : World) (hv : RdB w v l) (hu : RdB w u l) :
    Calls Tryd.prog 7 #[.agg #[.int .i64 vl, .int .i64 net, .int .i64 seq, v], .agg #[.int .i64 vl, .int .i64 net, .int .i64 seq, u]] w fun e w' => e = .returned (.bool true) ∧ Below w.heap.size w w' := by
  obtain ⟨A, c, rfl, _⟩ := hv.form
  obtain ⟨B, d, rfl, _⟩ := hu.form
  have hb : Below w.heap.size w ((w.alloc (.cells #[.int .i64 vl, .int .i64 net, .int .i64 seq, .slice A l.length c] 24)).alloc (.cells #[.int .i64 vl, .int .i64 net, .int .i64 seq, .slice B l.length d] 24)) :=
    ((Below.refl _ _).alloc (Nat.le_refl _) _).alloc (by simp) _
  have HV := Lib.hid (hv.below hb (Nat.le_refl _))
  have HU := Lib.hid (hu.below hb (Nat.le_refl _))
  have HB := Lib.hid hb
  clear hv hu hb
  have h1 : ∀ n : Int, (n == n) = true := fun n => by simp
  go_enter Tryd.func7, Tryd.ntmps7
  go_wp2_with fail
  refine (equal_same l _ _ _ HV.out HU.out).mono ?_
  rintro e w' ⟨rfl, rfl⟩
  go_wp2
  go_ret
  exact ⟨rfl, HB.out⟩
end Go.Proofs.YtbgnkekiephfeaaDoor
