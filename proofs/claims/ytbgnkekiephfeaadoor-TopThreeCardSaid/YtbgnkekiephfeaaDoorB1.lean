/-
  frame.Valid, frame.head, frame.Size, bytes.Equal.
-/
import Derived.Test.YtbgnkekiephfeaaDoorA6
namespace Go.Proofs.YtbgnkekiephfeaaDoor
open Go.RowKit

theorem ret_bool {a b : Bool} (h : a = b) : Ending.returned (.bool a) = .returned (.bool b) := by rw [h]
def vld (vl net seq : Int) (n : Nat) : Bool := decide (0 ≤ vl ∧ vl ≤ 15 ∧ 0 ≤ net ∧ net ≤ 1 ∧ 0 ≤ seq ∧ seq ≤ 255 ∧ 1 ≤ n ∧ n ≤ 64)

set_option maxHeartbeats 400000 in
theorem within_t (n lo hi : Int) (w : World) (h1 : lo ≤ n) (h2 : n ≤ hi) :
    Calls Tryd.prog 17 #[.int .i64 n, .int .i64 lo, .int .i64 hi] w fun e w' => e = .returned (.bool true) ∧ w' = w := by
  have d1 : decide (lo ≤ n) = true := by simpa using h1
  have d2 : decide (n ≤ hi) = true := by simpa using h2
  clear h1 h2
  go_enter Tryd.func17, Tryd.ntmps17
  go_wp2
  go_ret
  exact ⟨rfl, rfl⟩
set_option maxHeartbeats 400000 in
theorem within_f (n lo hi : Int) (w : World) (h : n < lo ∨ hi < n) :
    Calls Tryd.prog 17 #[.int .i64 n, .int .i64 lo, .int .i64 hi] w fun e w' => e = .returned (.bool false) ∧ w' = w := by
  by_cases h1 : lo ≤ n
  · have d1 : decide (lo ≤ n) = true := by simpa using h1
    have d2 : decide (n ≤ hi) = false := by simp; omega
    clear h1 h
    go_enter Tryd.func17, Tryd.ntmps17
    go_wp2
    go_ret
    exact ⟨rfl, rfl⟩
  · have d1 : decide (lo ≤ n) = false := by simpa using h1
    clear h1 h
    go_enter Tryd.func17, Tryd.ntmps17
    go_wp2
    go_ret
    exact ⟨rfl, rfl⟩

set_option maxHeartbeats 1000000 in
theorem valid_any (vl net seq : Int) (A : Option Addr) (n c : Nat) (w : World) (hn : n ≤ 140737488355328) :
    Calls Tryd.prog 9 #[.agg #[.int .i64 vl, .int .i64 net, .int .i64 seq, .slice A n c]] w fun e w' => e = .returned (.bool (vld vl net seq n)) ∧ Below w.heap.size w w' := by
  by_cases h1 : 0 ≤ vl ∧ vl ≤ 15
  · by_cases h2 : 0 ≤ net ∧ net ≤ 1
    · by_cases h3 : 0 ≤ seq ∧ seq ≤ 255
      · by_cases h4 : 1 ≤ n ∧ n ≤ 64
        · have HV : Hid (vld vl net seq n = true) := Lib.hid (by unfold vld; simp; omega)
          go_enter Tryd.func9, Tryd.ntmps9
          go_wp2_with (go_at_call 17; refine (within_t _ _ _ _ (by omega) (by omega)).mono ?_; rintro e w' ⟨rfl, rfl⟩)
          go_ret
          exact ⟨ret_bool HV.out.symm, (Below.refl _ _).alloc (Nat.le_refl _) _⟩
        · have HV : Hid (vld vl net seq n = false) := Lib.hid (by unfold vld; simp; omega)
          go_enter Tryd.func9, Tryd.ntmps9
          go_wp2_with fail
          refine (within_t _ _ _ _ (by omega) (by omega)).mono ?_; rintro e w' ⟨rfl, rfl⟩
          go_wp2_with fail
          refine (within_t _ _ _ _ (by omega) (by omega)).mono ?_; rintro e w' ⟨rfl, rfl⟩
          go_wp2_with fail
          refine (within_t _ _ _ _ (by omega) (by omega)).mono ?_; rintro e w' ⟨rfl, rfl⟩
          go_wp2_with fail
          refine (within_f _ _ _ _ (by omega)).mono ?_; rintro e w' ⟨rfl, rfl⟩
          go_wp2
          go_ret
          exact ⟨ret_bool HV.out.symm, (Below.refl _ _).alloc (Nat.le_refl _) _⟩
      · have HV : Hid (vld vl net seq n = false) := Lib.hid (by unfold vld; simp; omega)
        go_enter Tryd.func9, Tryd.ntmps9
        go_wp2_with fail
        refine (within_t _ _ _ _ (by omega) (by omega)).mono ?_; rintro e w' ⟨rfl, rfl⟩
        go_wp2_with fail
        refine (within_t _ _ _ _ (by omega) (by omega)).mono ?_; rintro e w' ⟨rfl, rfl⟩
        go_wp2_with fail
        refine (within_f _ _ _ _ (by omega)).mono ?_; rintro e w' ⟨rfl, rfl⟩
        go_wp2
        go_ret
        exact ⟨ret_bool HV.out.symm, (Below.refl _ _).alloc (Nat.le_refl _) _⟩
    · have HV : Hid (vld vl net seq n = false) := Lib.hid (by unfold vld; simp; omega)
      go_enter Tryd.func9, Tryd.ntmps9
      go_wp2_with fail
      refine (within_t _ _ _ _ (by omega) (by omega)).mono ?_; rintro e w' ⟨rfl, rfl⟩
      go_wp2_with fail
      refine (within_f _ _ _ _ (by omega)).mono ?_; rintro e w' ⟨rfl, rfl⟩
      go_wp2
      go_ret
      exact ⟨ret_bool HV.out.symm, (Below.refl _ _).alloc (Nat.le_refl _) _⟩
  · have HV : Hid (vld vl net seq n = false) := Lib.hid (by unfold vld; simp; omega)
    go_enter Tryd.func9, Tryd.ntmps9
    go_wp2_with fail
    refine (within_f _ _ _ _ (by omega)).mono ?_; rintro e w' ⟨rfl, rfl⟩
    go_wp2
    go_ret
    exact ⟨ret_bool HV.out.symm, (Below.refl _ _).alloc (Nat.le_refl _) _⟩

set_option maxHeartbeats 400000 in
theorem size_any (n : Int) (w : World) (h0 : 0 ≤ n) (h1 : n ≤ 64) : Calls Tryd.prog 6 #[.int .i64 n] w fun e w' => e = .returned (.int .i64 (n + 8)) ∧ w' = w := by
  go_enter Tryd.func6, Tryd.ntmps6
  go_wp2
  go_ret
  exact ⟨rfl, rfl⟩

set_option maxHeartbeats 400000 in
theorem head_any (zs : List Nat) (g c : Nat) (w : World) (hb : ∀ b ∈ zs, b < 256) (hlen : zs.length ≤ 64) (hc : ∀ i, i < zs.length → w.cell? ⟨g, i, none⟩ = some (.int .i64 ((zs[i]?.getD 0 : Nat) : Int))) :
    Calls Tryd.prog 11 #[.slice (some ⟨g, 0, none⟩) zs.length c] w fun e w' => ∃ v, e = .returned v ∧ OwnB w' w.heap.size v zs ∧ Below w.heap.size w w' := by
  have HC := Lib.hid hc
  have HB0 := Lib.hid hb
  clear hc hb
  go_enter Tryd.func11, Tryd.ntmps11
  go_wp2
  go_loopw [3, 8] (fun u i wr => ∃ k : Nat, k ≤ zs.length ∧ i = .int .i64 k ∧ Hid (OwnB wr w.heap.size u (zs.take k)) ∧ Hid (Below w.heap.size w wr)) (fun _ i _ => zs.length - (intOf i).toNat)
  case atStart => exact ⟨0, by omega, rfl, Lib.hid ⟨by simp, by simp, own_nil_ _ _⟩, Lib.hid (Below.refl _ _)⟩
  case round =>
    obtain ⟨k, hk, rfl, HO, HB⟩ := hrel
    by_cases hlt : k < zs.length
    · have hck := HC.out k hlt
      have hblk := World.block_lt_of_cell? _ _ hck
      have hck' := (HB.out.cell (p := ⟨g, k, none⟩) hblk).trans hck
      have hT := Lib.hid (take_succ_getD zs k hlt)
      have hbb := getD_lt HB0.out k
      have hl : (zs.take k).length + 1 ≤ 140737488355328 := by rw [List.length_take]; omega
      clear hck
      generalize zs[k]?.getD 0 = b at hck' hT hbb
      go_wp2_with (at_builtin; refine wpList_appB (w := w) rfl (.tmp 12) (.tmp 15) rfl u3 _ b _ (by omega) hbb rfl rfl HO.out HB.out hl ?_; intro v1 w1 ho hB; have HO1 := Lib.hid ho; have HB1 := Lib.hid hB; clear ho hB HO HB)
      go_roundw
      case rel => exact ⟨k + 1, by omega, by go_num, Lib.hid (by rw [hT.out]; exact HO1.out), HB1⟩
      case measure => simp [intOf]; omega
    · have : k = zs.length := by omega
      subst this
      rw [List.take_length] at HO
      go_wp2
      go_ret
      exact ⟨_, rfl, HO.out, HB.out⟩
end Go.Proofs.YtbgnkekiephfeaaDoor
