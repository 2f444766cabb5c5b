/-
  crc.Append: for every slice of bytes.
-/
import Derived.Test.YtbgnkekiephfeaaDoorA2
import Derived.Test.YtbgnkekiephfeaaDoorA3
namespace Go.Proofs.YtbgnkekiephfeaaDoor
open Go.RowKit

theorem trail_bytes (c k : Nat) : ∀ b ∈ trail c k, b < 256 := by
  intro b hb
  unfold trail at hb
  obtain ⟨j, _, rfl⟩ := List.mem_map.1 hb
  omega
theorem trail_zero (c : Nat) : trail c 0 = [] := rfl
theorem trail_len (c k : Nat) : (trail c k).length = k := by simp [trail]
theorem trail_succ (c k : Nat) : trail c (k + 1) = trail c k ++ [c / 256 ^ k % 256] := by simp [trail, List.range_succ]
theorem vb_eq (n : Nat) : vb n = .int .u8 (n : Int) := rfl

set_option maxHeartbeats 400000 in
theorem append_any (l : List Nat) (v : Value) (w : World) (h : RdB w v l) (hlen : l.length + 4 ≤ 140737488355328) :
    Calls Tryd.prog 10 #[v] w fun e w' => ∃ v', e = .returned v' ∧ OwnB w' w.heap.size v' (l ++ trail (sumOf 0 l) 4) ∧ Below w.heap.size w w' := by
  have hsum : sumOf 0 l < 4294967296 := by rw [sumOf_eq]; exact flip_lt (upd_lt (flip_lt (by decide)) h.bytes)
  have H := Lib.hid h
  clear h
  go_enter Tryd.func10, Tryd.ntmps10
  go_wp2_with fail
  refine (sum_any l v w H.out).mono ?_
  rintro e w1 ⟨rfl, hb1⟩
  have H1 := Lib.hid (H.out.below hb1 (Nat.le_refl _))
  generalize hs : sumOf 0 l = c at hsum
  have HS := Lib.hid hs
  clear hs
  go_wp2_with fail
  refine (sclone_any l v w1 H1.out).mono ?_
  rintro e w2 ⟨v2, rfl, ho2, hb2⟩
  have HO := Lib.hid (ho2.mono hb1.size)
  have HB := Lib.hid (hb1.trans (hb2.mono hb1.size))
  clear ho2 hb2 hb1
  go_wp2
  go_loopw [4, 10] (fun u i wr => ∃ k : Nat, k ≤ 4 ∧ i = .int .i64 k ∧ Hid (OwnB wr w.heap.size u (l ++ trail c k)) ∧ Hid (Below w.heap.size w wr)) (fun _ i _ => 4 - (intOf i).toNat)
  case atStart => exact ⟨0, by omega, rfl, Lib.hid (by rw [trail_zero, List.append_nil]; exact HO.out), HB⟩
  case round =>
    obtain ⟨k, hk, rfl, HO', HB'⟩ := hrel
    clear HO HB
    by_cases hlt : k < 4
    · obtain ⟨k1, hk1⟩ : ∃ k1, k1 = k + 1 := ⟨_, rfl⟩
      have hT := Lib.hid (trail_succ c k)
      rw [← hk1] at hT
      have HK1 := Lib.hid hk1
      clear hk1
      have hl : (l ++ trail c k).length + 1 ≤ 140737488355328 := by rw [List.length_append, trail_len]; omega
      have hb : c / 256 ^ k % 256 < 256 := by omega
      obtain rfl | rfl | rfl | rfl : k = 0 ∨ k = 1 ∨ k = 2 ∨ k = 3 := by omega
      all_goals
        go_wp2_with (at_builtin; refine wpList_appB (w := w) rfl (.tmp 13) (.tmp 19) rfl u4 _ _ _ (by simp <;> omega) hb rfl rfl HO'.out HB'.out hl ?_; intro v1 w1 ho hB; have HO1 := Lib.hid ho; have HB1 := Lib.hid hB; clear ho hB HO' HB')
        go_roundw
        case rel => exact ⟨k1, by have := HK1.out; omega, by rw [HK1.out]; go_num, Lib.hid (by rw [hT.out, ← List.append_assoc]; exact HO1.out), HB1⟩
        case measure => simp [intOf]
    · have : k = 4 := by omega
      subst this
      go_wp2
      go_ret
      exact ⟨_, rfl, by rw [HS.out]; exact HO'.out, HB'.out⟩
end Go.Proofs.YtbgnkekiephfeaaDoor
