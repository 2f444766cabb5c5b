/-
  crc.Update and crc.Sum: for every slice of bytes.
-/
import Derived.Test.YtbgnkekiephfeaaDoorA0
import Derived.Test.YtbgnkekiephfeaaDoorA1
namespace Go.Proofs.YtbgnkekiephfeaaDoor
open Go.RowKit

theorem take_succ_getD (l : List Nat) (k : Nat) (h : k < l.length) : l.take (k + 1) = l.take k ++ [l[k]?.getD 0] := by
  rw [List.take_succ_eq_append_getElem h, List.getElem?_eq_getElem h]; rfl
theorem bytes_take {l : List Nat} (h : ∀ b ∈ l, b < 256) (k : Nat) : ∀ b ∈ l.take k, b < 256 := fun b hb => h b (List.mem_of_mem_take hb)
theorem updB_eq (r b : Nat) : updB r b = r / 256 ^^^ tab ((r % 256) ^^^ b) := by unfold updB; rfl
theorem upd_nil (r : Nat) : upd r [] = r := by unfold upd; rfl
theorem sumOf_eq (s : Nat) (l : List Nat) : sumOf s l = flip (upd (flip s) l) := by unfold sumOf; rfl
theorem flip_eq (x : Nat) : flip x = x ^^^ 4294967295 := by unfold flip; rfl
theorem u8_xor_mod (r b : Nat) (hb : b < 256) : bits BinOp.xor IntKind.u8 ((r : Int) % 256) b = (((r % 256) ^^^ b : Nat) : Int) := u8_xor (r % 256) b (by omega) hb
theorem u32_xor_div (r t : Nat) (hr : r < 4294967296) (ht : t < 4294967296) : bits BinOp.xor IntKind.u32 ((r : Int) / 256) t = ((r / 256 ^^^ t : Nat) : Int) := u32_xor (r / 256) t (by omega) ht
theorem u32_not (s : Nat) (hs : s < 4294967296) : bits BinOp.xor IntKind.u32 IntKind.u32.max s = ((flip s : Nat) : Int) := by
  rw [flip_eq, Nat.xor_comm]; exact u32_xor 4294967295 s (by omega) hs

set_option maxHeartbeats 400000 in
set_option maxRecDepth 100000 in
theorem update_any (s : Nat) (hs : s < 4294967296) (l : List Nat) (v : Value) (w : World) (h : RdB w v l) :
    Calls Tryd.prog 25 #[.int .u32 s, v] w fun e w' => e = .returned (.int .u32 (sumOf s l : Nat)) ∧ Below w.heap.size w w' := by
  obtain ⟨A, c, rfl, hlc, hcm, hform⟩ := h.form
  have hlen := h.len
  have hby := h.bytes
  clear h
  go_enter Tryd.func25, Tryd.ntmps25
  go_wp2_with fail
  refine (table_any _).mono ?_
  rintro e w' ⟨rfl, rfl⟩
  go_wp2
  go_loop [6, 14] (fun r i => ∃ k : Nat, k ≤ l.length ∧ i = .int .i64 k ∧ r = .int .u32 (upd (flip s) (l.take k) : Nat)) (fun _ i => l.length - (intOf i).toNat)
  case atStart => exact ⟨0, by omega, rfl, by rw [List.take_zero, upd_nil, u32_not s hs]⟩
  case round =>
    obtain ⟨k, hk, rfl, rfl⟩ := hrel
    have hR : upd (flip s) (l.take k) < 4294967296 := upd_lt (flip_lt hs) (bytes_take hby k)
    by_cases hlt : k < l.length
    · obtain ⟨g, o, rfl, hc⟩ := hform (by omega)
      have hck := hc k hlt
      have hnew := take_succ_getD l k hlt
      have hb := getD_lt hby k
      clear hform hc
      generalize l[k]?.getD 0 = b at hck hnew hb
      have H := Lib.hid hnew
      have HU := Lib.hid (upd_snoc (flip s) (l.take k) b)
      clear hnew
      generalize hRr : upd (flip s) (l.take k) = r at hR HU
      have HR := Lib.hid hRr
      clear hRr
      have hx := u8_xor_mod r b hb
      have hxl := byte_xor_lt (a := r % 256) (b := b) (by omega) hb
      have hT : (w.alloc (.cells (tabA 256) 66)).cell? ⟨w.heap.size, (r % 256) ^^^ b, none⟩ = some (.int .u32 (tab ((r % 256) ^^^ b) : Nat)) := by
        rw [World.cell?_alloc_at _ _ _ _ rfl]; exact tabA_at _ hxl
      have HE := Lib.hid (updB_eq r b)
      have HX := Lib.hid (u32_xor_div r (tab ((r % 256) ^^^ b)) hR (tab_lt (by omega)))
      generalize hi : (r % 256) ^^^ b = ix at hx hxl hT HE HX
      clear hi
      have hblk := World.block_lt_of_cell? _ _ hck
      go_wp2
      go_round
      case rel => exact ⟨k + 1, by omega, by go_num, by rw [HX.out, H.out, HU.out, HE.out]⟩
      case measure => simp [intOf]; omega
    · have : k = l.length := by omega
      subst this
      rw [List.take_length] at hR
      have HR := Lib.hid (u32_not _ hR)
      have HS := Lib.hid (sumOf_eq s l)
      go_wp2
      go_ret
      exact ⟨ret_int (by rw [HS.out, ← HR.out]), (Below.refl _ _).alloc (Nat.le_refl _) _⟩

set_option maxHeartbeats 400000 in
theorem sum_any (l : List Nat) (v : Value) (w : World) (h : RdB w v l) :
    Calls Tryd.prog 18 #[v] w fun e w' => e = .returned (.int .u32 (sumOf 0 l : Nat)) ∧ Below w.heap.size w w' := by
  go_enter Tryd.func18, Tryd.ntmps18
  go_wp2_with fail
  refine (update_any 0 (by omega) l v w h).mono ?_
  rintro e w' ⟨rfl, hb⟩
  go_wp2
  go_ret
  exact ⟨rfl, hb⟩
end Go.Proofs.YtbgnkekiephfeaaDoor
