/-
  crc.number: for every four bytes.
-/
import Derived.Test.YtbgnkekiephfeaaDoorA2
import Derived.Test.YtbgnkekiephfeaaDoorA3
namespace Go.Proofs.YtbgnkekiephfeaaDoor
open Go.RowKit

theorem u32_or_nat (a b : Nat) (ha : a < 4294967296) (hb : b < 4294967296) : bits .or .u32 a b = ((a ||| b : Nat) : Int) := (bits_nat .u32 32 (by decide) u32_wraps a b ha hb).2

theorem orsh (k x b : Nat) (hk : k ≤ 3) (hx : x < 256 ^ k) (hb : b < 256) : x + b * 256 ^ k < 256 ^ (k + 1) ∧ (b * 256 ^ k < 4294967296) ∧ bits .or .u32 (x : Int) ((b * 256 ^ k : Nat) : Int) = ((x + b * 256 ^ k : Nat) : Int) := by
  have hp : (256 : Nat) ^ k = 2 ^ (8 * k) := by rw [Nat.pow_mul]
  have h3 : (256 : Nat) ^ k ≤ 256 ^ 3 := Nat.pow_le_pow_right (by decide) hk
  have hb1 : b * 256 ^ k ≤ 255 * 256 ^ k := Nat.mul_le_mul_right _ (by omega)
  have h4 : b * 256 ^ k < 4294967296 := by omega
  refine ⟨by rw [Nat.pow_succ]; omega, h4, ?_⟩
  rw [u32_or_nat x _ (by omega) h4, Nat.or_comm, Nat.mul_comm, hp]
  rw [hp] at hx
  rw [← Nat.two_pow_add_eq_or_of_lt hx b, Nat.add_comm]
/-- The number with so many bytes, the least one first. -/
def numK (l : List Nat) : Nat → Nat
  | 0 => 0
  | k + 1 => numK l k + (l[k]?.getD 0) * 256 ^ k
theorem numK_zero (l : List Nat) : numK l 0 = 0 := rfl
theorem numK_succ (l : List Nat) (k : Nat) : numK l (k + 1) = numK l k + (l[k]?.getD 0) * 256 ^ k := rfl
attribute [irreducible] numK

set_option maxHeartbeats 400000 in
theorem number_any (l : List Nat) (v : Value) (w : World) (h : RdB w v l) (h4 : l.length = 4) :
    Calls Tryd.prog 20 #[v] w fun e w' => e = .returned (.int .u32 (numK l 4 : Nat)) ∧ w' = w := by
  obtain ⟨A, c, rfl, hlc, hcm, hform⟩ := h.form
  obtain ⟨g, o, rfl, hc⟩ := hform (by omega)
  have hby := h.bytes
  have h4c : 4 ≤ c := by omega
  rw [h4] at hc
  have H4 := Lib.hid h4
  rw [h4]
  clear h hform hlc h4
  go_enter Tryd.func20, Tryd.ntmps20
  go_wp2
  go_loop [3, 9] (fun r i => ∃ k : Nat, k ≤ 4 ∧ i = .int .i64 k ∧ r = .int .u32 (numK l k : Nat) ∧ Hid (numK l k < 256 ^ k)) (fun _ i => 4 - (intOf i).toNat)
  case atStart => exact ⟨0, by omega, rfl, by rw [numK_zero]; rfl, Lib.hid (by rw [numK_zero]; decide)⟩
  case round =>
    obtain ⟨k, hk, rfl, rfl, hlt4⟩ := hrel
    by_cases hlt : k < 4
    · have hck := hc k hlt
      have hb := getD_lt hby k
      have hN := Lib.hid (numK_succ l k)
      have hq := Lib.hid (orsh k (numK l k) (l[k]?.getD 0) (by omega) hlt4.out hb)
      obtain ⟨k1, hk1⟩ : ∃ k1, k1 = k + 1 := ⟨_, rfl⟩
      rw [← hk1] at hN
      have hlt1 : Hid (numK l k1 < 256 ^ k1) := Lib.hid (by rw [hN.out, hk1]; exact hq.out.1)
      have HK1 := Lib.hid hk1
      clear hk1 hc hby
      generalize l[k]?.getD 0 = b at hck hb hN hq
      obtain rfl | rfl | rfl | rfl : k = 0 ∨ k = 1 ∨ k = 2 ∨ k = 3 := by omega
      · rw [Nat.add_zero] at hck
        go_wp2
        go_round
        case rel => exact ⟨k1, by have := HK1.out; omega, by rw [HK1.out]; go_num, by rw [hN.out]; have h := hq.out.2.2; rw [Nat.pow_zero, Nat.mul_one] at h; rw [Nat.pow_zero, Nat.mul_one]; exact ret_u32 h, hlt1⟩
        case measure => simp [intOf]
      all_goals
        go_wp2
        go_round
        case rel => exact ⟨k1, by have := HK1.out; omega, by rw [HK1.out]; go_num, by rw [hN.out]; have h := hq.out.2.2; rw [Int.natCast_mul] at h; exact ret_u32 h, hlt1⟩
        case measure => simp [intOf]
    · have : k = 4 := by omega
      subst this
      go_wp2
      go_ret
      exact ⟨rfl, rfl⟩
end Go.Proofs.YtbgnkekiephfeaaDoor
