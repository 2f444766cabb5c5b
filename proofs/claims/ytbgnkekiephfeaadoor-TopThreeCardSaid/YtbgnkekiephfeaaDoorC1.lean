/-
  bits.TrailingZeros32, over the table as the row lays it.
-/
import Derived.Test.YtbgnkekiephfeaaDoorA2
namespace Go.Proofs.YtbgnkekiephfeaaDoor
open Go.RowKit

def dbj : List Nat := [0, 1, 28, 2, 29, 14, 24, 3, 30, 22, 20, 15, 25, 17, 4, 8, 31, 27, 13, 23, 21, 19, 16, 7, 26, 12, 18, 6, 11, 5, 10, 9]
/-- The table lies in its variable. -/
def Tab0 (w : World) : Prop := ∀ i, i < 32 → w.cell? ⟨0, i, none⟩ = some (.int .u8 ((dbj[i]?.getD 0 : Nat) : Int))
def dbIx (k : Nat) : Nat := 2 ^ k * 125613361 % 4294967296 / 134217728
theorem dbIx_lt (k : Nat) : dbIx k < 32 := by unfold dbIx; omega
theorem dbj_at : ∀ k, k < 32 → dbj[dbIx k]?.getD 0 = k := by decide

theorem and_split (q r n : Nat) (h : q + r + 1 = 2 ^ n) : q &&& r = 0 := by
  apply Nat.eq_of_testBit_eq
  intro i
  rw [Nat.testBit_and, Nat.zero_testBit]
  have hr : r = 2 ^ n - (q + 1) := by omega
  rw [hr, Nat.testBit_two_pow_sub_succ (by omega)]
  cases q.testBit i <;> simp
theorem and_neg (k q n : Nat) (h : 2 ^ k * (2 * q + 1) < 2 ^ (k + (n + 1))) : (2 ^ k * (2 * q + 1)) &&& (2 ^ (k + (n + 1)) - 2 ^ k * (2 * q + 1)) = 2 ^ k := by
  have e1 : 2 ^ (k + (n + 1)) = 2 ^ k * (2 * 2 ^ n) := by rw [Nat.pow_add, Nat.pow_succ, Nat.mul_comm (2 ^ n) 2]
  rw [e1] at h ⊢
  have h2 : 2 * q + 1 < 2 * 2 ^ n := Nat.lt_of_mul_lt_mul_left h
  obtain ⟨r, hr⟩ : ∃ r, q + r + 1 = 2 ^ n := ⟨2 ^ n - (q + 1), by omega⟩
  have e2 : 2 ^ k * (2 * 2 ^ n) - 2 ^ k * (2 * q + 1) = 2 ^ k * (2 * r + 1) := by
    rw [← Nat.mul_sub]
    congr 1
    omega
  rw [e2, Nat.mul_comm (2 ^ k) (2 * q + 1), Nat.mul_comm (2 ^ k) (2 * r + 1), ← Nat.shiftLeft_eq, ← Nat.shiftLeft_eq, ← Nat.shiftLeft_and_distrib]
  have e3 : (2 * q + 1) &&& (2 * r + 1) = 1 := by
    apply Nat.eq_of_testBit_eq
    intro i
    rw [Nat.testBit_and]
    cases i with
    | zero => simp
    | succ i =>
      have := congrArg (fun x => x.testBit i) (and_split q r n hr)
      simp only [Nat.testBit_and, Nat.zero_testBit] at this
      rw [Nat.testBit_succ, Nat.testBit_succ, Nat.testBit_succ]
      rw [show (2 * q + 1) / 2 = q by omega, show (2 * r + 1) / 2 = r by omega, this]
      simp
  rw [e3, Nat.shiftLeft_eq, Nat.one_mul]

theorem and_neg32 (k q x : Nat) (hx : x = 2 ^ k * (2 * q + 1)) (hk : k < 32) (hlt : x < 2 ^ 32) : x &&& (2 ^ 32 - x) = 2 ^ k := by
  have e := and_neg k q (31 - k)
  rw [← hx, show k + (31 - k + 1) = 32 by omega] at e
  exact e hlt
theorem u32_and_nat (a b : Nat) (ha : a < 4294967296) (hb : b < 4294967296) : bits .and .u32 a b = ((a &&& b : Nat) : Int) := (bits_nat .u32 32 (by decide) u32_wraps a b ha hb).1
theorem neg_cast (x : Nat) (h0 : x ≠ 0) (hlt : x < 4294967296) : (-(x : Int) % 4294967296) = ((4294967296 - x : Nat) : Int) := by omega
theorem and_neg_int (k q x : Nat) (hx : x = 2 ^ k * (2 * q + 1)) (hk : k < 32) (hlt : x < 4294967296) (h0 : x ≠ 0) : bits .and .u32 (x : Int) (-(x : Int) % 4294967296) = ((2 ^ k : Nat) : Int) := by
  rw [neg_cast x h0 hlt, u32_and_nat x _ hlt (by omega)]
  exact congrArg Int.ofNat (and_neg32 k q x hx hk hlt)
theorem dbIx_int (p j : Nat) (hj : j = p * 125613361 % 4294967296 / 134217728) : ((p : Int) * 125613361 % 4294967296 / 134217728) = (j : Int) := by
  subst hj
  rw [Int.natCast_ediv, Int.natCast_emod, Int.natCast_mul]
  rfl

set_option maxHeartbeats 400000 in
theorem tz_walk (k x p j : Nat) (hk : k < 32) (hne : ((x : Int) == 0) = false) (w : World) (hc : w.cell? ⟨0, j, none⟩ = some (.int .u8 (k : Int))) (hjl : j < 32)
    (hA : bits .and .u32 (x : Int) (-(x : Int) % 4294967296) = (p : Int)) (h1 : ((p : Int) * 125613361 % 4294967296 / 134217728) = (j : Int)) :
    Calls Tryd.prog 24 #[.int .u32 x] w fun e w' => e = .returned (.int .i64 k) ∧ w' = w := by
  go_enter Tryd.func24, Tryd.ntmps24
  go_wp2
  go_ret
  exact ⟨rfl, rfl⟩

theorem tz_any (k q x : Nat) (hx : x = 2 ^ k * (2 * q + 1)) (hk : k < 32) (hlt : x < 4294967296) (w : World) (h0 : Tab0 w) :
    Calls Tryd.prog 24 #[.int .u32 x] w fun e w' => e = .returned (.int .i64 k) ∧ w' = w := by
  have hpos : x ≠ 0 := by
    have := Nat.two_pow_pos k
    rw [hx]; exact Nat.mul_ne_zero (by omega) (by omega)
  have hne : ((x : Int) == 0) = false := by simpa using hpos
  have hc := h0 (dbIx k) (dbIx_lt k)
  rw [dbj_at k hk] at hc
  exact tz_walk k x (2 ^ k) (dbIx k) hk hne w hc (dbIx_lt k) (and_neg_int k q x hx hk hlt hpos) (dbIx_int _ _ rfl)
end Go.Proofs.YtbgnkekiephfeaaDoor
