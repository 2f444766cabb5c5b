/-
  The set bits of a mask, least first: the plain list, and the iterator of frame.set.
-/
import Derived.Test.YtbgnkekiephfeaaDoorC1
import Derived.Test.YtbgnkekiephfeaaDoorK3
namespace Go.Proofs.YtbgnkekiephfeaaDoor
open Go.RowKit

def lowN : Nat → Nat → Nat
  | 0, _ => 0
  | f + 1, m => if m % 2 = 1 then 0 else lowN f (m / 2) + 1
def low (m : Nat) : Nat := lowN 32 m
theorem lowN_spec : ∀ (f m : Nat), m ≠ 0 → m < 2 ^ f → lowN f m < f ∧ ∃ q, m = 2 ^ lowN f m * (2 * q + 1)
  | 0, m, h0, h => by simp at h; omega
  | f + 1, m, h0, h => by
    unfold lowN
    by_cases hm : m % 2 = 1
    · rw [if_pos hm]
      exact ⟨by omega, m / 2, by rw [Nat.pow_zero]; omega⟩
    · rw [if_neg hm]
      obtain ⟨h1, q, h2⟩ := lowN_spec f (m / 2) (by omega) (by rw [Nat.pow_succ] at h; omega)
      refine ⟨by omega, q, ?_⟩
      rw [Nat.pow_succ, Nat.mul_comm (2 ^ _) 2, Nat.mul_assoc, ← h2]
      omega
theorem low_spec {m : Nat} (h0 : m ≠ 0) (h : m < 4294967296) : low m < 32 ∧ ∃ q, m = 2 ^ low m * (2 * q + 1) := lowN_spec 32 m h0 h
theorem low_le {m : Nat} (h0 : m ≠ 0) (h : m < 4294967296) : 2 ^ low m ≤ m := by
  obtain ⟨_, q, hq⟩ := low_spec h0 h
  exact Nat.le_trans (Nat.le_mul_of_pos_right _ (by omega : 0 < 2 * q + 1)) (Nat.le_of_eq hq.symm)

/-- The set bits, so many at most, least first. -/
def bl : Nat → Nat → List Nat
  | 0, _ => []
  | f + 1, m => if m = 0 then [] else low m :: bl f (m - 2 ^ low m)
attribute [irreducible] low

theorem bl_zero (f : Nat) : bl f 0 = [] := by cases f <;> rfl
theorem bl_succ (f m : Nat) (h : m ≠ 0) : bl (f + 1) m = low m :: bl f (m - 2 ^ low m) := by rw [bl, if_neg h]
theorem step_dvd {m j : Nat} (h0 : m ≠ 0) (h : m < 4294967296) (hd : 2 ^ j ∣ m) : 2 ^ (j + 1) ∣ m - 2 ^ low m := by
  obtain ⟨_, q, hq⟩ := low_spec h0 h
  have hj : j ≤ low m := by
    rcases Nat.lt_or_ge (low m) j with hlt | hge
    · exfalso
      have h1 : 2 ^ (low m + 1) ∣ m := Nat.dvd_trans (Nat.pow_dvd_pow 2 (by omega)) hd
      obtain ⟨r, hr⟩ := h1
      have hp := Nat.two_pow_pos (low m)
      have h2 : 2 ^ low m * (2 * r) = 2 ^ low m * (2 * q + 1) := by rw [← Nat.mul_assoc, ← Nat.pow_succ, ← hr]; exact hq
      have := Nat.eq_of_mul_eq_mul_left hp h2
      omega
    · exact hge
  have e : m - 2 ^ low m = 2 ^ (low m + 1) * q := by
    have e1 : m = 2 ^ (low m + 1) * q + 2 ^ low m := by
      rw [Nat.pow_succ, Nat.mul_assoc]
      exact hq.trans (by rw [Nat.mul_add, Nat.mul_one])
    omega
  rw [e]
  exact Nat.dvd_trans (Nat.pow_dvd_pow 2 (by omega)) (Nat.dvd_mul_right _ _)

theorem and_pred (k q m : Nat) (hm : m = 2 ^ k * (2 * q + 1)) : m &&& (m - 1) = m - 2 ^ k := by
  have hp := Nat.two_pow_pos k
  have e1 : m = 2 ^ (k + 1) * q + 2 ^ k := by rw [hm, Nat.mul_add, Nat.pow_succ, Nat.mul_one, Nat.mul_assoc]
  have e2 : m - 1 = 2 ^ (k + 1) * q + (2 ^ k - 1) := by omega
  have e3 : m - 2 ^ k = 2 ^ (k + 1) * q + 0 := by omega
  have l1 : 2 ^ k < 2 ^ (k + 1) := by rw [Nat.pow_succ]; omega
  have l2 : 2 ^ k - 1 < 2 ^ (k + 1) := by omega
  rw [e2, e3, e1]
  apply Nat.eq_of_testBit_eq
  intro i
  rw [Nat.testBit_and, Nat.testBit_two_pow_mul_add _ l1, Nat.testBit_two_pow_mul_add _ l2, Nat.testBit_two_pow_mul_add _ (Nat.two_pow_pos _)]
  split
  · rw [Nat.testBit_two_pow, Nat.testBit_two_pow_sub_one, Nat.zero_testBit]
    by_cases h : k = i
    · subst h; simp
    · simp [h]
  · simp
theorem u32_pred (m : Nat) (h0 : m ≠ 0) (h : m < 4294967296) : bits .and .u32 (m : Int) ((m : Int) - 1) = ((m - 2 ^ low m : Nat) : Int) := by
  obtain ⟨_, q, hq⟩ := low_spec h0 h
  rw [show ((m : Int) - 1) = ((m - 1 : Nat) : Int) by omega, u32_and_nat m (m - 1) h (by omega), and_pred _ q m hq]
end Go.Proofs.YtbgnkekiephfeaaDoor
