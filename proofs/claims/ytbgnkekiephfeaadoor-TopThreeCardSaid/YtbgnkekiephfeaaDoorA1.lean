import Derived.Test.YtbgnkekiephfeaaDoorRows
import Derived.Test.YtbgnkekiephfeaaDoorMath
import Derived.WalkKit
import Derived.WalkSpells
import Derived.WalkLawsBesides
import Derived.Deep.LoopGhost
import Derived.Lib.Hide
namespace Go.Proofs.YtbgnkekiephfeaaDoor
open Go.RowKit

theorem bits_xor_nat (k : IntKind) (j : Nat) (hj : j ≤ k.bits) (hk : ∀ n : Int, 0 ≤ n → n < 2 ^ j → k.wrap n = n) (a b : Nat) (ha : a < 2 ^ j) (hb : b < 2 ^ j) :
    bits .xor k a b = ((a ^^^ b : Nat) : Int) := by
  have hp : 2 ^ j ≤ 2 ^ k.bits := Nat.pow_le_pow_right (by decide) hj
  have ha' : a % 2 ^ k.bits = a := Nat.mod_eq_of_lt (Nat.lt_of_lt_of_le ha hp)
  have hb' : b % 2 ^ k.bits = b := Nat.mod_eq_of_lt (Nat.lt_of_lt_of_le hb hp)
  have cast : ∀ n : Nat, n < 2 ^ j → ((n : Nat) : Int) < 2 ^ j := fun n h => by exact_mod_cast h
  simp only [bits, BitVec.ofInt_natCast, BitVec.toNat_xor, BitVec.toNat_ofNat, ha', hb']
  exact hk _ (Int.natCast_nonneg _) (cast _ (Nat.xor_lt_two_pow ha hb))
theorem u32_wraps (n : Int) (h0 : 0 ≤ n) (h1 : n < 2 ^ 32) : IntKind.u32.wrap n = n := by rw [IntKind.wrap_u32]; omega
theorem u32_xor (a b : Nat) (ha : a < 4294967296) (hb : b < 4294967296) : bits .xor .u32 a b = ((a ^^^ b : Nat) : Int) := bits_xor_nat .u32 32 (by decide) u32_wraps a b ha hb
theorem u8_xor (a b : Nat) (ha : a < 256) (hb : b < 256) : bits .xor .u8 a b = ((a ^^^ b : Nat) : Int) := bits_xor_nat .u8 8 (by decide) wraps_u8 a b ha hb
theorem u32_and1 (x : Nat) (hx : x < 4294967296) : bits .and .u32 x 1 = ((x % 2 : Nat) : Int) := by
  have h := (bits_nat .u32 32 (by decide) u32_wraps x 1 hx (by decide)).1
  rw [Nat.and_one_is_mod] at h
  exact h

theorem ret_u32 {k : IntKind} {a b : Int} (h : a = b) : Value.int k a = .int k b := by rw [h]
theorem ret_int {k : IntKind} {a b : Int} (h : a = b) : Ending.returned (.int k a) = .returned (.int k b) := by rw [h]

set_option maxHeartbeats 400000 in
theorem bit_any (x : Nat) (hx : x < 4294967296) (w : World) :
    Calls Tryd.prog 27 #[.int .u32 x] w fun e w' => e = .returned (.int .u32 (stp x : Nat)) ∧ w' = w := by
  have H1 := Lib.hid (u32_and1 x hx)
  go_enter Tryd.func27, Tryd.ntmps27
  go_wp2
  · go_ret
    have h : (bits BinOp.and IntKind.u32 x 1 == 1) = true := by assumption
    rw [H1.out] at h
    refine ⟨ret_int ?_, rfl⟩
    have h' : x % 2 = 1 := by have := eq_of_beq h; omega
    rw [stp_odd h', ← u32_xor _ _ (by omega) (by omega)]
    rfl
  · go_ret
    have h : (bits BinOp.and IntKind.u32 x 1 == 1) = false := by assumption
    rw [H1.out] at h
    refine ⟨ret_int ?_, rfl⟩
    have h' : ¬ x % 2 = 1 := by intro e; rw [e] at h; exact absurd h (by decide)
    rw [stp_even h']
    omega

def tabA (k : Nat) : Array Value := Array.ofFn (n := 256) fun i => .int .u32 ((if (i : Nat) < k then tab i else 0 : Nat) : Int)
theorem zero66 : ∀ w, (zeroValue 66).run Tryd.prog w = .ok (.agg (tabA 0)) w := fun _ => by kernel_rfl
theorem tabA_set (k : Nat) (hk : k < 256) : (tabA k).setIfInBounds k (.int .u32 (tab k : Nat)) = tabA (k + 1) := by
  apply Array.ext
  · simp [tabA]
  · intro i h1 h2
    have hi : i < 256 := by simpa [tabA] using h2
    rw [Array.getElem_setIfInBounds (by simpa [tabA] using hi)]
    by_cases e : k = i
    · subst e; simp [tabA]
    · have : (i < k + 1) ↔ i < k := by omega
      simp [tabA, e, this]
theorem tabA_at (i : Nat) (hi : i < 256) : (tabA 256)[i]? = some (.int .u32 (tab i : Nat)) := by
  rw [Array.getElem?_eq_getElem (by simpa [tabA] using hi)]
  simp [tabA, hi]

set_option maxHeartbeats 400000 in
set_option maxRecDepth 100000 in
theorem table_any (w : World) :
    Calls Tryd.prog 26 #[] w fun e w' => e = .returned (.pointer (some ⟨w.heap.size, 0, none⟩)) ∧ w' = w.alloc (.cells (tabA 256) 66) := by
  have hz := zero66
  go_enter Tryd.func26, Tryd.ntmps26
  go_wp2
  go_loopw [5] (fun i wr => ∃ k : Nat, k ≤ 256 ∧ i = .int .i64 k ∧ wr = w.alloc (.cells (tabA k) 66)) (fun i _ => 256 - (intOf i).toNat)
  case atStart => exact ⟨0, by omega, rfl, rfl⟩
  case round =>
    obtain ⟨k, hk, rfl, rfl⟩ := hrel
    by_cases hlt : k < 256
    · have hlt' : (k : Int) < 256 := by omega
      have hcell : (w.alloc (.cells (tabA k) 66)).cell? ⟨w.heap.size, k, none⟩ = some (.int .u32 ((if k < k then tab k else 0 : Nat) : Int)) := by
        rw [World.cell?_alloc_at _ _ _ _ rfl, Array.getElem?_eq_getElem (by simpa [tabA] using hlt)]; simp [tabA]
      go_wp2
      go_loop [4, 10] (fun r j => ∃ m : Nat, m ≤ 8 ∧ j = .int .i64 m ∧ r = .int .u32 (stpN m k : Nat)) (fun _ j => 8 - (intOf j).toNat)
      case atStart => exact ⟨0, by omega, rfl, by rw [stpN_zero]⟩
      case round =>
        obtain ⟨m, hm, rfl, rfl⟩ := hrel
        by_cases hlt : m < 8
        · go_wp2_with (go_at_call 27; refine (bit_any _ (stpN_lt (by omega) m) _).mono ?_; rintro e w' ⟨rfl, rfl⟩)
          go_round
          case rel => exact ⟨m + 1, by omega, by go_num, by rw [stpN_succ]⟩
          case measure => simp [intOf]; omega
        · have : m = 8 := by omega
          subst this
          have hs := tabA_set k (by omega)
          rw [← tab_eq]
          go_wp2
          go_roundw
          case rel => exact ⟨k + 1, by omega, by go_num, rfl⟩
          case measure => simp [intOf]; omega
    · have : k = 256 := by omega
      subst this
      go_wp2
      go_ret
      exact ⟨rfl, rfl⟩
end Go.Proofs.YtbgnkekiephfeaaDoor
