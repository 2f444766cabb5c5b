/-
  The law TopThree returns true, whatever the frames, the place and the mask.
-/
import Derived.Test.YtbgnkekiephfeaaDoorE1
import Derived.Test.YtbgnkekiephfeaaDoorM2
namespace Go.Proofs.YtbgnkekiephfeaaDoor
open Go.RowKit

theorem i64_low (j : Nat) (hj : j = 1 ∨ j = 4 ∨ j = 8) (n : Int) : bits .and .i64 n (2 ^ j - 1 : Nat) = ((n % 2 ^ j).toNat : Int) := by
  have hm : (BitVec.ofInt 64 ((2 ^ j - 1 : Nat) : Int)).toNat = 2 ^ j - 1 := by obtain rfl | rfl | rfl := hj <;> decide
  have key : (BitVec.ofInt 64 n &&& BitVec.ofInt 64 ((2 ^ j - 1 : Nat) : Int)).toNat = (n % ((2 ^ 64 : Nat) : Int)).toNat % 2 ^ j := by
    rw [BitVec.toNat_and, BitVec.toNat_ofInt, hm, Nat.and_two_pow_sub_one_eq_mod]
  show IntKind.i64.wrap ((BitVec.ofInt 64 n &&& BitVec.ofInt 64 ((2 ^ j - 1 : Nat) : Int)).toNat : Nat) = _
  rw [key, IntKind.wrap_i64]
  obtain rfl | rfl | rfl := hj <;> omega

/-- A slice of bytes that came in. -/
structure Bytes (w : World) (A : Option Addr) (m c : Nat) (l : List Nat) : Prop where
  bytes : ∀ b ∈ l, b < 256
  len : l.length = m
  cap : m ≤ c
  max : c ≤ 9223372036854775807
  cells : 0 < m → ∃ g o, A = some ⟨g, o, none⟩ ∧ ∀ j, j < m → w.cell? ⟨g, o + j, none⟩ = some (.int .u8 ((l[j]?.getD 0 : Nat) : Int))
theorem Bytes.take {w : World} {A : Option Addr} {m c : Nat} {l : List Nat} (h : Bytes w A m c l) (n : Nat) (hn : n ≤ m) (h64 : n ≤ 64) : RdB w (.slice A n c) (l.take n) := by
  have hl : (l.take n).length = n := by rw [List.length_take, h.len]; omega
  refine ⟨fun b hb => h.bytes b (List.mem_of_mem_take hb), by omega, A, c, by rw [hl], by have := h.cap; omega, h.max, fun hp => ?_⟩
  obtain ⟨g, o, hA, hc⟩ := h.cells (by omega)
  refine ⟨g, o, hA, fun i hi => ?_⟩
  rw [hc i (by omega), List.getElem?_take_of_lt (by omega)]

theorem law_true (V T S : Nat → Int) (A : Nat → Option Addr) (m c : Nat → Nat) (ls : Nat → List Nat) (at_ mk : Nat) (w : World) (hat : at_ < 65536) (hmk32 : mk < 4294967296) (hTab : Tab0 w)
    (hR : ∀ i, i < 3 → Bytes w (A i) (m i) (c i) (ls i)) :
    Calls Tryd.prog 3 #[.agg #[.int .i64 (V 0), .int .i64 (T 0), .int .i64 (S 0), .slice (A 0) (m 0) (c 0)], .agg #[.int .i64 (V 1), .int .i64 (T 1), .int .i64 (S 1), .slice (A 1) (m 1) (c 1)],
      .agg #[.int .i64 (V 2), .int .i64 (T 2), .int .i64 (S 2), .slice (A 2) (m 2) (c 2)], .int .u16 at_, .int .u32 mk] w fun e w' => e = .returned (.bool true) ∧ Below w.heap.size w w' := by
  obtain ⟨n, hn⟩ : ∃ n, n = min (min (min (m 0) (m 1)) (m 2)) 64 := ⟨_, rfl⟩
  have h0 : n ≤ m 0 := by omega
  have h1 : n ≤ m 1 := by omega
  have h2 : n ≤ m 2 := by omega
  have hm : ∀ i, i < 3 → n ≤ m i := fun i hi => by
    obtain rfl | rfl | rfl : i = 0 ∨ i = 1 ∨ i = 2 := by omega
    all_goals assumption
  have h64 : n ≤ 64 := by omega
  have hL : ∀ i, i < 3 → ((ls i).take n).length = n := fun i hi => by rw [List.length_take, (hR i hi).len]; have := hm i hi; omega
  have hRd : ∀ i, i < 3 → RdB w (.slice (A i) n (c i)) ((ls i).take n) := fun i hi => (hR i hi).take n (hm i hi) h64
  have hlin := bytes_linear n (fun i => (V i % 16).toNat) (fun i => (T i % 2).toNat) (fun i => (S i % 256).toNat) (fun i => (ls i).take n) hL
  have hlen : (bytesOf (xf (fun i => (V i % 16).toNat) 3) (xf (fun i => (T i % 2).toNat) 3) (xf (fun i => (S i % 256).toNat) 3) (dx n (fun i => (ls i).take n) 3)).length = n + 8 := by rw [bytesOf_len, dx_len]
  have hbB : ∀ b ∈ bytesOf (xf (fun i => (V i % 16).toNat) 3) (xf (fun i => (T i % 2).toNat) 3) (xf (fun i => (S i % 256).toNat) 3) (dx n (fun i => (ls i).take n) 3), b < 256 := by
    have hV := xf_lt (fun i => (V i % 16).toNat) 4 3 (fun i hi => by show (V i % 16).toNat < 2 ^ 4; omega)
    have hT := xf_lt (fun i => (T i % 2).toNat) 1 3 (fun i hi => by show (T i % 2).toNat < 2 ^ 1; omega)
    have hS := xf_lt (fun i => (S i % 256).toNat) 8 3 (fun i hi => by show (S i % 256).toNat < 2 ^ 8; omega)
    intro b hb
    unfold bytesOf bodyOf at hb
    rcases List.mem_append.1 hb with hb | hb
    · rcases List.mem_append.1 hb with hb | hb
      · rw [dx_len] at hb
        simp only [List.mem_cons, List.not_mem_nil, or_false] at hb
        omega
      · unfold dx at hb
        obtain ⟨j, _, rfl⟩ := List.mem_map.1 hb
        refine xf_lt _ 8 3 fun i hi => ?_
        exact getD_lt (hRd i hi).bytes j
    · exact trail_bytes _ _ b hb
  have hfit := bytesOf_fits hbB
  rw [hlen, show n + 8 - 4 = n + 4 by omega] at hfit
  refine law_any V T S A m c (fun i => (ls i).take n) n at_ mk w hm hL h64 (by omega) (fun i => (V i % 16).toNat) (fun i => (T i % 2).toNat) (fun i => (S i % 256).toNat)
    (fun i _ => ⟨i64_low 4 (by omega) (V i), by omega⟩) (fun i _ => ⟨i64_low 1 (by omega) (T i), by omega⟩) (fun i _ => ⟨i64_low 8 (by omega) (S i), by omega⟩) hat hmk32 hTab hlin ?_ hRd
  exact fun hne => burst_seen _ n _ mk hbB hlen (Nat.mod_lt _ (by omega)) hmk32 (Int.ofNat.inj hfit) hne
end Go.Proofs.YtbgnkekiephfeaaDoor
