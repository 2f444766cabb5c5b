/-
  crc.Check: for every slice of bytes: with its trailer removed, or the error.
-/
import Derived.Test.YtbgnkekiephfeaaDoorA4
import Derived.Test.YtbgnkekiephfeaaDoorA5
import Derived.Deep.QuietTactic
import Derived.BigQuiet
import Derived.Test.YtbgnkekiephfeaaDoorK2
namespace Go.Proofs.YtbgnkekiephfeaaDoor
open Go.RowKit

theorem RdB.take {w : World} {A : Option Addr} {c : Nat} {l : List Nat} (h : RdB w (.slice A l.length c) l) (n : Nat) (hn : n ≤ l.length) : RdB w (.slice A n c) (l.take n) := by
  obtain ⟨A', c', hv, h1, h2, hc⟩ := h.form
  cases hv
  have hl : (l.take n).length = n := by rw [List.length_take]; omega
  refine ⟨bytes_take h.bytes n, by have := h.len; omega, A, c, by rw [hl], by omega, h2, fun hp => ?_⟩
  obtain ⟨g, o, hA, hc⟩ := hc (by omega)
  refine ⟨g, o, hA, fun i hi => ?_⟩
  rw [List.getElem?_take_of_lt (by omega)]
  exact hc i (by omega)
theorem RdB.drop {w : World} {g o c : Nat} {l : List Nat} (h : RdB w (.slice (some ⟨g, o, none⟩) l.length c) l) (n : Nat) (hn : n < l.length) : RdB w (.slice (some ⟨g, o + n, none⟩) (l.length - n) (c - n)) (l.drop n) := by
  obtain ⟨A', c', hv, h1, h2, hc⟩ := h.form
  cases hv
  have hl : (l.drop n).length = l.length - n := by rw [List.length_drop]
  refine ⟨fun b hb => h.bytes b (List.mem_of_mem_drop hb), by have := h.len; omega, _, c - n, by rw [hl], by omega, by omega, fun hp => ?_⟩
  obtain ⟨g', o', hA, hc⟩ := hc (by omega)
  cases hA
  refine ⟨g, o + n, rfl, fun i hi => ?_⟩
  rw [List.getElem?_drop, Nat.add_assoc]
  exact hc (n + i) (by omega)

theorem below_drewN {B : Nat} {w W : World} (h : Below B w W) (n : Nat) : Below B w (W.drewN n) := ⟨h.os, h.tape, h.output, h.size, h.block⟩

set_option maxHeartbeats 400000 in
theorem check_short (l : List Nat) (v : Value) (w : World) (h : RdB w v l) (hlt : l.length < 4) :
    Calls Tryd.prog 12 #[v] w fun e w' => e = .returned (.tuple #[.slice none 0 0, .int .i64 40]) ∧ Below w.heap.size w w' := by
  obtain ⟨A, c, rfl, hlc, hcm, hform⟩ := h.form
  have hlen := h.len
  have hneg : (l.length : Int) - 4 < 0 := by omega
  have hd : decide ((l.length : Int) < 4) = true := by simp; omega
  clear h hform
  go_enter Tryd.func12, Tryd.ntmps12
  go_wp2
  go_quiet (fail)
  go_wp2
  go_ret2
  exact ⟨rfl, below_drewN (Below.refl _ _) nq⟩

theorem size5 (w : World) : (sizeOf (Tryd.prog.elem 22)).run Tryd.prog w = .ok 1 w := by kernel_rfl
theorem run_drop22 (g o len c n : Nat) (hn : n ≤ len) (hc : n < c) (w : World) :
    (Instr.slice 22 (.slice (some ⟨g, o, none⟩) len c) (some (.int .i64 (n : Int))) none none).run Tryd.prog w = .ok (.slice (some ⟨g, o + n, none⟩) (len - n) (c - n)) w := by
  rw [run_slice_l w 22 _ len c Tryd.underlying22 .i64 (n : Int) (by omega) (by omega), size5]
  simp only [Result.andThen, sliced, Int.toNat_natCast, Nat.mul_one, Option.map_some, addr_add]
  rw [if_neg (by omega)]
theorem run_take22 (A : Option Addr) (len c n : Nat) (hn : n ≤ c) (w : World) :
    (Instr.slice 22 (.slice A len c) none (some (.int .i64 (n : Int))) none).run Tryd.prog w = .ok (.slice A n c) w := by
  rw [run_slice_h w 22 _ len c Tryd.underlying22 .i64 (n : Int) (by omega) (by omega), size5]
  cases A <;> simp [Result.andThen, sliced, Addr.add]

/-- The bytes bear the trailer of their sum. -/
def sumFits (l : List Nat) : Prop := 4 ≤ l.length ∧ numK (l.drop (l.length - 4)) 4 = sumOf 0 (l.take (l.length - 4))

theorem RdB.drew {w : World} {v : Value} {l : List Nat} (h : RdB w v l) : RdB w.drew v l := ⟨h.bytes, h.len, h.form⟩
theorem below_drew' {w w' : World} (h : Below w.drew.heap.size w.drew w') : Below w.heap.size w w' := ⟨h.os, h.tape, h.output, h.size, h.block⟩

set_option maxHeartbeats 400000 in
theorem check_bad (l : List Nat) (v : Value) (w : World) (h : RdB w v l) (h4 : 4 ≤ l.length) (hne : (((numK (l.drop (l.length - 4)) 4 : Nat) : Int) != ((sumOf 0 (l.take (l.length - 4)) : Nat) : Int)) = true) :
    Calls Tryd.prog 12 #[v] w fun e w' => e = .returned (.tuple #[.slice none 0 0, .int .i64 40]) ∧ Below w.heap.size w w' := by
  obtain ⟨A, c, rfl, hlc, hcm, hform⟩ := h.form
  have hlen := h.len
  obtain ⟨g, o, rfl, hc⟩ := hform (by omega)
  obtain ⟨n, hn⟩ : ∃ n, n = l.length - 4 := ⟨_, rfl⟩
  have hd : decide ((n : Int) < 0) = false := by simp
  have HT := Lib.hid (h.take n (by omega))
  have HD := Lib.hid (h.drop n (by omega))
  have hln : l.length = n + 4 := by omega
  rw [← hn] at hne 
  have h4' : l.length - n = 4 := by omega
  rw [h4'] at HD
  have HD4 := Lib.hid (show (l.drop n).length = 4 by rw [List.length_drop]; omega)
  clear h hform hc h4' hn
  rw [hln] at hlc hlen h4 ⊢
  have hs1 := run_drop22 g o (n + 4) c n (by omega) (by omega)
  rw [show n + 4 - n = 4 by omega] at hs1
  have hs2 := run_take22 (some ⟨g, o, none⟩) (n + 4) c n (by omega)
  clear hln
  go_enter Tryd.func12, Tryd.ntmps12
  go_wp2
  refine wp_region_plan [0, 1, 3, 7, 7, 31, 63, 7, 7, 391, 1023, 2047, 4095] [(0, .L), (1, .L), (2, .L), (3, .L), (4, .L), (5, .L), (7, .L), (8, .L), (9, .L), (6, .A), (10, .A), (11, .L), (12, .L)] (by kernel_rfl) (by kernel_rfl) ?_
  iterate 9 (refine plan_L rfl (fun K hK => ?_); go_simp; refine hK _ ?_; clear hK K)
  refine plan_A rfl (fun K hK => ?_)
  go_simp
  refine (number_any _ _ _ HD.out.drew HD4.out).mono ?_
  rintro e w1 ⟨rfl, rfl⟩
  refine ⟨Ext.refl _, hK _ _ ?_⟩
  clear hK K
  refine plan_A rfl (fun K hK => ?_)
  go_simp
  refine (sum_any _ _ _ HT.out.drew).mono ?_
  rintro e w1 ⟨rfl, hb⟩
  refine ⟨Ext.of_below hb, hK _ _ ?_⟩
  clear hK K
  have HB := Lib.hid (below_drew' hb)
  clear hb
  iterate 2 (refine plan_L rfl (fun K hK => ?_); go_simp; refine hK _ ?_; clear hK K)
  refine plan_nil ?_
  go_wp2
  go_ret2
  exact ⟨rfl, HB.out⟩

set_option maxHeartbeats 400000 in
theorem check_good (l : List Nat) (v : Value) (w : World) (h : RdB w v l) (h4 : 4 ≤ l.length) (hne : (((numK (l.drop (l.length - 4)) 4 : Nat) : Int) != ((sumOf 0 (l.take (l.length - 4)) : Nat) : Int)) = false) :
    Calls Tryd.prog 12 #[v] w fun e w' => ∃ v', e = .returned (.tuple #[v', .int .i64 0]) ∧ OwnB w' w.heap.size v' (l.take (l.length - 4)) ∧ Below w.heap.size w w' := by
  obtain ⟨A, c, rfl, hlc, hcm, hform⟩ := h.form
  have hlen := h.len
  obtain ⟨g, o, rfl, hc⟩ := hform (by omega)
  obtain ⟨n, hn⟩ : ∃ n, n = l.length - 4 := ⟨_, rfl⟩
  have hd : decide ((n : Int) < 0) = false := by simp
  have HT := Lib.hid (h.take n (by omega))
  have HD := Lib.hid (h.drop n (by omega))
  have hln : l.length = n + 4 := by omega
  rw [← hn] at hne ⊢
  have h4' : l.length - n = 4 := by omega
  rw [h4'] at HD
  have HD4 := Lib.hid (show (l.drop n).length = 4 by rw [List.length_drop]; omega)
  clear h hform hc h4' hn
  rw [hln] at hlc hlen h4 ⊢
  have hs1 := run_drop22 g o (n + 4) c n (by omega) (by omega)
  rw [show n + 4 - n = 4 by omega] at hs1
  have hs2 := run_take22 (some ⟨g, o, none⟩) (n + 4) c n (by omega)
  clear hln
  go_enter Tryd.func12, Tryd.ntmps12
  go_wp2
  refine wp_region_plan [0, 1, 3, 7, 7, 31, 63, 7, 7, 391, 1023, 2047, 4095] [(0, .L), (1, .L), (2, .L), (3, .L), (4, .L), (5, .L), (7, .L), (8, .L), (9, .L), (6, .A), (10, .A), (11, .L), (12, .L)] (by kernel_rfl) (by kernel_rfl) ?_
  iterate 9 (refine plan_L rfl (fun K hK => ?_); go_simp; refine hK _ ?_; clear hK K)
  refine plan_A rfl (fun K hK => ?_)
  go_simp
  refine (number_any _ _ _ HD.out.drew HD4.out).mono ?_
  rintro e w1 ⟨rfl, rfl⟩
  refine ⟨Ext.refl _, hK _ _ ?_⟩
  clear hK K
  refine plan_A rfl (fun K hK => ?_)
  go_simp
  refine (sum_any _ _ _ HT.out.drew).mono ?_
  rintro e w1 ⟨rfl, hb⟩
  refine ⟨Ext.of_below hb, hK _ _ ?_⟩
  clear hK K
  have HB := Lib.hid (below_drew' hb)
  clear hb
  iterate 2 (refine plan_L rfl (fun K hK => ?_); go_simp; refine hK _ ?_; clear hK K)
  refine plan_nil ?_
  have HT' := Lib.hid (HT.out.below HB.out (Nat.le_refl _))
  go_wp2_with fail
  refine (sclone_any _ _ _ HT'.out).mono ?_
  rintro e w2 ⟨v2, rfl, ho2, hb2⟩
  have HO := Lib.hid (ho2.mono HB.out.size)
  have HB2 := Lib.hid (HB.out.trans (hb2.mono HB.out.size))
  clear ho2 hb2
  go_wp2
  go_ret2
  exact ⟨_, rfl, HO.out, HB2.out⟩
end Go.Proofs.YtbgnkekiephfeaaDoor
