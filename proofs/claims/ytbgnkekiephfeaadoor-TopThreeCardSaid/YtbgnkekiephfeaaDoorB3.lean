/-
  frame.Bytes of a valid frame.
-/
import Derived.Test.YtbgnkekiephfeaaDoorB1
namespace Go.Proofs.YtbgnkekiephfeaaDoor
open Go.RowKit

/-- The bytes ahead of the trailer. -/
def bodyOf (vl net seq : Nat) (l : List Nat) : List Nat := [vl, net, seq, l.length] ++ l
def bytesOf (vl net seq : Nat) (l : List Nat) : List Nat := bodyOf vl net seq l ++ trail (sumOf 0 (bodyOf vl net seq l)) 4
theorem bodyOf_len (vl net seq : Nat) (l : List Nat) : (bodyOf vl net seq l).length = l.length + 4 := by simp [bodyOf]

theorem head_cells (a b c n : Nat) (w : World) : ∀ i, i < [a, b, c, n].length → ((w.alloc (.cells #[.int .i64 a, .int .i64 b, .int .i64 c, .int .i64 n] 3)).drew).cell? ⟨w.heap.size, i, none⟩ = some (.int .i64 (([a, b, c, n][i]?.getD 0 : Nat) : Int)) := by
  intro i hi
  rw [World.cell?_drew, World.cell?_alloc_at _ _ _ _ rfl]
  have : i < 4 := hi
  obtain rfl | rfl | rfl | rfl : i = 0 ∨ i = 1 ∨ i = 2 ∨ i = 3 := by omega
  all_goals rfl

set_option maxHeartbeats 800000 in
theorem bytes_any (vl net seq : Nat) (l : List Nat) (v : Value) (w : World) (h : RdB w v l) (h1 : vl ≤ 15) (h2 : net ≤ 1) (h3 : seq ≤ 255) (h4 : 1 ≤ l.length) (h5 : l.length ≤ 64) :
    Calls Tryd.prog 4 #[.agg #[.int .i64 vl, .int .i64 net, .int .i64 seq, v]] w fun e w' => ∃ v', e = .returned (.tuple #[v', .int .i64 0]) ∧ OwnB w' w.heap.size v' (bytesOf vl net seq l) ∧ Below w.heap.size w w' := by
  obtain ⟨A, c, rfl, hlc, hcm, hform⟩ := h.form
  have HR := Lib.hid h
  have HV := Lib.hid (show vld vl net seq l.length = true by unfold vld; simp; omega)
  clear h hform
  go_enter Tryd.func4, Tryd.ntmps4
  go_wp2_with fail
  refine (valid_any vl net seq A l.length c _ (by omega)).mono ?_
  rintro e w1 ⟨rfl, hb⟩
  rw [HV.out]
  obtain ⟨hc1, hf1⟩ := bcell hb
  have HB := Lib.hid (((Below.refl w.heap.size w).alloc (Nat.le_refl _) _).trans (hb.mono (by simp)))
  have hsz : w.heap.size < w1.heap.size := by have := hb.size; simp at this; omega
  have HR1 := Lib.hid (HR.out.below HB.out (Nat.le_refl _))
  clear hb HR
  go_wp2
  refine wp_region_plan [0, 1, 0, 4, 0, 16, 0, 64, 192, 511, 1023, 0, 2048, 8191, 16383, 32767, 65535] [(0, .L), (1, .R), (2, .L), (3, .R), (4, .L), (5, .R), (6, .L), (7, .R), (8, .L), (11, .L), (12, .R), (9, .A), (10, .A), (13, .W), (14, .A), (15, .L), (16, .L)] (by kernel_rfl) (by kernel_rfl) ?_
  refine plan_L rfl (fun K hK => ?_); go_simp; refine hK _ ?_; clear hK K
  refine plan_R rfl rfl (fun K hK => ?_); go_simp; refine hK _ ?_; clear hK K
  refine plan_L rfl (fun K hK => ?_); go_simp; refine hK _ ?_; clear hK K
  refine plan_R rfl rfl (fun K hK => ?_); go_simp; refine hK _ ?_; clear hK K
  refine plan_L rfl (fun K hK => ?_); go_simp; refine hK _ ?_; clear hK K
  refine plan_R rfl rfl (fun K hK => ?_); go_simp; refine hK _ ?_; clear hK K
  refine plan_L rfl (fun K hK => ?_); go_simp; refine hK _ ?_; clear hK K
  refine plan_R rfl rfl (fun K hK => ?_); go_simp; refine hK _ ?_; clear hK K
  refine plan_L rfl (fun K hK => ?_); go_simp; refine hK _ ?_; clear hK K
  refine plan_L rfl (fun K hK => ?_); go_simp; refine hK _ ?_; clear hK K
  refine plan_R rfl rfl (fun K hK => ?_); go_simp; refine hK _ ?_; clear hK K
  refine plan_A rfl (fun K hK => ?_); go_simp; refine ⟨Ext.alloc _ _, hK _ _ ?_⟩; clear hK K
  have HC := Lib.hid (head_cells vl net seq l.length w1)
  refine plan_A rfl (fun K hK => ?_); go_simp
  refine (head_any [vl, net, seq, l.length] w1.heap.size 4 _ (by simp; omega) (by simp) HC.out).mono ?_
  rintro e w2 ⟨v2, rfl, ho2, hb2⟩
  refine ⟨Ext.of_below hb2, hK _ _ ?_⟩
  clear hK K HC
  have hb12 : Below w1.heap.size w1 w2 := ((Below.refl w1.heap.size w1).alloc (Nat.le_refl _) _).drew.trans (hb2.mono (by simp))
  have HB2' := Lib.hid (HB.out.trans (hb12.mono HB.out.size))
  have hsz2 : w1.heap.size < w2.heap.size := by have := hb2.size; simp at this; omega
  have HO2 := Lib.hid (ho2.mono (base' := w.heap.size) (by simp; omega))
  have HR2 := Lib.hid (HR1.out.below hb12 (Nat.le_refl _))
  clear ho2 hb2 hb12
  refine plan_W0 rfl rfl (fun K hK => ?_)
  refine wp_append_src _ (.tmp 17) (.tmp 19) 22 5 rfl w.heap.size (.int .u8 0) 1 1 Tryd.underlying22 info5 rfl (by decide) (by decide) _ _ 4 l.length _ _ rfl rfl HO2.out.own HR2.out.src (by omega) (by omega) ?_
  intro v3 w3 ho hg _
  refine hK _ _ ?_
  clear hK K
  have HO3 := Lib.hid (HO2.out.app HR2.out.bytes (by simp; omega) ho)
  have HB3 := Lib.hid (HB2'.out.grown hg (by omega) HO2.out.lt)
  clear ho hg
  simp only [Act.put, List.setIfInBounds_toArray, List.set_cons_succ, List.set_cons_zero]
  refine plan_A rfl (fun K hK => ?_); go_simp
  refine (append_any (bodyOf vl net seq l) v3 w3 HO3.out.rd (by rw [bodyOf_len]; omega)).mono ?_
  rintro e w4 ⟨v4, rfl, ho4, hb4⟩
  refine ⟨Ext.of_below hb4, hK _ _ ?_⟩
  clear hK K
  have HO4 := Lib.hid (ho4.mono HB3.out.size)
  have HB4 := Lib.hid (HB3.out.trans (hb4.mono HB3.out.size))
  clear ho4 hb4
  refine plan_L rfl (fun K hK => ?_); go_simp; refine hK _ ?_; clear hK K
  refine plan_L rfl (fun K hK => ?_); go_simp; refine hK _ ?_; clear hK K
  refine plan_nil ?_
  go_wp2
  go_ret2
  exact ⟨_, rfl, HO4.out, HB4.out⟩
end Go.Proofs.YtbgnkekiephfeaaDoor
