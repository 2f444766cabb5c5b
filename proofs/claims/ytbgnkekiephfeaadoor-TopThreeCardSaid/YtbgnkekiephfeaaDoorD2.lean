/-
  frame.reader.read of the bytes of a valid frame.
-/
import Derived.Test.YtbgnkekiephfeaaDoorD1
import Derived.Test.YtbgnkekiephfeaaDoorB3
namespace Go.Proofs.YtbgnkekiephfeaaDoor
open Go.RowKit

theorem grown_cell {w w' : World} {g : Nat} (h : w.grownBy w' (some g)) {a : Addr} {v : Value} (hc : w.cell? a = some v) (hne : a.block ≠ g) : w'.cell? a = some v := by
  have hlt := World.block_lt_of_cell? _ _ hc
  exact (World.cell?_of_block (w := w) (h.block a.block hlt (by simp; exact fun e => hne e))).trans hc
theorem RdB.grown {w w' : World} {g : Nat} {A : Option Addr} {n c : Nat} {l : List Nat} (h : RdB w (.slice A n c) l) (hg : w.grownBy w' (some g)) (hne : ∀ a, A = some a → a.block ≠ g) : RdB w' (.slice A n c) l := by
  obtain ⟨A', c', hv, h1, h2, hc⟩ := h.form
  cases hv
  refine ⟨h.bytes, h.len, A, c, rfl, h1, h2, fun hp => ?_⟩
  obtain ⟨gb, o, hA, hc⟩ := hc hp
  exact ⟨gb, o, hA, fun i hi => grown_cell hg (hc i hi) (show gb ≠ g from hne _ hA)⟩

set_option maxHeartbeats 1000000 in
theorem read_ok (vl net seq : Nat) (l : List Nat) (g gb o c : Nat) (w : World) (h1 : vl ≤ 15) (h2 : net ≤ 1) (h3 : seq ≤ 255) (h4 : 1 ≤ l.length) (h5 : l.length ≤ 64)
    (h : w.heap[g]? = some (rdr (.slice (some ⟨gb, o, none⟩) (l.length + 4) c) (.int .i64 0) (.int .i64 0) (.int .i64 0) (.slice none 0 0))) (hne : gb ≠ g)
    (hv : RdB w (.slice (some ⟨gb, o, none⟩) (l.length + 4) c) (bodyOf vl net seq l)) :
    Calls Tryd.prog 13 #[.pointer (some ⟨g, 0, none⟩)] w fun e w' => ∃ v', e = .returned (.bool true) ∧ OwnB w' w.heap.size v' l ∧ w'.heap[g]? = some (rdr (.slice none 0 0) (.int .i64 vl) (.int .i64 net) (.int .i64 seq) v') ∧ w.grownBy w' (some g) := by
  have hlen := bodyOf_len vl net seq l
  obtain ⟨A', c', hvv, hlc, hcm, hform⟩ := hv.form
  obtain ⟨g', o', e1, hbytes⟩ := hform (by omega)
  rw [hlen] at hvv hlc hbytes
  cases hvv
  cases e1
  have b0 : Hid (w.cell? ⟨gb, o + 0, none⟩ = some (.int .u8 ((vl : Nat) : Int))) := Lib.hid (hbytes 0 (by omega))
  have b1 : Hid (w.cell? ⟨gb, o + 1, none⟩ = some (.int .u8 ((net : Nat) : Int))) := Lib.hid (hbytes 1 (by omega))
  have b2 : Hid (w.cell? ⟨gb, o + 2, none⟩ = some (.int .u8 ((seq : Nat) : Int))) := Lib.hid (hbytes 2 (by omega))
  have b3 : Hid (w.cell? ⟨gb, o + 3, none⟩ = some (.int .u8 ((l.length : Nat) : Int))) := Lib.hid (hbytes 3 (by omega))
  have HV := Lib.hid hv
  have hc0 := rdr_cell h 0
  simp only [List.size_toArray, List.getElem?_toArray, List.getElem?_cons_zero] at hc0
  have H := Lib.hid h
  have hd : decide ((l.length : Int) + 4 < 4) = false := by simp; omega
  have hb := hv.bytes
  clear h hv hbytes hform
  go_enter Tryd.func13, Tryd.ntmps13
  go_wp2
  refine wp_region_plan [0, 0, 0, 0, 8, 24, 56, 0, 128, 384, 1016, 0, 2048, 6144, 16376, 32761, 65529, 131065, 262137, 524283, 1048571, 2097147, 4194299, 8388607, 16777215, 33554431, 67108863] [(0, .L), (1, .L), (2, .L), (3, .L), (4, .L), (5, .L), (7, .L), (8, .L), (9, .L), (11, .L), (12, .L), (13, .L), (6, .W), (10, .W), (14, .W), (15, .L), (16, .L), (17, .L), (18, .W), (19, .L), (20, .L), (21, .L), (22, .W), (23, .L), (24, .L), (25, .L), (26, .W)] (by kernel_rfl) (by kernel_rfl) ?_
  iterate 12 (refine plan_L rfl (fun K hK => ?_); go_simp; refine hK _ ?_; clear hK K)
  have H0 : Hid (w.drew.heap[g]? = some (rdr (.slice (some ⟨gb, o + 0, none⟩) (l.length + 4 - 0) (c - 0)) (.int .i64 0) (.int .i64 0) (.int .i64 0) (.slice none 0 0))) := H
  refine plan_W rfl (fun K hK => ?_); go_simp
  refine (next_any g gb (o + 0) (l.length + 4 - 0) (c - 0) vl _ _ _ _ w.drew H0.out (by omega) (by omega) (by omega) (show w.drew.cell? _ = _ from b0.out) (by omega)).mono ?_
  rintro e w1 ⟨rfl, hh1, hg1⟩
  refine hK _ _ ?_
  clear hK K
  have G1 := Lib.hid hg1
  have HH1 := Lib.hid hh1
  have c1 := Lib.hid (grown_cell hg1 (show w.drew.cell? _ = _ from b1.out) hne)
  have c2 := Lib.hid (grown_cell hg1 (show w.drew.cell? _ = _ from b2.out) hne)
  have c3 := Lib.hid (grown_cell hg1 (show w.drew.cell? _ = _ from b3.out) hne)
  clear hg1 hh1
  refine plan_W rfl (fun K hK => ?_); go_simp
  refine (next_any g gb (o + 1) (l.length + 4 - 1) (c - 1) net _ _ _ _ w1 HH1.out (by omega) (by omega) (by omega) c1.out (by omega)).mono ?_
  rintro e w2 ⟨rfl, hh2, hg2⟩
  refine hK _ _ ?_
  clear hK K
  have G2 := Lib.hid (World.grownBy.trans G1.out hg2)
  have HH2 := Lib.hid hh2
  have e2 := Lib.hid (grown_cell hg2 c2.out hne)
  have e3 := Lib.hid (grown_cell hg2 c3.out hne)
  clear hg2 hh2
  refine plan_W rfl (fun K hK => ?_); go_simp
  refine (next_any g gb (o + 2) (l.length + 4 - 2) (c - 2) seq _ _ _ _ w2 HH2.out (by omega) (by omega) (by omega) e2.out (by omega)).mono ?_
  rintro e w3 ⟨rfl, hh3, hg3⟩
  refine hK _ _ ?_
  clear hK K
  have G3 := Lib.hid (World.grownBy.trans G2.out hg3)
  have f3 := Lib.hid (grown_cell hg3 e3.out hne)
  have k0 := rdr_cell hh3 1
  have k1 := rdr_cell hh3 2
  have k2 := rdr_cell hh3 3
  have kf := rdr_free hh3
  simp only [List.size_toArray, List.getElem?_toArray, List.getElem?_cons_zero, List.getElem?_cons_succ] at k0 k1 k2
  have HH3 := Lib.hid hh3
  clear hg3 hh3
  refine plan_L rfl (fun K hK => ?_); go_simp; refine hK _ ?_; clear hK K
  refine plan_L rfl (fun K hK => ?_); go_simp; refine hK _ ?_; clear hK K
  refine plan_L rfl (fun K hK => ?_); go_simp; refine hK _ ?_; clear hK K
  refine plan_W rfl (fun K hK => ?_); go_simp; refine hK _ _ ?_; clear hK K
  refine plan_L rfl (fun K hK => ?_); go_simp; refine hK _ ?_; clear hK K
  refine plan_L rfl (fun K hK => ?_); go_simp; refine hK _ ?_; clear hK K
  refine plan_L rfl (fun K hK => ?_); go_simp; refine hK _ ?_; clear hK K
  refine plan_W rfl (fun K hK => ?_); go_simp; refine hK _ _ ?_; clear hK K
  refine plan_L rfl (fun K hK => ?_); go_simp; refine hK _ ?_; clear hK K
  refine plan_L rfl (fun K hK => ?_); go_simp; refine hK _ ?_; clear hK K
  refine plan_L rfl (fun K hK => ?_); go_simp; refine hK _ ?_; clear hK K
  refine plan_W rfl (fun K hK => ?_); go_simp; refine hK _ _ ?_; clear hK K
  refine plan_nil ?_
  have hh4 : (((w3.setCell ⟨g, 1, none⟩ (.int .i64 (vl : Int))).setCell ⟨g, 2, none⟩ (.int .i64 (net : Int))).setCell ⟨g, 3, none⟩ (.int .i64 (seq : Int))).heap[g]? =
      some (rdr (.slice (some ⟨gb, o + 3, none⟩) (l.length + 4 - 3) (c - 3)) (.int .i64 vl) (.int .i64 net) (.int .i64 seq) (.slice none 0 0)) := setCell_heap (setCell_heap (setCell_heap HH3.out))
  have hg4 := World.grownBy.trans (World.grownBy.trans (World.grownBy.trans G3.out (setCell_grown _ g 1 (.int .i64 (vl : Int)))) (setCell_grown _ g 2 (.int .i64 (net : Int)))) (setCell_grown _ g 3 (.int .i64 (seq : Int)))
  generalize ((w3.setCell ⟨g, 1, none⟩ (.int .i64 (vl : Int))).setCell ⟨g, 2, none⟩ (.int .i64 (net : Int))).setCell ⟨g, 3, none⟩ (.int .i64 (seq : Int)) = w4 at hh4 hg4 ⊢
  have H4 := Lib.hid hh4
  have G4 := Lib.hid hg4
  have f4 := Lib.hid (grown_cell hg4 (show w.drew.cell? _ = _ from b3.out) hne)
  clear hh4 hg4 HH1 HH2 HH3 G1 G2 G3 c1 c2 c3 e2 e3 f3 k0 k1 k2 kf
  go_wp2_with fail
  refine (next_any g gb (o + 3) (l.length + 4 - 3) (c - 3) l.length _ _ _ _ w4 H4.out (by omega) (by omega) (by omega) f4.out (by omega)).mono ?_
  rintro e w5 ⟨rfl, hh5, hg5⟩
  have hg05 := World.grownBy.trans G4.out hg5
  have hv5 : RdB w5 (.slice (some ⟨gb, o + 3 + 1, none⟩) (l.length + 4 - 3 - 1) (c - 3 - 1)) l := by
    have h0 := RdB.drop (l := bodyOf vl net seq l) (by rw [hlen]; exact HV.out.drew) 4 (by omega)
    rw [hlen] at h0
    rw [show l.length + 4 - 3 - 1 = l.length + 4 - 4 by omega, show c - 3 - 1 = c - 4 by omega]
    exact h0.grown hg05 (fun a ha => by cases ha; exact hne)
  have HV5 := Lib.hid hv5
  have H5 := Lib.hid hh5
  have G5 := Lib.hid hg05
  clear hh5 hg5 hg05 hv5
  go_wp2_with fail
  refine (rest_any l g _ _ _ _ _ w5 H5.out HV5.out).mono ?_
  rintro e w6 ⟨v', rfl, ho, hh6, hg6⟩
  obtain ⟨A6, c6, rfl, _⟩ := ho.rd.form
  have hc6 := rdr_cell hh6 4
  have hf6 := rdr_free hh6
  simp only [List.size_toArray, List.getElem?_toArray, List.getElem?_cons_zero, List.getElem?_cons_succ] at hc6
  have hgs : g < w.heap.size := lt_of_block H.out
  have G6 := Lib.hid (World.grownBy.trans G5.out hg6)
  have H6 := Lib.hid hh6
  have O6 := Lib.hid (ho.mono (show w.heap.size ≤ w5.heap.size from G5.out.size))
  have HVL := Lib.hid (show vld vl net seq l.length = true by unfold vld; simp; omega)
  clear ho hh6 hg6
  have hh7 := Lib.hid (setCell_heap (o := 4) (v := .slice A6 l.length c6) H6.out)
  have G7 := Lib.hid (World.grownBy.trans G6.out (setCell_grown w6 g 4 (.slice A6 l.length c6)))
  have hk1 := rdr_cell (w := w6.setCell ⟨g, 4, none⟩ (.slice A6 l.length c6)) hh7.out 1
  have hk2 := rdr_cell (w := w6.setCell ⟨g, 4, none⟩ (.slice A6 l.length c6)) hh7.out 2
  have hk3 := rdr_cell (w := w6.setCell ⟨g, 4, none⟩ (.slice A6 l.length c6)) hh7.out 3
  have hk4 := rdr_cell (w := w6.setCell ⟨g, 4, none⟩ (.slice A6 l.length c6)) hh7.out 4
  simp only [List.size_toArray, List.getElem?_toArray, List.getElem?_cons_zero, List.getElem?_cons_succ] at hk1 hk2 hk3 hk4
  go_wp2_with fail
  refine (valid_any vl net seq A6 l.length c6 _ (by omega)).mono ?_
  rintro e w7 ⟨rfl, hb7⟩
  rw [HVL.out]
  have O7 : Hid (OwnB (w6.setCell ⟨g, 4, none⟩ (.slice A6 l.length c6)) w.heap.size (.slice A6 l.length c6) l) := Lib.hid (by
    have ho := O6.out
    refine ⟨ho.bytes, ho.len, ownsRow_setCell_other ho.own ?_ _⟩
    intro e
    have := (ho.own.lt g e).1
    omega)
  have B7 := Lib.hid hb7
  clear hb7
  go_wp2
  go_ret
  have hb := B7.out
  have hsz : (w6.setCell ⟨g, 4, none⟩ (.slice A6 l.length c6)).heap.size = w6.heap.size := by simp [World.setCell]
  refine ⟨_, rfl, O7.out.below hb (Nat.le_refl _), ?_, ?_⟩
  · exact (hb.block g (lt_of_block hh7.out)).trans hh7.out
  · have g7 : w.grownBy _ (some g) := ⟨G7.out.os, G7.out.tape, G7.out.output, G7.out.size, G7.out.block⟩
    exact World.grownBy.trans g7 ⟨hb.os, hb.tape, hb.output, hb.size, fun k hk _ => hb.block k hk⟩
end Go.Proofs.YtbgnkekiephfeaaDoor
