/-
  frame.Read of the bytes of a valid frame, and of bytes whose trailer does not fit.
-/
import Derived.Test.YtbgnkekiephfeaaDoorD2
import Derived.Test.YtbgnkekiephfeaaDoorC4
namespace Go.Proofs.YtbgnkekiephfeaaDoor
open Go.RowKit

theorem numK_trail (s : Nat) (hs : s < 4294967296) : numK (trail s 4) 4 = s := by
  simp only [numK_succ, numK_zero, trail, List.range, List.range.loop, List.map_cons, List.map_nil, List.getElem?_cons_zero, List.getElem?_cons_succ, Option.getD_some]
  omega
theorem sumOf_lt {s : Nat} {l : List Nat} (hs : s < 4294967296) (h : ∀ b ∈ l, b < 256) : sumOf s l < 4294967296 := by
  unfold sumOf
  exact flip_lt (upd_lt (flip_lt hs) h)
theorem bytesOf_fits {vl net seq : Nat} {l : List Nat} (hb : ∀ b ∈ bytesOf vl net seq l, b < 256) :
    ((numK ((bytesOf vl net seq l).drop ((bytesOf vl net seq l).length - 4)) 4 : Nat) : Int) = ((sumOf 0 ((bytesOf vl net seq l).take ((bytesOf vl net seq l).length - 4)) : Nat) : Int) := by
  have h1 : (bytesOf vl net seq l).length - 4 = (bodyOf vl net seq l).length := by simp [bytesOf, trail_len]
  rw [h1]
  have h2 : sumOf 0 (bodyOf vl net seq l) < 4294967296 := sumOf_lt (by decide) fun b h => hb b (by unfold bytesOf; exact List.mem_append_left _ h)
  unfold bytesOf
  rw [List.drop_left, List.take_left, numK_trail _ h2]
theorem bytesOf_len (vl net seq : Nat) (l : List Nat) : (bytesOf vl net seq l).length = l.length + 8 := by simp [bytesOf, bodyOf_len, trail_len]

theorem alloc_last (w : World) (o : Obj) : (w.alloc o).heap[w.heap.size]? = some o := by
  show (w.heap.push o)[w.heap.size]? = _
  simp
theorem below_of_grownAt {w w' : World} {g base : Nat} (hg : w.grownBy w' (some g)) (hb : base ≤ w.heap.size) (hgb : base ≤ g) : Below base w w' :=
  ⟨hg.os, hg.tape, hg.output, hg.size, fun k hk => hg.block k (by omega) (by simp; omega)⟩

set_option maxHeartbeats 1000000 in
theorem read_good (vl net seq : Nat) (l : List Nat) (v : Value) (w : World) (h : RdB w v (bytesOf vl net seq l)) (h1 : vl ≤ 15) (h2 : net ≤ 1) (h3 : seq ≤ 255) (h4 : 1 ≤ l.length) (h5 : l.length ≤ 64) :
    Calls Tryd.prog 5 #[v] w fun e w' => ∃ v', e = .returned (.tuple #[.agg #[.int .i64 vl, .int .i64 net, .int .i64 seq, v'], .int .i64 0]) ∧ OwnB w' w.heap.size v' l ∧ Below w.heap.size w w' := by
  have HR := Lib.hid h
  have hl8 := bytesOf_len vl net seq l
  have hfit := Lib.hid (bytesOf_fits h.bytes)
  have htk : (bytesOf vl net seq l).take ((bytesOf vl net seq l).length - 4) = bodyOf vl net seq l := by
    rw [show (bytesOf vl net seq l).length - 4 = (bodyOf vl net seq l).length by rw [hl8, bodyOf_len]; omega]
    unfold bytesOf
    rw [List.take_left]
  clear h
  go_enter Tryd.func5, Tryd.ntmps5
  go_wp2_with fail
  have hw0 : (w.alloc (.cells #[.int .i64 0, .int .i64 0, .int .i64 0, .slice none 0 0] 24)).heap[w.heap.size]? = some (.cells #[.int .i64 0, .int .i64 0, .int .i64 0, .slice none 0 0] 24) := alloc_last _ _
  have hB0 : Below w.heap.size w (w.alloc (.cells #[.int .i64 0, .int .i64 0, .int .i64 0, .slice none 0 0] 24)) := (Below.refl _ _).alloc (Nat.le_refl _) _
  have hS0 : (w.alloc (.cells #[.int .i64 0, .int .i64 0, .int .i64 0, .slice none 0 0] 24)).heap.size = w.heap.size + 1 := by simp
  generalize w.alloc (.cells #[.int .i64 0, .int .i64 0, .int .i64 0, .slice none 0 0] 24) = w0 at hw0 hB0 hS0 ⊢
  refine (check_good (bytesOf vl net seq l) v _ (HR.out.below hB0 (Nat.le_refl _)) (by omega) (by rw [hfit.out]; simp)).mono ?_
  rintro e w1 ⟨v1, rfl, ho, hb⟩
  rw [htk] at ho
  have hlen := bodyOf_len vl net seq l
  obtain ⟨gb, c1, rfl, hgb1, hgb2⟩ := ho.form (by omega)
  have hw1 : w1.heap[w.heap.size]? = some (.cells #[.int .i64 0, .int .i64 0, .int .i64 0, .slice none 0 0] 24) := (hb.block _ (by omega)).trans hw0
  have hs1 := hb.size
  have HO := Lib.hid ho
  have HB1 := Lib.hid (hB0.trans (hb.mono (show w.heap.size ≤ w0.heap.size by omega)))
  have HW1 := Lib.hid hw1
  clear ho hb hw0 hB0 hw1
  go_wp2_with fail
  have hg : (w1.alloc (rdr (.slice (some ⟨gb, 0, none⟩) (l.length + 4) c1) (.int .i64 0) (.int .i64 0) (.int .i64 0) (.slice none 0 0))).heap[w1.heap.size]? = some (rdr (.slice (some ⟨gb, 0, none⟩) (l.length + 4) c1) (.int .i64 0) (.int .i64 0) (.int .i64 0) (.slice none 0 0)) := alloc_last _ _
  have hbe : Below w1.heap.size w1 (w1.alloc (rdr (.slice (some ⟨gb, 0, none⟩) (l.length + 4) c1) (.int .i64 0) (.int .i64 0) (.int .i64 0) (.slice none 0 0))) := (Below.refl _ _).alloc (Nat.le_refl _) _
  have hr2 := HO.out.rd.below hbe (Nat.le_refl _)
  rw [hlen] at hr2
  refine (read_ok vl net seq l w1.heap.size gb 0 c1 _ h1 h2 h3 h4 h5 hg (by omega) hr2).mono ?_
  rintro e w2 ⟨v', rfl, ho2, hh2, hg2⟩
  have hb2 : Below w1.heap.size w1 w2 := hbe.trans (below_of_grownAt hg2 (by simp) (Nat.le_refl _))
  obtain ⟨gv, cv, rfl, hgv1, hgv2⟩ := ho2.form (by omega)
  have hn1 := rdr_cell hh2 1
  have hn2 := rdr_cell hh2 2
  have hn3 := rdr_cell hh2 3
  have hn4 := rdr_cell hh2 4
  simp only [List.size_toArray, List.getElem?_toArray, List.getElem?_cons_zero, List.getElem?_cons_succ] at hn1 hn2 hn3 hn4
  have hw2 : w2.heap[w.heap.size]? = some (.cells #[.int .i64 0, .int .i64 0, .int .i64 0, .slice none 0 0] 24) := (hb2.block _ (by omega)).trans HW1.out
  have hf2 : ∀ o, w2.frozen? ⟨w.heap.size, o, none⟩ = false := fun o => by simp [World.frozen?, hw2]
  have hz : ∀ o, w2.cell? ⟨w.heap.size, o, none⟩ = #[Value.int .i64 0, .int .i64 0, .int .i64 0, .slice none 0 0][o]? := fun o => by simp [World.cell?, hw2]
  have hz0 := hz 0
  have hz1 := hz 1
  have hz2 := hz 2
  have hz3 := hz 3
  simp only [List.size_toArray, List.getElem?_toArray, List.getElem?_cons_zero, List.getElem?_cons_succ] at hz0 hz1 hz2 hz3
  have HO2 := Lib.hid ho2
  have HW2 := Lib.hid hw2
  have HB2 := Lib.hid (HB1.out.trans (hb2.mono (show w.heap.size ≤ w1.heap.size by omega)))
  have hs2 := hb2.size
  clear ho2 hh2 hg2 hbe hr2 hg hw2 hz
  go_wp2
  have hW : ((((w2.setCell ⟨w.heap.size, 0, none⟩ (.int .i64 (vl : Int))).setCell ⟨w.heap.size, 1, none⟩ (.int .i64 (net : Int))).setCell ⟨w.heap.size, 2, none⟩ (.int .i64 (seq : Int))).setCell ⟨w.heap.size, 3, none⟩
      (.slice (some ⟨gv, 0, none⟩) l.length cv)).heap[w.heap.size]? = some (.cells #[.int .i64 vl, .int .i64 net, .int .i64 seq, .slice (some ⟨gv, 0, none⟩) l.length cv] 24) := setCell_heap (setCell_heap (setCell_heap (setCell_heap HW2.out)))
  have hB := (((HB2.out.setCell (p := ⟨w.heap.size, 0, none⟩) (Nat.le_refl _) (.int .i64 (vl : Int))).setCell (p := ⟨w.heap.size, 1, none⟩) (Nat.le_refl _) (.int .i64 (net : Int))).setCell (p := ⟨w.heap.size, 2, none⟩) (Nat.le_refl _) (.int .i64 (seq : Int))).setCell
    (p := ⟨w.heap.size, 3, none⟩) (Nat.le_refl _) (.slice (some ⟨gv, 0, none⟩) l.length cv)
  have ne : ∀ k, (Value.slice (some ⟨gv, 0, none⟩) l.length cv).ownBlock = some k → k ≠ w.heap.size := by
    intro k hk
    cases hk
    show gv ≠ _
    have h0 : (w1.alloc (rdr (.slice (some ⟨gb, 0, none⟩) (l.length + 4) c1) (.int .i64 0) (.int .i64 0) (.int .i64 0) (.slice none 0 0))).heap.size = w1.heap.size + 1 := by simp
    omega
  have hown : OwnB ((((w2.setCell ⟨w.heap.size, 0, none⟩ (.int .i64 (vl : Int))).setCell ⟨w.heap.size, 1, none⟩ (.int .i64 (net : Int))).setCell ⟨w.heap.size, 2, none⟩ (.int .i64 (seq : Int))).setCell ⟨w.heap.size, 3, none⟩
      (.slice (some ⟨gv, 0, none⟩) l.length cv)) w.heap.size (.slice (some ⟨gv, 0, none⟩) l.length cv) l := by
    have ho := HO2.out.mono (show w.heap.size ≤ _ from Nat.le_trans (show w.heap.size ≤ w1.heap.size by omega) (by simp))
    refine ⟨ho.bytes, ho.len, ?_⟩
    exact ownsRow_setCell_other (ownsRow_setCell_other (ownsRow_setCell_other (ownsRow_setCell_other ho.own (fun e => ne _ e rfl) _) (fun e => ne _ e rfl) _) (fun e => ne _ e rfl) _) (fun e => ne _ e rfl) _
  generalize (((w2.setCell ⟨w.heap.size, 0, none⟩ (.int .i64 (vl : Int))).setCell ⟨w.heap.size, 1, none⟩ (.int .i64 (net : Int))).setCell ⟨w.heap.size, 2, none⟩ (.int .i64 (seq : Int))).setCell ⟨w.heap.size, 3, none⟩
      (.slice (some ⟨gv, 0, none⟩) l.length cv) = w3 at hW hB hown ⊢
  have hz : ∀ o, w3.cell? ⟨w.heap.size, o, none⟩ = #[Value.int .i64 vl, .int .i64 net, .int .i64 seq, .slice (some ⟨gv, 0, none⟩) l.length cv][o]? := fun o => by simp [World.cell?, hW]
  have y0 := hz 0
  have y1 := hz 1
  have y2 := hz 2
  have y3 := hz 3
  simp only [List.size_toArray, List.getElem?_toArray, List.getElem?_cons_zero, List.getElem?_cons_succ] at y0 y1 y2 y3
  refine bodyPost_ret (v := .tuple #[.agg #[.int .i64 vl, .int .i64 net, .int .i64 seq, .slice (some ⟨gv, 0, none⟩) l.length cv], .int .i64 0]) ?_ rfl ⟨_, rfl, hown, hB⟩
  simp [results, show Tryd.f5.results = #[.cell 2 24, .tmp 3] from rfl, go_sem, y0, y1, y2, y3]

set_option maxHeartbeats 1000000 in
theorem read_bad (l : List Nat) (v : Value) (w : World) (h : RdB w v l) (h4 : 4 ≤ l.length) (hne : (((numK (l.drop (l.length - 4)) 4 : Nat) : Int) != ((sumOf 0 (l.take (l.length - 4)) : Nat) : Int)) = true) :
    Calls Tryd.prog 5 #[v] w fun e w' => e = .returned (.tuple #[.agg #[.int .i64 0, .int .i64 0, .int .i64 0, .slice none 0 0], .int .i64 40]) ∧ Below w.heap.size w w' := by
  have HR := Lib.hid h
  clear h
  go_enter Tryd.func5, Tryd.ntmps5
  go_wp2_with fail
  have hw0 : (w.alloc (.cells #[.int .i64 0, .int .i64 0, .int .i64 0, .slice none 0 0] 24)).heap[w.heap.size]? = some (.cells #[.int .i64 0, .int .i64 0, .int .i64 0, .slice none 0 0] 24) := alloc_last _ _
  have hB0 : Below w.heap.size w (w.alloc (.cells #[.int .i64 0, .int .i64 0, .int .i64 0, .slice none 0 0] 24)) := (Below.refl _ _).alloc (Nat.le_refl _) _
  have hS0 : (w.alloc (.cells #[.int .i64 0, .int .i64 0, .int .i64 0, .slice none 0 0] 24)).heap.size = w.heap.size + 1 := by simp
  generalize w.alloc (.cells #[.int .i64 0, .int .i64 0, .int .i64 0, .slice none 0 0] 24) = w0 at hw0 hB0 hS0 ⊢
  refine (check_bad l v _ (HR.out.below hB0 (Nat.le_refl _)) h4 hne).mono ?_
  rintro e w1 ⟨rfl, hb⟩
  have hw1 : w1.heap[w.heap.size]? = some (.cells #[.int .i64 0, .int .i64 0, .int .i64 0, .slice none 0 0] 24) := (hb.block _ (by omega)).trans hw0
  have hs1 := hb.size
  have HB1 := Lib.hid (hB0.trans (hb.mono (show w.heap.size ≤ w0.heap.size by omega)))
  have hf2 : ∀ o, w1.frozen? ⟨w.heap.size, o, none⟩ = false := fun o => by simp [World.frozen?, hw1]
  have hz : ∀ o, w1.cell? ⟨w.heap.size, o, none⟩ = #[Value.int .i64 0, .int .i64 0, .int .i64 0, .slice none 0 0][o]? := fun o => by simp [World.cell?, hw1]
  have hz0 := hz 0
  have hz1 := hz 1
  have hz2 := hz 2
  have hz3 := hz 3
  simp only [List.size_toArray, List.getElem?_toArray, List.getElem?_cons_zero, List.getElem?_cons_succ] at hz0 hz1 hz2 hz3
  have HW1 := Lib.hid hw1
  clear hb hw0 hB0 hw1 hz hne
  go_wp2
  have hW : ((((w1.setCell ⟨w.heap.size, 0, none⟩ (.int .i64 0)).setCell ⟨w.heap.size, 1, none⟩ (.int .i64 0)).setCell ⟨w.heap.size, 2, none⟩ (.int .i64 0)).setCell ⟨w.heap.size, 3, none⟩
      (.slice none 0 0)).heap[w.heap.size]? = some (.cells #[.int .i64 0, .int .i64 0, .int .i64 0, .slice none 0 0] 24) := setCell_heap (setCell_heap (setCell_heap (setCell_heap HW1.out)))
  have hB := (((HB1.out.setCell (p := ⟨w.heap.size, 0, none⟩) (Nat.le_refl _) (.int .i64 0)).setCell (p := ⟨w.heap.size, 1, none⟩) (Nat.le_refl _) (.int .i64 0)).setCell (p := ⟨w.heap.size, 2, none⟩) (Nat.le_refl _) (.int .i64 0)).setCell
    (p := ⟨w.heap.size, 3, none⟩) (Nat.le_refl _) (.slice none 0 0)
  generalize (((w1.setCell ⟨w.heap.size, 0, none⟩ (.int .i64 0)).setCell ⟨w.heap.size, 1, none⟩ (.int .i64 0)).setCell ⟨w.heap.size, 2, none⟩ (.int .i64 0)).setCell ⟨w.heap.size, 3, none⟩
      (.slice none 0 0) = w3 at hW hB ⊢
  have hz : ∀ o, w3.cell? ⟨w.heap.size, o, none⟩ = #[Value.int .i64 0, .int .i64 0, .int .i64 0, .slice none 0 0][o]? := fun o => by simp [World.cell?, hW]
  have y0 := hz 0
  have y1 := hz 1
  have y2 := hz 2
  have y3 := hz 3
  simp only [List.size_toArray, List.getElem?_toArray, List.getElem?_cons_zero, List.getElem?_cons_succ] at y0 y1 y2 y3
  refine bodyPost_ret (v := .tuple #[.agg #[.int .i64 0, .int .i64 0, .int .i64 0, .slice none 0 0], .int .i64 40]) ?_ rfl ⟨rfl, hB⟩
  simp [results, show Tryd.f5.results = #[.cell 2 24, .tmp 3] from rfl, go_sem, y0, y1, y2, y3]
end Go.Proofs.YtbgnkekiephfeaaDoor
