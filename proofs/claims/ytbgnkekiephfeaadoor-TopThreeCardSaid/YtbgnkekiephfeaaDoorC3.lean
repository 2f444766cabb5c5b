/-
  The iterator of frame.set: it yields the set bits of its mask, least first, and keeps the mask in a variable of its own.
-/
import Derived.Test.YtbgnkekiephfeaaDoorC2
namespace Go.Proofs.YtbgnkekiephfeaaDoor
open Go.RowKit
attribute [local go_sem] Oper.semAt_some

def maskOf (Bm : Nat) (w : World) : Nat := match w.cell? ⟨Bm, 0, none⟩ with | some (.int _ n) => n.toNat | _ => 0
theorem maskOf_eq {Bm : Nat} {w : World} {k : IntKind} {m : Nat} (h : w.cell? ⟨Bm, 0, none⟩ = some (.int k m)) : maskOf Bm w = m := by simp [maskOf, h]

theorem set_iter (m Bm : Nat) (w : World) (hcell : w.cell? ⟨Bm, 0, none⟩ = some (.int .u32 m)) (hfree : w.frozen? ⟨Bm, 0, none⟩ = false) (hT : Tab0 w) (hm : m < 4294967296) :
    Iter Tryd.prog 23 #[.pointer (some ⟨Bm, 0, none⟩)] (· < 32) (fun k : Nat => .int .i64 (k : Int)) (· = Bm) (fun b => b = Bm ∨ b = 0) (· = bl 33 m) w := by
  intro l J W hW hJ hJm hY h0
  have hBm := World.block_lt_of_cell? _ _ hcell
  have h00 := World.block_lt_of_cell? _ _ (hT 0 (by omega))
  have hB0 : Bm ≠ 0 := by
    rintro rfl
    have := hT 0 (by omega)
    rw [hcell] at this
    cases this
  have hc0 : W.cell? ⟨Bm, 0, none⟩ = some (.int .u32 m) := (hW.cell (p := ⟨Bm, 0, none⟩) hBm).trans hcell
  have hf0 : W.frozen? ⟨Bm, 0, none⟩ = false := (hW.frozen (p := ⟨Bm, 0, none⟩) hBm).trans hfree
  have hT0 : Tab0 W := fun i hi => (hW.cell (p := ⟨0, i, none⟩) h00).trans (hT i hi)
  refine callsIn_of_wp Tryd.func23 rfl trivial ?_
  simp only [Tryd.ntmps23, List.size_toArray, List.length_cons, List.length_nil, Nat.reduceAdd, Nat.reduceSub, Array.replicate_succ, Array.replicate_zero, List.push_toArray, List.append_toArray, List.nil_append, List.cons_append]
  gi_wp2
  gi_loopw [3] (fun _ wr => ∃ (pre : List Nat) (f m' : Nat), m' < 4294967296 ∧ wr.cell? ⟨Bm, 0, none⟩ = some (.int .u32 m') ∧ wr.frozen? ⟨Bm, 0, none⟩ = false ∧ Hid (Tab0 wr) ∧ Hid (bl 33 m = pre ++ bl f m') ∧ Hid (2 ^ pre.length ∣ m') ∧ Hid (pre.length + f = 33) ∧ Hid (J pre wr))
    (fun _ wr => maskOf Bm wr)
  case atStart =>
    exact ⟨[], 33, m, hm, hc0, hf0, Lib.hid hT0, Lib.hid rfl, Lib.hid (by simp), Lib.hid (by simp), Lib.hid h0⟩
  case round =>
    obtain ⟨pre, f, m', hm', hc, hf, HT, HX, HD, HF, HJ⟩ := hrel
    have HM := Lib.hid (maskOf_eq hc)
    clear hc0 hf0 hT0 hT hcell hfree h0
    by_cases hz : m' = 0
    · subst hz
      gi_wp2
      go_end0
      exact ⟨⟨_, rfl⟩, pre, by rw [HX.out, bl_zero, List.append_nil], HJ.out⟩
    · have hne : ((m' : Int) != 0) = true := by simpa using hz
      have hne2 : ((m' : Int) == 0) = false := by simpa using hz
      obtain ⟨hk, q, hq⟩ := low_spec hz hm'
      have HQ := Lib.hid hq
      have HP := Lib.hid (u32_pred m' hz hm')
      have HD1 := Lib.hid (step_dvd hz hm' HD.out)
      have HL := Lib.hid (low_le hz hm')
      have HTZ := Lib.hid (tz_any (low m') q m' hq hk hm')
      have hlt1 : pre.length < 33 := by
        rcases Nat.lt_or_ge pre.length 33 with h | h
        · exact h
        · have := Nat.le_of_dvd (by omega) HD.out
          have h2 : 2 ^ 33 ≤ 2 ^ pre.length := Nat.pow_le_pow_right (by omega) h
          omega
      obtain ⟨f1, hf1⟩ : ∃ f1, f = f1 + 1 := ⟨f - 1, by have := HF.out; omega⟩
      have HF1 := Lib.hid hf1
      have HB := Lib.hid (bl_succ f1 m' hz)
      generalize low m' = k at hk HP HD1 HL HTZ HB
      clear hq hf1
      obtain ⟨fn, tmps, assign, body, hy, hR⟩ := hY pre k wr hk HJ.out
      gi_wp2_with fail
      refine ⟨trivial, rfl, callsIn_wide.2 ((HTZ.out _ HT.out).mono ?_)⟩
      rintro e w' ⟨rfl, rfl⟩
      gi_wp2
      refine ⟨rfl, hR.mono ?_⟩
      rintro e W3 ⟨rfl, hJ3, hk3⟩
      have hc3 : W3.cell? ⟨Bm, 0, none⟩ = some (.int .u32 m') := (World.cell?_of_block (w := w') (hk3 Bm (.inl rfl))).trans hc
      have hf3 : W3.frozen? ⟨Bm, 0, none⟩ = false := (World.frozen?_of_block (w := w') (hk3 Bm (.inl rfl))).trans hf
      have HT3 : Hid (Tab0 W3) := Lib.hid fun i hi => (World.cell?_of_block (w := w') (hk3 0 (.inr rfl))).trans (HT.out i hi)
      have HJ3 := Lib.hid hJ3
      have hp := HP.out
      have HP3 := Lib.hid hp
      clear hc hf HT hk3 hJ3 HP HJ hR hy HQ
      gi_wp2
      go_roundw
      case rel =>
        refine ⟨pre ++ [k], f1, m' - 2 ^ k, Nat.lt_of_le_of_lt (Nat.sub_le _ _) hm', ?_, ?_, Lib.hid ?_, Lib.hid ?_, Lib.hid ?_, Lib.hid ?_, Lib.hid ?_⟩
        · rw [World.cell?_setCell_same (h := hc3)]; try rw [HP3.out]
        · rw [World.frozen?_setCell]; exact hf3
        · intro i hi
          rw [World.cell?_setCell_other (h := fun e => hB0 (congrArg Addr.block e))]
          exact HT3.out i hi
        · rw [HX.out, HF1.out, HB.out]; simp
        · rw [List.length_append]; exact HD1.out
        · have := HF.out; have := HF1.out; simp; omega
        · exact hJm _ _ _ _ _ rfl HJ3.out
      case measure =>
        have h4 := Nat.sub_lt (show 0 < m' by omega) (Nat.two_pow_pos k)
        rw [maskOf_eq (World.cell?_setCell_same W3 _ _ hc3), HM.out]
        exact h4
end Go.Proofs.YtbgnkekiephfeaaDoor
