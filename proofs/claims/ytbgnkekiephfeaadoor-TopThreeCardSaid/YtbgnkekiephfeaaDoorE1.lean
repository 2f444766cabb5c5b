/-
  The law TopThree, walked whole.
-/
import Derived.Test.YtbgnkekiephfeaaDoorL0
namespace Go.Proofs.YtbgnkekiephfeaaDoor
open Go.RowKit

set_option maxRecDepth 100000 in
set_option maxHeartbeats 4000000 in
theorem law_any (V T S : Nat → Int) (A : Nat → Option Addr) (m c : Nat → Nat) (L : Nat → List Nat) (n at_ mk : Nat) (w : World)
    (hm : ∀ i, i < 3 → n ≤ m i) (hL : ∀ i, i < 3 → (L i).length = n) (hn : n ≤ 64)
    (hmin : (min (min (min (m 0 : Int) (m 1)) (m 2)) 64) = (n : Int))
    (v t s : Nat → Nat) (hv : ∀ i, i < 3 → bits .and .i64 (V i) 15 = (v i : Int) ∧ v i ≤ 15) (ht : ∀ i, i < 3 → bits .and .i64 (T i) 1 = (t i : Int) ∧ t i ≤ 1) (hs : ∀ i, i < 3 → bits .and .i64 (S i) 255 = (s i : Int) ∧ s i ≤ 255)
    (hat : at_ < 65536) (hmk32 : mk < 4294967296) (hTab : Tab0 w)
    (hlin : dx (n + 8) (fun i => bytesOf (v i) (t i) (s i) (L i)) 3 = bytesOf (xf v 3) (xf t 3) (xf s 3) (dx n L 3))
    (hbur : flAll (bytesOf (xf v 3) (xf t 3) (xf s 3) (dx n L 3)) (at_ % (8 * (n + 8))) (bl 33 mk) ≠ bytesOf (xf v 3) (xf t 3) (xf s 3) (dx n L 3) →
      numK ((flAll (bytesOf (xf v 3) (xf t 3) (xf s 3) (dx n L 3)) (at_ % (8 * (n + 8))) (bl 33 mk)).drop (n + 4)) 4 ≠ sumOf 0 ((flAll (bytesOf (xf v 3) (xf t 3) (xf s 3) (dx n L 3)) (at_ % (8 * (n + 8))) (bl 33 mk)).take (n + 4)))
    (hRd : ∀ i, i < 3 → RdB w (.slice (A i) n (c i)) (L i)) :
    Calls Tryd.prog 3 #[.agg #[.int .i64 (V 0), .int .i64 (T 0), .int .i64 (S 0), .slice (A 0) (m 0) (c 0)], .agg #[.int .i64 (V 1), .int .i64 (T 1), .int .i64 (S 1), .slice (A 1) (m 1) (c 1)],
      .agg #[.int .i64 (V 2), .int .i64 (T 2), .int .i64 (S 2), .slice (A 2) (m 2) (c 2)], .int .u16 at_, .int .u32 mk] w fun e w' => e = .returned (.bool true) ∧ Below w.heap.size w w' := by
  have hmn := run_min4 (m 0) (m 1) (m 2) 64 n hmin
  have HRD := Lib.hid hRd
  have HLIN := Lib.hid hlin
  have HBUR := Lib.hid hbur
  have HTAB := Lib.hid hTab
  clear hmin hRd hlin hbur hTab
  go_enter Tryd.func3, Tryd.ntmps3
  go_wp2_with fail
  obtain ⟨W, hW⟩ : ∃ W, W = (((w.alloc (.cells #[.int .i64 (V 0), .int .i64 (T 0), .int .i64 (S 0), .slice (A 0) (m 0) (c 0)] 24)).alloc (.cells #[.int .i64 (V 1), .int .i64 (T 1), .int .i64 (S 1), .slice (A 1) (m 1) (c 1)] 24)).alloc
    (.cells #[.int .i64 (V 2), .int .i64 (T 2), .int .i64 (S 2), .slice (A 2) (m 2) (c 2)] 24)).alloc (.cells #[.int .u8 7, .int .u8 9] 5) := ⟨_, rfl⟩
  rw [← hW]
  obtain ⟨q0, q1, q2, q3, qs, qb⟩ := four_allocs w _ _ _ _ W hW
  clear hW
  refine (bytes_any 3 1 200 [7, 9] _ _ (rd79 W _ q3) (by decide) (by decide) (by decide) (by decide) (by decide)).mono ?_
  rintro e w1 ⟨v1, rfl, ho, hb⟩
  obtain ⟨gx, cx, rfl, hgx1, hgx2⟩ := ho.form (by rw [bytesOf_len]; decide)
  have hxl : (bytesOf 3 1 200 [7, 9]).length = 10 := bytesOf_len _ _ _ _
  have ht6 := RdB.take ho.rd 6 (by omega)
  have hcx : 10 ≤ cx := by
    obtain ⟨A', c', hv, h1, _⟩ := ho.rd.form
    cases hv
    omega
  have hc6 := conv_rd ht6
  rw [take6, str6] at hc6
  have hrt := run_take22 (some ⟨gx, 0, none⟩) 10 cx 6 (by omega) w1
  rw [hxl] at ho ⊢
  have Q0 := Lib.hid q0
  have Q1 := Lib.hid q1
  have Q2 := Lib.hid q2
  have QB := Lib.hid qb
  have HO1 := Lib.hid ho
  have HB1 := Lib.hid hb
  have hs1 := hb.size
  clear q0 q1 q2 q3 qb ho hb ht6
  go_wp2_with fail
  refine (read_good 3 1 200 [7, 9] _ _ (by have := HO1.out.rd; exact this) (by decide) (by decide) (by decide) (by decide) (by decide)).mono ?_
  rintro e w2 ⟨v2, rfl, ho, hb⟩
  obtain ⟨gy, cy, rfl, hgy1, hgy2⟩ := ho.form (by decide)
  have hw : Below w2.heap.size w2 (w2.alloc (.cells #[.int .i64 3, .int .i64 1, .int .i64 200, .slice (some ⟨gy, 0, none⟩) 2 cy] 24)) := (Below.refl _ _).alloc (Nat.le_refl _) _
  have hc2 : (convert 22 9 (.slice (some ⟨gy, 0, none⟩) 2 cy)).run Tryd.prog (w2.alloc (.cells #[.int .i64 3, .int .i64 1, .int .i64 200, .slice (some ⟨gy, 0, none⟩) 2 cy] 24)) = _ := conv_rd (ho.rd.below hw (Nat.le_refl _))
  rw [str2] at hc2
  have hbw := (HB1.out.trans (hb.mono hs1)).trans (hw.mono (Nat.le_trans hs1 hb.size))
  have HB2 := Lib.hid hbw
  have hs2 := hb.size
  have hb2' := HB1.out.trans (hb.mono hs1)
  have HBw2 := Lib.hid (QB.out.trans (hb2'.mono (by omega)))
  have HRW := Lib.hid (fun i (hi : i < 3) => ((HRD.out i hi).below QB.out (Nat.le_refl _)).below hb2' (Nat.le_refl _))
  have z0 := (hb2'.block w.heap.size (by omega)).trans Q0.out
  have z1 := (hb2'.block (w.heap.size + 1) (by omega)).trans Q1.out
  have z2 := (hb2'.block (w.heap.size + 1 + 1) (by omega)).trans Q2.out
  have hs3 : (w2.alloc (.cells #[.int .i64 3, .int .i64 1, .int .i64 200, .slice (some ⟨gy, 0, none⟩) 2 cy] 24)).heap.size = w2.heap.size + 1 := by simp
  have HW3 := Lib.hid hs3
  have y0 : ∀ o, w2.cell? ⟨w.heap.size, o, none⟩ = #[Value.int .i64 (V 0), .int .i64 (T 0), .int .i64 (S 0), .slice (A 0) (m 0) (c 0)][o]? := fun o => by simp only [World.cell?, z0]; rfl
  have x0 := And.intro (y0 0) (And.intro (y0 1) (And.intro (y0 2) (y0 3)))
  have y1 : ∀ o, w2.cell? ⟨w.heap.size + 1, o, none⟩ = #[Value.int .i64 (V 1), .int .i64 (T 1), .int .i64 (S 1), .slice (A 1) (m 1) (c 1)][o]? := fun o => by simp only [World.cell?, z1]; rfl
  have x1 := And.intro (y1 0) (And.intro (y1 1) (And.intro (y1 2) (y1 3)))
  have y2 : ∀ o, w2.cell? ⟨w.heap.size + 1 + 1, o, none⟩ = #[Value.int .i64 (V 2), .int .i64 (T 2), .int .i64 (S 2), .slice (A 2) (m 2) (c 2)][o]? := fun o => by simp only [World.cell?, z2]; rfl
  have x2 := And.intro (y2 0) (And.intro (y2 1) (And.intro (y2 2) (y2 3)))
  simp only [List.size_toArray, List.getElem?_toArray, List.getElem?_cons_zero, List.getElem?_cons_succ] at x0 x1 x2
  obtain ⟨x00, x01, x02, x03⟩ := x0
  obtain ⟨x10, x11, x12, x13⟩ := x1
  obtain ⟨x20, x21, x22, x23⟩ := x2
  have hk0 : w.heap.size < w2.heap.size := by omega
  have hk1 : w.heap.size + 1 < w2.heap.size := by omega
  have hk2 : w.heap.size + 1 + 1 < w2.heap.size := by omega
  have hk3 : w.heap.size < w2.heap.size + 1 := by omega
  have hk4 : w.heap.size < w2.heap.size + 1 + 1 := by omega
  have hk5 : w.heap.size < w2.heap.size + 1 + 1 + 1 := by omega
  clear ho hb hc6 hrt hw z0 z1 z2 y0 y1 y2 hs3 hb2' hbw
  have hmk := mk22 n (by omega)
  rcases Nat.eq_zero_or_pos n with hn0 | hn0
  · have hd : decide ((n : Int) < 1) = true := by simp; omega
    go_wp2
    go_ret
    exact ⟨rfl, QB.out.trans (HB2.out.mono (by omega))⟩
  have hd : decide ((n : Int) < 1) = false := by simp; omega
  go_wp2_with fail
  go_loopw [97] (fun u wr => ∃ k : Nat, k ≤ 3 ∧ u = .int .i64 k ∧ Hid (Inv1 w2.heap.size n (rowsOf V T S A m c) v t s L w2 k wr)) (fun u _ => 3 - (intOf u).toNat)
  case atStart => exact ⟨0, by omega, rfl, Lib.hid (Inv1.start w2 _ n hn _ v t s L _ rfl)⟩
  case round =>
    obtain ⟨k, hk, rfl, HI⟩ := hrel
    by_cases hlt : k < 3
    · have hlt' : (k : Int) < 3 := by omega
      obtain ⟨r0, r1, r2, r3⟩ := rows_at V T S A m c k hlt
      have hrows := HI.out.rows
      have cr : ∀ o, wr.cell? ⟨w2.heap.size + 1 + 1 + 1 + 1, o, none⟩ = (rowsOf V T S A m c)[o]? := fun o => by simp only [World.cell?, hrows]; rfl
      have cr0 := (cr (k * 4)).trans r0
      have cr1 := (cr (k * 4 + 1)).trans r1
      have cr2 := (cr (k * 4 + 2)).trans r2
      have cr3 := (cr (k * 4 + 3)).trans r3
      clear cr r0 r1 r2 r3 hrows
      go_wp2_with fail
      have HI1 := Lib.hid (HI.out.later ((Below.refl _ _).alloc (Nat.le_refl _) (.cells #[.int .i64 (V k), .int .i64 (T k), .int .i64 (S k), .slice (A k) (m k) (c k)] 24)))
      have hW1 := alloc_last wr (.cells #[.int .i64 (V k), .int .i64 (T k), .int .i64 (S k), .slice (A k) (m k) (c k)] 24)
      have hS1 : (wr.alloc (.cells #[.int .i64 (V k), .int .i64 (T k), .int .i64 (S k), .slice (A k) (m k) (c k)] 24)).heap.size = wr.heap.size + 1 := by simp
      clear cr0 cr1 cr2 cr3
      generalize wr.alloc (.cells #[.int .i64 (V k), .int .i64 (T k), .int .i64 (S k), .slice (A k) (m k) (c k)] 24) = W1 at HI1 hW1 hS1 ⊢
      have HRL : Hid (RdB W1 (.slice (A k) n (c k)) (L k)) := Lib.hid ((HRW.out k hlt).below HI1.out.below (by omega))
      have hnc : n ≤ c k := by
        obtain ⟨_, cc, e, h2, _⟩ := HRL.out.form
        rw [hL k hlt] at h2 e
        cases e
        exact h2
      have hT := fun W => run_take22 (A k) (m k) (c k) n hnc W
      have cr : ∀ o, W1.cell? ⟨wr.heap.size, o, none⟩ = #[Value.int .i64 (V k), .int .i64 (T k), .int .i64 (S k), .slice (A k) (m k) (c k)][o]? := fun o => by simp only [World.cell?, hW1]; rfl
      have cr0 := cr 0
      have cr1 := cr 1
      have cr2 := cr 2
      have cr3 := cr 3
      simp only [List.size_toArray, List.getElem?_toArray, List.getElem?_cons_zero, List.getElem?_cons_succ] at cr0 cr1 cr2 cr3
      have hvk := (hv k hlt).1
      have htk := (ht k hlt).1
      have hsk := (hs k hlt).1
      have HS1 := Lib.hid hS1
      clear cr hW1 hS1
      refine wp_region_plans (.node 9 16 (.node 14 16 (.leaf [0, 1, 3, 0, 8, 24, 0, 64, 192, 0, 0, 1024, 0, 7168, 15872, 32767, 32256, 131071] [(0, .L), (1, .R), (2, .L), (3, .L), (4, .R), (5, .L), (6, .L), (7, .R), (8, .L), (10, .L), (11, .R), (12, .L), (13, .L), (9, .A), (14, .A), (15, .L), (16, .A), (17, .W)]) (.leaf [0, 1, 3, 0, 8, 24, 0, 64, 192, 0, 0, 1024, 0, 7168, 81408, 98303, 512, 131071] [(0, .L), (1, .R), (2, .L), (3, .L), (4, .R), (5, .L), (6, .L), (7, .R), (8, .L), (10, .L), (11, .R), (12, .L), (13, .L), (9, .A), (16, .A), (14, .A), (15, .L), (17, .W)])) (.leaf [0, 1, 3, 0, 8, 24, 0, 64, 192, 65536, 0, 1024, 0, 7168, 81408, 98303, 0, 131071] [(0, .L), (1, .R), (2, .L), (3, .L), (4, .R), (5, .L), (6, .L), (7, .R), (8, .L), (10, .L), (11, .R), (12, .L), (13, .L), (16, .A), (9, .A), (14, .A), (15, .L), (17, .W)]))
        (fun a0 a' w' => ∃ (x111 : Value) (g20 : Nat) (v116 : Value), a' = ((((((((((((((((a0.put (some 102) (.pointer (some ⟨wr.heap.size, 0, none⟩))).put (some 103) (.int .i64 (V k))).put (some 104) (.int .i64 (v k))).put (some 105) (.pointer (some ⟨wr.heap.size, 1, none⟩))).put (some 106) (.int .i64 (T k))).put (some 107) (.int .i64 (t k))).put (some 108) (.pointer (some ⟨wr.heap.size, 2, none⟩))).put (some 109) (.int .i64 (S k))).put (some 110) (.int .i64 (s k))).put (some 111) x111).put (some 112) (.pointer (some ⟨wr.heap.size, 3, none⟩))).put (some 113) (.slice (A k) (m k) (c k))).put (some 114) (.int .i64 n)).put (some 115) (.slice (A k) n (c k))).put (some 116) v116).put (some 117) (.agg #[.int .i64 (v k), .int .i64 (t k), .int .i64 (s k), v116])).put (some 20) (.pointer (some ⟨g20, 0, none⟩)) ∧ Hid (OwnB w' W1.heap.size v116 (L k) ∧ W1.heap.size ≤ g20 ∧ w'.heap[g20]? = some (.cells #[.int .i64 (v k), .int .i64 (t k), .int .i64 (s k), v116] 24) ∧ Below W1.heap.size W1 w')) (by kernel_rfl) (by kernel_rfl) (by kernel_rfl) ⟨⟨?_, ?_⟩, ?_⟩ ?_
      · iterate 13 (first | (refine plan_L rfl (fun K hK => ?_); go_simp; refine hK _ ?_; clear hK K) | (refine plan_R rfl rfl (fun K hK => ?_); go_simp; refine hK _ ?_; clear hK K))
        refine plan_A rfl (fun K hK => ?_); go_simp; refine ⟨Ext.alloc _ _, hK _ _ ?_⟩; clear hK K
        refine plan_A0 rfl rfl (fun K hK => ?_)
        simp only [List.getElem_toArray, List.getElem_cons_succ, List.getElem_cons_zero]
        refine wp_append_fresh (.tmp 111) (.tmp 115) rfl W1.heap.size _ (.slice (A k) n (c k)) (L k) (by go_simp) (by go_simp) (HRL.out.below (W1b0 W1) (Nat.le_refl _)) (by rw [hL k hlt]; exact hn0) ?_
        intro v116 W2 ho2 hb2
        obtain ⟨gv, cv, rfl, hgv1, hgv2⟩ := ho2.form (by rw [hL k hlt]; exact hn0)
        rw [hL k hlt] at ho2 ⊢
        refine ⟨Ext.of_below hb2, hK _ _ ?_⟩
        clear hK K
        simp only [Act.put, List.setIfInBounds_toArray, List.set_cons_succ, List.set_cons_zero]
        have hS2 := hb2.size
        have HB2' := Lib.hid hb2
        have HO2' := Lib.hid ho2
        clear hb2 ho2
        refine plan_L rfl (fun K hK => ?_); go_simp; refine hK _ ?_; clear hK K
        refine plan_A rfl (fun K hK => ?_); go_simp; refine ⟨Ext.alloc _ _, hK _ _ ?_⟩; clear hK K
        refine plan_W rfl (fun K hK => ?_); go_simp; refine hK _ _ ?_; clear hK K
        refine plan_nil ⟨.slice (some ⟨W1.heap.size, 0, none⟩) 0 0, W2.heap.size, .slice (some ⟨gv, 0, none⟩) n cv, ?_, ?_⟩
        · rfl
        · have hb3 := ((W1b0 W1).trans (HB2'.out.mono (W1b0 W1).size)).trans (((Below.refl W2.heap.size W2).alloc (Nat.le_refl _) (.cells #[.int .i64 (v k), .int .i64 (t k), .int .i64 (s k), .slice (some ⟨gv, 0, none⟩) n cv] 24)).mono (Nat.le_trans (W1b0 W1).size hS2))
          exact Lib.hid ⟨(HO2'.out.mono (W1b0 W1).size).below ((Below.refl W2.heap.size W2).alloc (Nat.le_refl _) _) (Nat.le_refl _), Nat.le_trans (W1b0 W1).size hS2, alloc_last _ _, hb3⟩
      · iterate 13 (first | (refine plan_L rfl (fun K hK => ?_); go_simp; refine hK _ ?_; clear hK K) | (refine plan_R rfl rfl (fun K hK => ?_); go_simp; refine hK _ ?_; clear hK K))
        refine plan_A rfl (fun K hK => ?_); go_simp; refine ⟨Ext.alloc _ _, hK _ _ ?_⟩; clear hK K
        refine plan_A rfl (fun K hK => ?_); go_simp; refine ⟨Ext.alloc _ _, hK _ _ ?_⟩; clear hK K
        refine plan_A0 rfl rfl (fun K hK => ?_)
        simp only [List.getElem_toArray, List.getElem_cons_succ, List.getElem_cons_zero]
        refine wp_append_fresh (.tmp 111) (.tmp 115) rfl (W1.heap.size) _ (.slice (A k) n (c k)) (L k) rfl rfl (HRL.out.below (W1b1 W1) (Nat.le_refl _)) (by rw [hL k hlt]; exact hn0) ?_
        intro v116 W2 ho2 hb2
        obtain ⟨gv, cv, rfl, hgv1, hgv2⟩ := ho2.form (by rw [hL k hlt]; exact hn0)
        rw [hL k hlt] at ho2 ⊢
        refine ⟨Ext.of_below hb2, hK _ _ ?_⟩
        clear hK K
        simp only [Act.put, List.setIfInBounds_toArray, List.set_cons_succ, List.set_cons_zero]
        have hS2 := hb2.size
        have hsz : (((W1.alloc (.cells #[] 5)).alloc (.cells #[.int .i64 0, .int .i64 0, .int .i64 0, .slice none 0 0] 24)).drew).heap.size = W1.heap.size + 2 := by simp
        have hz4 : W2.heap[W1.heap.size + 1]? = some (.cells #[.int .i64 0, .int .i64 0, .int .i64 0, .slice none 0 0] 24) := (hb2.block (W1.heap.size + 1) (by rw [hsz]; omega)).trans (alloc_lastAt (W1.alloc (.cells #[] 5)) (.cells #[.int .i64 0, .int .i64 0, .int .i64 0, .slice none 0 0] 24) _ (by simp))
        have hfz : ∀ o, W2.frozen? ⟨W1.heap.size + 1, o, none⟩ = false := fun o => by simp [World.frozen?, hz4]
        have hcz : ∀ o, W2.cell? ⟨W1.heap.size + 1, o, none⟩ = #[Value.int .i64 0, .int .i64 0, .int .i64 0, .slice none 0 0][o]? := fun o => by simp [World.cell?, hz4]
        have hcz0 := hcz 0
        have hcz1 := hcz 1
        have hcz2 := hcz 2
        have hcz3 := hcz 3
        simp only [List.size_toArray, List.getElem?_toArray, List.getElem?_cons_zero, List.getElem?_cons_succ] at hcz0 hcz1 hcz2 hcz3
        have HB2' := Lib.hid hb2
        have HO2' := Lib.hid ho2
        have HZ4 := Lib.hid hz4
        have HSZ := Lib.hid hsz
        clear hb2 ho2 hz4 hsz hcz
        refine plan_L rfl (fun K hK => ?_); go_simp; refine hK _ ?_; clear hK K
        refine plan_W rfl (fun K hK => ?_); go_simp; refine hK _ _ ?_; clear hK K
        obtain ⟨k1, k2, k3⟩ := store4 W2 (W1.heap.size + 1) _ W1.heap.size n cv gv (L k) _ _ _ _ (.int .i64 (v k)) (.int .i64 (t k)) (.int .i64 (s k)) HZ4.out HO2'.out (by rw [HSZ.out]; omega) (by omega) (by have := HSZ.out; omega) _ rfl
        refine plan_nil ⟨.slice (some ⟨W1.heap.size, 0, none⟩) 0 0, W1.heap.size + 1, .slice (some ⟨gv, 0, none⟩) n cv, ?_, ?_⟩
        · rfl
        · exact Lib.hid ⟨k1, by omega, k2, ((W1b1 W1).trans (HB2'.out.mono (W1b1 W1).size)).trans k3⟩
      · iterate 13 (first | (refine plan_L rfl (fun K hK => ?_); go_simp; refine hK _ ?_; clear hK K) | (refine plan_R rfl rfl (fun K hK => ?_); go_simp; refine hK _ ?_; clear hK K))
        refine plan_A rfl (fun K hK => ?_); go_simp; refine ⟨Ext.alloc _ _, hK _ _ ?_⟩; clear hK K
        refine plan_A rfl (fun K hK => ?_); go_simp; refine ⟨Ext.alloc _ _, hK _ _ ?_⟩; clear hK K
        refine plan_A0 rfl rfl (fun K hK => ?_)
        simp only [List.getElem_toArray, List.getElem_cons_succ, List.getElem_cons_zero]
        refine wp_append_fresh (.tmp 111) (.tmp 115) rfl (W1.heap.size + 1) _ (.slice (A k) n (c k)) (L k) rfl rfl (HRL.out.below (W1b2 W1) (Nat.le_refl _)) (by rw [hL k hlt]; exact hn0) ?_
        intro v116 W2 ho2 hb2
        obtain ⟨gv, cv, rfl, hgv1, hgv2⟩ := ho2.form (by rw [hL k hlt]; exact hn0)
        rw [hL k hlt] at ho2 ⊢
        refine ⟨Ext.of_below hb2, hK _ _ ?_⟩
        clear hK K
        simp only [Act.put, List.setIfInBounds_toArray, List.set_cons_succ, List.set_cons_zero]
        have hS2 := hb2.size
        have hsz : (((W1.alloc (.cells #[.int .i64 0, .int .i64 0, .int .i64 0, .slice none 0 0] 24)).alloc (.cells #[] 5)).drew).heap.size = W1.heap.size + 2 := by simp
        have hz4 : W2.heap[W1.heap.size]? = some (.cells #[.int .i64 0, .int .i64 0, .int .i64 0, .slice none 0 0] 24) := (hb2.block (W1.heap.size) (by rw [hsz]; omega)).trans ((Below.heap_alloc (W1.alloc (.cells #[.int .i64 0, .int .i64 0, .int .i64 0, .slice none 0 0] 24)) (.cells #[] 5) W1.heap.size (by simp)).trans (alloc_last W1 (.cells #[.int .i64 0, .int .i64 0, .int .i64 0, .slice none 0 0] 24)))
        have hfz : ∀ o, W2.frozen? ⟨W1.heap.size, o, none⟩ = false := fun o => by simp [World.frozen?, hz4]
        have hcz : ∀ o, W2.cell? ⟨W1.heap.size, o, none⟩ = #[Value.int .i64 0, .int .i64 0, .int .i64 0, .slice none 0 0][o]? := fun o => by simp [World.cell?, hz4]
        have hcz0 := hcz 0
        have hcz1 := hcz 1
        have hcz2 := hcz 2
        have hcz3 := hcz 3
        simp only [List.size_toArray, List.getElem?_toArray, List.getElem?_cons_zero, List.getElem?_cons_succ] at hcz0 hcz1 hcz2 hcz3
        have HB2' := Lib.hid hb2
        have HO2' := Lib.hid ho2
        have HZ4 := Lib.hid hz4
        have HSZ := Lib.hid hsz
        clear hb2 ho2 hz4 hsz hcz
        refine plan_L rfl (fun K hK => ?_); go_simp; refine hK _ ?_; clear hK K
        refine plan_W rfl (fun K hK => ?_); go_simp; refine hK _ _ ?_; clear hK K
        obtain ⟨k1, k2, k3⟩ := store4 W2 (W1.heap.size) _ W1.heap.size n cv gv (L k) _ _ _ _ (.int .i64 (v k)) (.int .i64 (t k)) (.int .i64 (s k)) HZ4.out HO2'.out (by rw [HSZ.out]; omega) (by omega) (by have := HSZ.out; omega) _ rfl
        refine plan_nil ⟨.slice (some ⟨W1.heap.size + 1, 0, none⟩) 0 0, W1.heap.size, .slice (some ⟨gv, 0, none⟩) n cv, ?_, ?_⟩
        · rfl
        · exact Lib.hid ⟨k1, by omega, k2, ((W1b2 W1).trans (HB2'.out.mono (W1b2 W1).size)).trans k3⟩
      · rintro a' W3 ⟨x111, g20, v116, rfl, HF⟩
        simp only [Act.put, List.setIfInBounds_toArray, List.set_cons_succ, List.set_cons_zero]
        have HI3 := Lib.hid (HI1.out.later HF.out.2.2.2)
        clear HI1 hvk htk hsk cr0 cr1 cr2 cr3 hT
        have hxv := xf_step v k (fun i hi => by have := (hv i hi).2; omega) hlt
        have hxt := xf_step t k (fun i hi => by have := (ht i hi).2; omega) hlt
        have hxs := xf_step s k (fun i hi => by have := (hs i hi).2; omega) hlt
        have hw17 := HI3.out.want
        have hf17 : ∀ o, W3.frozen? ⟨w2.heap.size + 1 + 1 + 1, o, none⟩ = false := fun o => by simp [World.frozen?, hw17]
        have c17 : ∀ o, W3.cell? ⟨w2.heap.size + 1 + 1 + 1, o, none⟩ = #[Value.int .i64 (xf v k : Nat), .int .i64 (xf t k : Nat), .int .i64 (xf s k : Nat), .slice (some ⟨w2.heap.size + 1 + 1, 0, none⟩) n n][o]? := fun o => by simp [World.cell?, hw17]
        have c170 := c17 0
        have c171 := c17 1
        have c172 := c17 2
        have c173 := c17 3
        have hw20 := HF.out.2.2.1
        have c20 : ∀ o, W3.cell? ⟨g20, o, none⟩ = #[Value.int .i64 (v k), .int .i64 (t k), .int .i64 (s k), v116][o]? := fun o => by simp [World.cell?, hw20]
        have c200 := c20 0
        have c201 := c20 1
        have c202 := c20 2
        have c203 := c20 3
        simp only [List.size_toArray, List.getElem?_toArray, List.getElem?_cons_zero, List.getElem?_cons_succ] at c170 c171 c172 c173 c200 c201 c202 c203
        have hsz1 := HI1s HS1.out HI.out.size
        have hn17 : ¬ g20 = w2.heap.size + 1 + 1 + 1 := by have := HF.out.2.1; omega
        have hn18 : ¬ w2.heap.size + 1 + 1 + 1 = g20 := by omega
        have HWT := Lib.hid hw17
        clear hw17 hw20 c17 c20
        go_wp2_with fail
        refine wp_region_plans (.node 8 16 (.node 13 16 (.leaf [0, 1, 0, 4, 15, 0, 32, 0, 128, 480, 0, 1024, 0, 4096, 15360, 3199, 48639, 114687, 245759, 524287, 1048575] [(0, .L), (1, .R), (2, .L), (3, .R), (4, .L), (5, .L), (6, .R), (7, .L), (8, .R), (9, .L), (10, .L), (11, .R), (12, .L), (13, .R), (14, .L), (15, .L), (16, .W), (17, .L), (18, .W), (19, .L), (20, .W)]) (.node 13 18 (.leaf [0, 1, 0, 4, 15, 0, 32, 0, 128, 480, 0, 1024, 0, 105983, 114175, 3199, 36351, 102399, 245759, 524287, 1048575] [(0, .L), (1, .R), (2, .L), (3, .R), (4, .L), (5, .L), (6, .R), (7, .L), (8, .R), (9, .L), (10, .L), (11, .R), (12, .L), (15, .L), (16, .W), (13, .R), (14, .L), (17, .L), (18, .W), (19, .L), (20, .W)]) (.leaf [0, 1, 0, 4, 15, 0, 32, 0, 128, 480, 0, 1024, 0, 499711, 507903, 3199, 36351, 102399, 233471, 524287, 1048575] [(0, .L), (1, .R), (2, .L), (3, .R), (4, .L), (5, .L), (6, .R), (7, .L), (8, .R), (9, .L), (10, .L), (11, .R), (12, .L), (15, .L), (16, .W), (17, .L), (18, .W), (13, .R), (14, .L), (19, .L), (20, .W)]))) (.node 13 16 (.leaf [0, 1, 0, 4, 15, 0, 32, 0, 113919, 114175, 0, 1024, 0, 4096, 15360, 3199, 48255, 114687, 245759, 524287, 1048575] [(0, .L), (1, .R), (2, .L), (3, .R), (4, .L), (5, .L), (6, .R), (7, .L), (10, .L), (11, .R), (12, .L), (13, .R), (14, .L), (15, .L), (16, .W), (8, .R), (9, .L), (17, .L), (18, .W), (19, .L), (20, .W)]) (.node 13 18 (.leaf [0, 1, 0, 4, 15, 0, 32, 0, 101631, 101887, 0, 1024, 0, 105599, 113791, 3199, 35967, 102399, 245759, 524287, 1048575] [(0, .L), (1, .R), (2, .L), (3, .R), (4, .L), (5, .L), (6, .R), (7, .L), (10, .L), (11, .R), (12, .L), (15, .L), (16, .W), (8, .R), (9, .L), (13, .R), (14, .L), (17, .L), (18, .W), (19, .L), (20, .W)]) (.leaf [0, 1, 0, 4, 15, 0, 32, 0, 101631, 101887, 0, 1024, 0, 499711, 507903, 3199, 35967, 102399, 233471, 524287, 1048575] [(0, .L), (1, .R), (2, .L), (3, .R), (4, .L), (5, .L), (6, .R), (7, .L), (10, .L), (11, .R), (12, .L), (15, .L), (16, .W), (8, .R), (9, .L), (17, .L), (18, .W), (13, .R), (14, .L), (19, .L), (20, .W)]))))
          (fun a0 a' w' => a' = ((((((((((((((((((a0.put (some 118) (.pointer (some ⟨w2.heap.size + 1 + 1 + 1, 0, none⟩))).put (some 119) (.int .i64 (xf v k : Nat))).put (some 120) (.pointer (some ⟨g20, 0, none⟩))).put (some 121) (.int .i64 (v k : Nat))).put (some 122) (.int .i64 (xf v (k + 1) : Nat))).put (some 123) (.pointer (some ⟨w2.heap.size + 1 + 1 + 1, 1, none⟩))).put (some 124) (.int .i64 (xf t k : Nat))).put (some 125) (.pointer (some ⟨g20, 1, none⟩))).put (some 126) (.int .i64 (t k : Nat))).put (some 127) (.int .i64 (xf t (k + 1) : Nat))).put (some 128) (.pointer (some ⟨w2.heap.size + 1 + 1 + 1, 2, none⟩))).put (some 129) (.int .i64 (xf s k : Nat))).put (some 130) (.pointer (some ⟨g20, 2, none⟩))).put (some 131) (.int .i64 (s k : Nat))).put (some 132) (.int .i64 (xf s (k + 1) : Nat))).put (some 133) (.pointer (some ⟨w2.heap.size + 1 + 1 + 1, 0, none⟩))).put (some 134) (.pointer (some ⟨w2.heap.size + 1 + 1 + 1, 1, none⟩))).put (some 135) (.pointer (some ⟨w2.heap.size + 1 + 1 + 1, 2, none⟩))) ∧ Hid (w'.heap[w2.heap.size + 1 + 1 + 1]? = some (.cells #[.int .i64 (xf v (k + 1) : Nat), .int .i64 (xf t (k + 1) : Nat), .int .i64 (xf s (k + 1) : Nat), .slice (some ⟨w2.heap.size + 1 + 1, 0, none⟩) n n] 24) ∧ W3.grownBy w' (some (w2.heap.size + 1 + 1 + 1)))) (by kernel_rfl) (by kernel_rfl) (by kernel_rfl) ⟨⟨?_, ?_, ?_⟩, ?_, ?_, ?_⟩ ?_
        · iterate 21 (first | (refine plan_L rfl (fun K hK => ?_); go_simp; refine hK _ ?_; clear hK K) | (refine plan_R rfl rfl (fun K hK => ?_); go_simp; refine hK _ ?_; clear hK K) | (refine plan_W rfl (fun K hK => ?_); go_simp; refine hK _ _ ?_; clear hK K))
          refine plan_nil ⟨?_, ?_⟩
          · simp only [Act.put, List.setIfInBounds_toArray, List.set_cons_succ, List.set_cons_zero]
          · exact Lib.hid ⟨setCell_heap (setCell_heap (setCell_heap HWT.out)), World.grownBy.trans (World.grownBy.trans (World.grownBy.trans (drew_grown W3 _) (setCell_grown _ _ _ _)) (setCell_grown _ _ _ _)) (setCell_grown _ _ _ _)⟩
        · iterate 21 (first | (refine plan_L rfl (fun K hK => ?_); go_simp; refine hK _ ?_; clear hK K) | (refine plan_R rfl rfl (fun K hK => ?_); go_simp; refine hK _ ?_; clear hK K) | (refine plan_W rfl (fun K hK => ?_); go_simp; refine hK _ _ ?_; clear hK K))
          refine plan_nil ⟨?_, ?_⟩
          · simp only [Act.put, List.setIfInBounds_toArray, List.set_cons_succ, List.set_cons_zero]
          · exact Lib.hid ⟨setCell_heap (setCell_heap (setCell_heap HWT.out)), World.grownBy.trans (World.grownBy.trans (World.grownBy.trans (drew_grown W3 _) (setCell_grown _ _ _ _)) (setCell_grown _ _ _ _)) (setCell_grown _ _ _ _)⟩
        · iterate 21 (first | (refine plan_L rfl (fun K hK => ?_); go_simp; refine hK _ ?_; clear hK K) | (refine plan_R rfl rfl (fun K hK => ?_); go_simp; refine hK _ ?_; clear hK K) | (refine plan_W rfl (fun K hK => ?_); go_simp; refine hK _ _ ?_; clear hK K))
          refine plan_nil ⟨?_, ?_⟩
          · simp only [Act.put, List.setIfInBounds_toArray, List.set_cons_succ, List.set_cons_zero]
          · exact Lib.hid ⟨setCell_heap (setCell_heap (setCell_heap HWT.out)), World.grownBy.trans (World.grownBy.trans (World.grownBy.trans (drew_grown W3 _) (setCell_grown _ _ _ _)) (setCell_grown _ _ _ _)) (setCell_grown _ _ _ _)⟩
        · iterate 21 (first | (refine plan_L rfl (fun K hK => ?_); go_simp; refine hK _ ?_; clear hK K) | (refine plan_R rfl rfl (fun K hK => ?_); go_simp; refine hK _ ?_; clear hK K) | (refine plan_W rfl (fun K hK => ?_); go_simp; refine hK _ _ ?_; clear hK K))
          refine plan_nil ⟨?_, ?_⟩
          · simp only [Act.put, List.setIfInBounds_toArray, List.set_cons_succ, List.set_cons_zero]
          · exact Lib.hid ⟨setCell_heap (setCell_heap (setCell_heap HWT.out)), World.grownBy.trans (World.grownBy.trans (World.grownBy.trans (drew_grown W3 _) (setCell_grown _ _ _ _)) (setCell_grown _ _ _ _)) (setCell_grown _ _ _ _)⟩
        · iterate 21 (first | (refine plan_L rfl (fun K hK => ?_); go_simp; refine hK _ ?_; clear hK K) | (refine plan_R rfl rfl (fun K hK => ?_); go_simp; refine hK _ ?_; clear hK K) | (refine plan_W rfl (fun K hK => ?_); go_simp; refine hK _ _ ?_; clear hK K))
          refine plan_nil ⟨?_, ?_⟩
          · simp only [Act.put, List.setIfInBounds_toArray, List.set_cons_succ, List.set_cons_zero]
          · exact Lib.hid ⟨setCell_heap (setCell_heap (setCell_heap HWT.out)), World.grownBy.trans (World.grownBy.trans (World.grownBy.trans (drew_grown W3 _) (setCell_grown _ _ _ _)) (setCell_grown _ _ _ _)) (setCell_grown _ _ _ _)⟩
        · iterate 21 (first | (refine plan_L rfl (fun K hK => ?_); go_simp; refine hK _ ?_; clear hK K) | (refine plan_R rfl rfl (fun K hK => ?_); go_simp; refine hK _ ?_; clear hK K) | (refine plan_W rfl (fun K hK => ?_); go_simp; refine hK _ _ ?_; clear hK K))
          refine plan_nil ⟨?_, ?_⟩
          · simp only [Act.put, List.setIfInBounds_toArray, List.set_cons_succ, List.set_cons_zero]
          · exact Lib.hid ⟨setCell_heap (setCell_heap (setCell_heap HWT.out)), World.grownBy.trans (World.grownBy.trans (World.grownBy.trans (drew_grown W3 _) (setCell_grown _ _ _ _)) (setCell_grown _ _ _ _)) (setCell_grown _ _ _ _)⟩
        · rintro a' W4 ⟨rfl, HF4⟩
          simp only [Act.put, List.setIfInBounds_toArray, List.set_cons_succ, List.set_cons_zero]
          clear hxv hxt hxs hf17 c170 c171 c172 c173 c200 c201 c202 c203
          obtain ⟨hO1, hg20, hc20, hB3⟩ := HF.out
          obtain ⟨gv, cv, rfl, hgv1, hgv2⟩ := hO1.form (by rw [hL k hlt]; exact hn0)
          rw [hL k hlt] at hO1 hc20 ⊢
          have hgvD : ¬ gv = w2.heap.size + 1 + 1 := by omega
          have hg20D : ¬ g20 = w2.heap.size + 1 + 1 := by omega
          have hgv17 : ¬ gv = w2.heap.size + 1 + 1 + 1 := by omega
          have HC20 := Lib.hid hc20
          have HO1 := Lib.hid hO1
          clear hO1 hc20 hB3 HF
          go_wp2_with fail
          go_loopw [21] (fun u wr2 => ∃ j : Nat, j ≤ n ∧ u = .int .i64 j ∧ Hid (OwnB wr2 w2.heap.size (.slice (some ⟨w2.heap.size + 1 + 1, 0, none⟩) n n) (dm n L k j) ∧ W4.grownBy wr2 (some (w2.heap.size + 1 + 1)))) (fun u _ => n - (intOf u).toNat)
          case atStart =>
            refine ⟨0, by omega, rfl, Lib.hid ⟨?_, World.grownBy.refl _ _⟩⟩
            rw [dm_zero]
            exact HI3.out.data.grownAt HF4.out.2 (by omega)
          case round =>
            obtain ⟨j, hj, rfl, HJ⟩ := hrel
            by_cases hltj : j < n
            · have hltj' : (j : Int) < (n : Int) := by omega
              have hnb : ∀ i, i < 3 → nth L j i < 256 := fun i hi => by rw [← nth_eq]; exact getD_lt (HRD.out i hi).bytes j
              have hx8 := xf_step8 (nth L j) k hnb hlt
              have hw17 := HF4.out.1
              have e17 := grown_cell HJ.out.2 (a := ⟨w2.heap.size + 1 + 1 + 1, 3, none⟩) (v := .slice (some ⟨w2.heap.size + 1 + 1, 0, none⟩) n n) (by simp [World.cell?, hw17]) (show ¬ w2.heap.size + 1 + 1 + 1 = w2.heap.size + 1 + 1 by omega)
              have hw20 := HC20.out
              have e20 := grown_cell HJ.out.2 (grown_cell HF4.out.2 (a := ⟨g20, 3, none⟩) (v := .slice (some ⟨gv, 0, none⟩) n cv) (by simp [World.cell?, hw20]) (show ¬ g20 = _ from hn17)) (show ¬ g20 = _ from hg20D)
              have hvj := (HO1.out.at_ (i := j) (by rw [hL k hlt]; exact hltj) (hL k hlt).symm).1
              rw [nth_eq] at hvj
              have ev := grown_cell HJ.out.2 (grown_cell HF4.out.2 hvj (show ¬ gv = _ from hgv17)) (show ¬ gv = _ from hgvD)
              obtain ⟨eD, fD⟩ := HJ.out.1.at_ (i := j) (by rw [dm_len]; exact hltj) (dm_len _ _ _ _).symm
              rw [dm_at n L k j hltj] at eD
              clear hvj hw17 hw20 hnb
              go_wp2_with fail
              refine wp_region_plan [0, 1, 0, 7, 15, 0, 32, 0, 224, 480, 1023, 2047, 4095] [(0, .L), (1, .R), (2, .L), (3, .L), (4, .R), (5, .L), (6, .R), (7, .L), (8, .L), (9, .R), (10, .L), (11, .L), (12, .W)] (by kernel_rfl) (by kernel_rfl) ?_
              iterate 13 (first | (refine plan_L rfl (fun K hK => ?_); go_simp; refine hK _ ?_; clear hK K) | (refine plan_R rfl rfl (fun K hK => ?_); go_simp; refine hK _ ?_; clear hK K) | (refine plan_W rfl (fun K hK => ?_); go_simp; refine hK _ _ ?_; clear hK K))
              refine plan_nil ?_
              have hst := (HJ.out.1.store (i := j) (b := xf (nth L j) (k + 1)) (dm_len _ _ _ _).symm (by have := xf_lt (nth L j) 8 (k + 1) (fun i hi => by rw [← nth_eq]; exact getD_lt (HRD.out i (by omega)).bytes j); omega)).drew'
              rw [dm_set n L k j hltj] at hst
              have HST := Lib.hid (And.intro hst (World.grownBy.trans (World.grownBy.trans HJ.out.2 (setCell_grown wr (w2.heap.size + 1 + 1) j (.int .u8 ((xf (nth L j) (k + 1) : Nat) : Int)))) (drew_grown _ _)))
              clear hst
              go_wp2
              go_roundw
              case rel => exact ⟨j + 1, by omega, by go_num, HST⟩
              case measure => simp [intOf]; omega
            · have hjn : n = j := by omega
              subst hjn
              have hltj' : ¬ (n : Int) < (n : Int) := by omega
              have hdf := HJ.out.1
              rw [dm_full] at hdf
              have HDF := Lib.hid hdf
              have HG5 := Lib.hid HJ.out.2
              have hw20 := HC20.out
              have c20 : ∀ o, W3.cell? ⟨g20, o, none⟩ = #[Value.int .i64 (v k), .int .i64 (t k), .int .i64 (s k), .slice (some ⟨gv, 0, none⟩) n cv][o]? := fun o => by simp [World.cell?, hw20]
              have c200 := c20 0
              have c201 := c20 1
              have c202 := c20 2
              have c203 := c20 3
              simp only [List.size_toArray, List.getElem?_toArray, List.getElem?_cons_zero, List.getElem?_cons_succ] at c200 c201 c202 c203
              have e200 := grown_cell HJ.out.2 (grown_cell HF4.out.2 c200 (show ¬ g20 = _ from hn17)) (show ¬ g20 = _ from hg20D)
              have e201 := grown_cell HJ.out.2 (grown_cell HF4.out.2 c201 (show ¬ g20 = _ from hn17)) (show ¬ g20 = _ from hg20D)
              have e202 := grown_cell HJ.out.2 (grown_cell HF4.out.2 c202 (show ¬ g20 = _ from hn17)) (show ¬ g20 = _ from hg20D)
              have e203 := grown_cell HJ.out.2 (grown_cell HF4.out.2 c203 (show ¬ g20 = _ from hn17)) (show ¬ g20 = _ from hg20D)
              have HOV := Lib.hid ((HO1.out.grownAt HF4.out.2 hgv17).grownAt HJ.out.2 hgvD)
              clear hdf hw20 c20 c200 c201 c202 c203 HJ
              go_wp2_with fail
              have hnL := hL k hlt
              refine (bytes_any (v k) (t k) (s k) (L k) _ _ HOV.out.rd (hv k hlt).2 (ht k hlt).2 (hs k hlt).2 (by omega) (by omega)).mono ?_
              rintro e w6 ⟨v6, rfl, ho6, hb6⟩
              have hbl : (bytesOf (v k) (t k) (s k) (L k)).length = n + 8 := by rw [bytesOf_len, hnL]
              obtain ⟨g6, c6, rfl, hg61, hg62⟩ := ho6.form (by omega)
              obtain ⟨⟨x6, hx6⟩, hf6, hI⟩ := HI3.out.step hlt HF4.out.2 HF4.out.1 HG5.out HDF.out hb6 ho6
              rw [hbl] at ho6 hI ⊢
              have HIN := Lib.hid hI
              clear hI ho6 hb6 e200 e201 e202 e203
              go_wp2_with fail
              refine (size_any n _ (by omega) (by omega)).mono ?_
              rintro e w7 ⟨rfl, rfl⟩
              go_wp2_with fail
              go_roundw
              case rel => exact ⟨k + 1, by omega, by go_num, HIN⟩
              case measure => simp [intOf]; omega
    · have hk3 : k = 3 := by omega
      subst hk3
      have hlt' : ¬ ((3 : Nat) : Int) < 3 := by omega
      have hmk8 : ∀ W : World, (Instr.makeSlice 22 (.int .i64 ((n : Int) + 8)) (.int .i64 ((n : Int) + 8))).run Tryd.prog W = .ok (.slice (some ⟨W.heap.size, 0, none⟩) (n + 8) (n + 8)) (W.alloc (.cells (zs (n + 8)) 5)) := fun W => mk22 (n + 8) (by omega) W
      clear hmk
      go_wp2_with fail
      obtain ⟨cs, ha1, ha2, ha3⟩ := HI.out.arr
      obtain ⟨u0, hu0, o0⟩ := ha3 0 (by omega)
      obtain ⟨u1, hu1, o1⟩ := ha3 1 (by omega)
      obtain ⟨u2, hu2, o2⟩ := ha3 2 (by omega)
      have hbl : ∀ i, i < 3 → (bytesOf (v i) (t i) (s i) (L i)).length = n + 8 := fun i hi => by rw [bytesOf_len, hL i hi]
      obtain ⟨g0, c0, rfl, hg01, hg02⟩ := o0.form (by rw [hbl 0 (by omega)]; omega)
      obtain ⟨g1, c1, rfl, hg11, hg12⟩ := o1.form (by rw [hbl 1 (by omega)]; omega)
      obtain ⟨g2, c2, rfl, hg21, hg22⟩ := o2.form (by rw [hbl 2 (by omega)]; omega)
      rw [hbl 0 (by omega)] at hu0 o0
      rw [hbl 1 (by omega)] at hu1 o1
      rw [hbl 2 (by omega)] at hu2 o2
      have hal : Below wr.heap.size wr (wr.alloc (.cells (zs (n + 8)) 5)) := (Below.refl _ _).alloc (Nat.le_refl _) _
      have HI7 := Lib.hid (HI.out.later hal)
      have hsI := HI.out.size
      have HO0 := Lib.hid (o0.below hal (Nat.le_refl _))
      have HO1 := Lib.hid (o1.below hal (Nat.le_refl _))
      have HO2 := Lib.hid (o2.below hal (Nat.le_refl _))
      have hA7 := (hal.block (w2.heap.size + 1) (by omega)).trans ha1
      have HS7 := Lib.hid (show (wr.alloc (.cells (zs (n + 8)) 5)).heap.size = wr.heap.size + 1 by simp)
      have HD7 := Lib.hid (mk22_own (n + 8) (by omega) wr (w2.heap.size + 5) hsI)
      have a0 : (wr.alloc (.cells (zs (n + 8)) 5)).cell? ⟨w2.heap.size + 1, 0, none⟩ = some (.slice (some ⟨g0, 0, none⟩) (n + 8) c0) := by simp [World.cell?, hA7, hu0]
      have a1 : (wr.alloc (.cells (zs (n + 8)) 5)).cell? ⟨w2.heap.size + 1, 1, none⟩ = some (.slice (some ⟨g1, 0, none⟩) (n + 8) c1) := by simp [World.cell?, hA7, hu1]
      have a2 : (wr.alloc (.cells (zs (n + 8)) 5)).cell? ⟨w2.heap.size + 1, 2, none⟩ = some (.slice (some ⟨g2, 0, none⟩) (n + 8) c2) := by simp [World.cell?, hA7, hu2]
      obtain ⟨gS, hgS⟩ : ∃ gS, gS = wr.heap.size := ⟨_, rfl⟩
      rw [← hgS] at HD7 HS7 hg02 hg12 hg22 hsI ⊢
      generalize wr.alloc (.cells (zs (n + 8)) 5) = W7 at HI7 HO0 HO1 HO2 HS7 HD7 a0 a1 a2 ⊢
      have A0 := Lib.hid a0
      have A1 := Lib.hid a1
      have A2 := Lib.hid a2
      clear a0 a1 a2 o0 o1 o2 ha1 ha2 ha3 hu0 hu1 hu2 hal hA7 HI hgS
      go_loopw [25] (fun u wr3 => ∃ j : Nat, j ≤ n + 8 ∧ u = .int .i64 j ∧ Hid (OwnB wr3 (w2.heap.size + 5) (.slice (some ⟨gS, 0, none⟩) (n + 8) (n + 8)) (dz (n + 8) (fun i => bytesOf (v i) (t i) (s i) (L i)) j) ∧ W7.grownBy wr3 (some gS))) (fun u _ => n + 8 - (intOf u).toNat)
      case atStart => exact ⟨0, by omega, rfl, Lib.hid ⟨by rw [dz_zero]; exact HD7.out, World.grownBy.refl _ _⟩⟩
      case round =>
        obtain ⟨j, hj, rfl, HJ⟩ := hrel
        by_cases hltj : j < n + 8
        · have hltj' : (j : Int) < (n : Int) + 8 := by omega
          have hbt : ∀ i, i < 3 → nth (fun i => bytesOf (v i) (t i) (s i) (L i)) j i < 256 := fun i hi => by
            rw [← nth_eq]
            obtain rfl | rfl | rfl : i = 0 ∨ i = 1 ∨ i = 2 := by omega
            · exact getD_lt HO0.out.bytes j
            · exact getD_lt HO1.out.bytes j
            · exact getD_lt HO2.out.bytes j
          have q0 := grown_cell HJ.out.2 A0.out (show ¬ w2.heap.size + 1 = gS by omega)
          have q1 := grown_cell HJ.out.2 A1.out (show ¬ w2.heap.size + 1 = gS by omega)
          have q2 := grown_cell HJ.out.2 A2.out (show ¬ w2.heap.size + 1 = gS by omega)
          have p0 := grown_cell HJ.out.2 (HO0.out.at_ (i := j) (by rw [hbl 0 (by omega)]; exact hltj) (hbl 0 (by omega)).symm).1 (show ¬ g0 = gS by omega)
          have p1 := grown_cell HJ.out.2 (HO1.out.at_ (i := j) (by rw [hbl 1 (by omega)]; exact hltj) (hbl 1 (by omega)).symm).1 (show ¬ g1 = gS by omega)
          have p2 := grown_cell HJ.out.2 (HO2.out.at_ (i := j) (by rw [hbl 2 (by omega)]; exact hltj) (hbl 2 (by omega)).symm).1 (show ¬ g2 = gS by omega)
          rw [show (bytesOf (v 0) (t 0) (s 0) (L 0))[j]?.getD 0 = nth (fun i => bytesOf (v i) (t i) (s i) (L i)) j 0 from nth_eq (fun i => bytesOf (v i) (t i) (s i) (L i)) j 0] at p0
          rw [show (bytesOf (v 1) (t 1) (s 1) (L 1))[j]?.getD 0 = nth (fun i => bytesOf (v i) (t i) (s i) (L i)) j 1 from nth_eq (fun i => bytesOf (v i) (t i) (s i) (L i)) j 1] at p1
          rw [show (bytesOf (v 2) (t 2) (s 2) (L 2))[j]?.getD 0 = nth (fun i => bytesOf (v i) (t i) (s i) (L i)) j 2 from nth_eq (fun i => bytesOf (v i) (t i) (s i) (L i)) j 2] at p2
          obtain ⟨eS, fS⟩ := HJ.out.1.at_ (i := j) (by rw [dz_len]; exact hltj) (dz_len _ _ _).symm
          have hx3 := xf_three (nth (fun i => bytesOf (v i) (t i) (s i) (L i)) j)
          have hx3lt := xf_lt (nth (fun i => bytesOf (v i) (t i) (s i) (L i)) j) 8 3 (fun i hi => hbt i hi)
          have hst := (HJ.out.1.store (i := j) (b := xf (nth (fun i => bytesOf (v i) (t i) (s i) (L i)) j) 3) (dz_len _ _ _).symm (by omega)).drew'
          rw [dz_set _ _ _ hltj] at hst
          have hxa := u8_xor _ _ (hbt 0 (by omega)) (hbt 1 (by omega))
          have hxb := u8_xor _ _ (Nat.xor_lt_two_pow (n := 8) (hbt 0 (by omega)) (hbt 1 (by omega))) (hbt 2 (by omega))
          have HST := Lib.hid (And.intro hst (World.grownBy.trans (World.grownBy.trans HJ.out.2 (setCell_grown wr gS j (.int .u8 ((xf (nth (fun i => bytesOf (v i) (t i) (s i) (L i)) j) 3 : Nat) : Int)))) (drew_grown _ _)))
          generalize (dz (n + 8) (fun i => bytesOf (v i) (t i) (s i) (L i)) j)[j]?.getD 0 = eSv at eS
          rw [← hx3] at hxb
          generalize nth (fun i => bytesOf (v i) (t i) (s i) (L i)) j 0 = y0 at p0 hxa hxb
          generalize nth (fun i => bytesOf (v i) (t i) (s i) (L i)) j 1 = y1 at p1 hxa hxb
          generalize nth (fun i => bytesOf (v i) (t i) (s i) (L i)) j 2 = y2 at p2 hxb
          generalize xf (nth (fun i => bytesOf (v i) (t i) (s i) (L i)) j) 3 = y3 at hxb HST
          generalize y0 ^^^ y1 = y01 at hxa hxb
          clear hbt hx3 hx3lt hst HJ
          go_wp2_with fail
          refine wp_region_plan [0, 0, 0, 4, 0, 28, 60, 0, 128, 0, 896, 1920, 4092, 0, 8192, 0, 57344, 122880, 262140, 524287, 1048575] [(0, .L), (1, .L), (2, .L), (3, .R), (4, .L), (5, .L), (6, .R), (7, .L), (8, .R), (9, .L), (10, .L), (11, .R), (12, .L), (13, .L), (14, .R), (15, .L), (16, .L), (17, .R), (18, .L), (19, .L), (20, .W)] (by kernel_rfl) (by kernel_rfl) ?_
          iterate 21 (first | (refine plan_L rfl (fun K hK => ?_); go_simp; refine hK _ ?_; clear hK K) | (refine plan_R rfl rfl (fun K hK => ?_); go_simp; refine hK _ ?_; clear hK K) | (refine plan_W rfl (fun K hK => ?_); go_simp; refine hK _ _ ?_; clear hK K))
          refine plan_nil ?_
          go_wp2
          go_roundw
          case rel => exact ⟨j + 1, by omega, by go_num, HST⟩
          case measure => simp [intOf]; omega
        · obtain rfl : j = n + 8 := by omega
          have hltj' : ¬ (((n + 8 : Nat) : Int) < (n : Int) + 8) := by omega
          have hsum := HJ.out.1
          rw [dz_full, HLIN.out] at hsum
          have hVX := xf_lt v 4 3 (fun i hi => by have := (hv i hi).2; omega)
          have hTX := xf_lt t 1 3 (fun i hi => by have := (ht i hi).2; omega)
          have hSX := xf_lt s 8 3 (fun i hi => by have := (hs i hi).2; omega)
          have hDX := dx_len n L 3
          have hs7 := HS7.out
          have hw17 := (HJ.out.2.block (w2.heap.size + 1 + 1 + 1) (by omega) (by simp; omega)).trans HI7.out.want
          have hDat := HI7.out.data.grownAt HJ.out.2 (by omega)
          have hBw : Below w2.heap.size w2 wr := HI7.out.below.trans (below_of_grownAt HJ.out.2 (by omega) (by omega))
          have HTAB' := HTAB
          have HBUR' := HBUR
          generalize xf v 3 = VX at hsum hVX hw17 HBUR'
          generalize xf t 3 = TX at hsum hTX hw17 HBUR'
          generalize xf s 3 = SX at hsum hSX hw17 HBUR'
          generalize dx n L 3 = DX at hsum hDX hDat HBUR'
          have HSUM := Lib.hid hsum
          have HW17 := Lib.hid hw17
          have HDAT := Lib.hid hDat
          have HBW := Lib.hid hBw
          have hsz17 := lt_of_block hw17
          clear hsum hw17 hDat hBw HJ HO0 HO1 HO2 A0 A1 A2 HI7 HD7
          go_wp2_with fail
          refine (read_good VX TX SX DX _ _ HSUM.out.rd (by omega) (by omega) (by omega) (by omega) (by omega)).mono ?_
          rintro e w8 ⟨v8, rfl, ho8, hb8⟩
          obtain ⟨g8, c8, rfl, hg81, hg82⟩ := ho8.form (by omega)
          rw [hDX] at ho8 ⊢
          have hal : Below w8.heap.size w8 (w8.alloc (.cells #[.int .i64 VX, .int .i64 TX, .int .i64 SX, .slice (some ⟨g8, 0, none⟩) n c8] 24)) := (Below.refl _ _).alloc (Nat.le_refl _) _
          have hwz := (hb8.block _ hsz17).trans HW17.out
          have z : ∀ o, w8.cell? ⟨w2.heap.size + 1 + 1 + 1, o, none⟩ = #[Value.int .i64 (VX : Nat), .int .i64 (TX : Nat), .int .i64 (SX : Nat), .slice (some ⟨w2.heap.size + 1 + 1, 0, none⟩) n n][o]? := fun o => by simp [World.cell?, hwz]
          have z0 := z 0
          have z1 := z 1
          have z2 := z 2
          have z3 := z 3
          simp only [List.size_toArray, List.getElem?_toArray, List.getElem?_cons_zero, List.getElem?_cons_succ] at z0 z1 z2 z3
          have hs8 := hb8.size
          have hsz8 : w2.heap.size + 1 + 1 + 1 < w8.heap.size := by omega
          have HO8 := Lib.hid (ho8.below hal (Nat.le_refl _))
          have HDAT8 := Lib.hid ((HDAT.out.below hb8 (Nat.le_refl _)).below hal (Nat.le_refl _))
          have HSUM8 := Lib.hid ((HSUM.out.below hb8 (Nat.le_refl _)).below hal (Nat.le_refl _))
          have HBW8 := Lib.hid (HBW.out.trans (hb8.mono HBW.out.size))
          have HWZ := Lib.hid hwz
          clear ho8 hb8 hal z hwz HSUM HDAT
          go_wp2_with fail
          have hwz8 : (w8.alloc (.cells #[.int .i64 VX, .int .i64 TX, .int .i64 SX, .slice (some ⟨g8, 0, none⟩) n c8] 24)).heap[w2.heap.size + 1 + 1 + 1]? = _ := (Below.heap_alloc _ _ _ hsz8).trans HWZ.out
          have hwa8 := alloc_last w8 (.cells #[.int .i64 VX, .int .i64 TX, .int .i64 SX, .slice (some ⟨g8, 0, none⟩) n c8] 24)
          have hB8 : Below w8.heap.size w8 (w8.alloc (.cells #[.int .i64 VX, .int .i64 TX, .int .i64 SX, .slice (some ⟨g8, 0, none⟩) n c8] 24)) := (Below.refl _ _).alloc (Nat.le_refl _) _
          have hS8 : (w8.alloc (.cells #[.int .i64 VX, .int .i64 TX, .int .i64 SX, .slice (some ⟨g8, 0, none⟩) n c8] 24)).heap.size = w8.heap.size + 1 := by simp
          generalize w8.alloc (.cells #[.int .i64 VX, .int .i64 TX, .int .i64 SX, .slice (some ⟨g8, 0, none⟩) n c8] 24) = W8 at hwz8 hwa8 hB8 hS8 HO8 HDAT8 HSUM8 ⊢
          refine (bytes_any VX TX SX DX _ _ HDAT8.out.rd (by omega) (by omega) (by omega) (by omega) (by omega)).mono ?_
          rintro e w9 ⟨v9, rfl, ho9, hb9⟩
          have hbl9 : (bytesOf VX TX SX DX).length = n + 8 := by rw [bytesOf_len, hDX]
          obtain ⟨g9, c9, rfl, hg91, hg92⟩ := ho9.form (by omega)
          rw [hbl9] at ho9 ⊢
          have hwz9 := (hb9.block _ (by omega)).trans hwz8
          have hwa9 := (hb9.block _ (by omega)).trans hwa8
          have y : ∀ o, w9.cell? ⟨w2.heap.size + 1 + 1 + 1, o, none⟩ = #[Value.int .i64 (VX : Nat), .int .i64 (TX : Nat), .int .i64 (SX : Nat), .slice (some ⟨w2.heap.size + 1 + 1, 0, none⟩) n n][o]? := fun o => by simp [World.cell?, hwz9]
          have x : ∀ o, w9.cell? ⟨w8.heap.size, o, none⟩ = #[Value.int .i64 (VX : Nat), .int .i64 (TX : Nat), .int .i64 (SX : Nat), .slice (some ⟨g8, 0, none⟩) n c8][o]? := fun o => by simp [World.cell?, hwa9]
          have y0 := y 0
          have y1 := y 1
          have y2 := y 2
          have y3 := y 3
          have x0 := x 0
          have x1 := x 1
          have x2 := x 2
          have x3 := x 3
          simp only [List.size_toArray, List.getElem?_toArray, List.getElem?_cons_zero, List.getElem?_cons_succ] at y0 y1 y2 y3 x0 x1 x2 x3
          have HO9 := Lib.hid ho9
          have HO89 := Lib.hid (HO8.out.below hb9 (Nat.le_refl _))
          have HDAT9 := Lib.hid (HDAT8.out.below hb9 (Nat.le_refl _))
          have HSUM9 := Lib.hid (HSUM8.out.below hb9 (Nat.le_refl _))
          have HB9 := Lib.hid ((HBW8.out.trans (hB8.mono (by omega))).trans (hb9.mono (by omega)))
          have hs9 := hb9.size
          clear ho9 hb9 y x hwz9 hwa9 hwz8 hwa8 hB8 hS8 HO8 HDAT8 HSUM8
          go_wp2_with fail
          refine (same_any VX TX SX DX _ _ _ HO89.out.rd HDAT9.out.rd).mono ?_
          rintro e w10 ⟨rfl, hb10⟩
          have hc9 := conv_rd (HO9.out.below hb10 (Nat.le_refl _)).rd
          have hcS := conv_rd (HSUM9.out.below hb10 (Nat.le_refl _)).rd
          have HSUM10 := Lib.hid (HSUM9.out.below hb10 (Nat.le_refl _))
          have HB10 := Lib.hid (HB9.out.trans (hb10.mono HB9.out.size))
          have hs10 := hb10.size
          generalize hZ : strB (bytesOf VX TX SX DX) = Z at hc9 hcS
          have HZ := Lib.hid hZ
          clear hb10 hZ
          go_wp2_with fail
          have hrem : ((at_ : Int) % (8 * ((n : Int) + 8))) = ((at_ % (8 * (n + 8)) : Nat) : Int) := by simp
          rw [hrem]
          have hpos : at_ % (8 * (n + 8)) < 8 * (bytesOf VX TX SX DX).length := by rw [hbl9]; exact Nat.mod_lt _ (by omega)
          have HBA := Lib.hid (HBw2.out.trans (HB10.out.mono (show w.heap.size ≤ w2.heap.size by omega)))
          refine (burst_any (bytesOf VX TX SX DX) _ w10 HSUM10.out.rd (HTAB'.out.below HBA.out (Nat.le_refl _)) (at_ % (8 * (n + 8))) mk (by omega) hpos hmk32).mono ?_
          rintro e w11 ⟨v11, rfl, ho11, hb11⟩
          have hHl : (flAll (bytesOf VX TX SX DX) (at_ % (8 * (n + 8))) (bl 33 mk)).length = n + 8 := by rw [flAll_length, hbl9]
          have hbr := HBUR'.out
          have hZ2 := HZ.out
          generalize flAll (bytesOf VX TX SX DX) (at_ % (8 * (n + 8))) (bl 33 mk) = H at ho11 hHl hbr
          obtain ⟨g11, c11, rfl, hg111, hg112⟩ := ho11.form (by omega)
          rw [hHl] at ho11 ⊢
          have hcH := conv_rd ho11.rd
          have hcS2 := conv_rd (HSUM10.out.below hb11 (Nat.le_refl _)).rd
          rw [hZ2] at hcS2
          have HB11 := Lib.hid (HBA.out.trans (hb11.mono HBA.out.size))
          have hs11 := hb11.size
          have HO11 := Lib.hid ho11
          have hA11 := HBA.out.size
          clear hrem hpos ho11 hb11 hc9 hcS HSUM10 HB10
          by_cases hz : (strB H).toList = Z.toList
          · generalize hzh : strB H = zh at hcH hz
            have hz' : (zh.toList == Z.toList) = true := by rw [hz]; simp
            clear hbr hZ2 hzh hz
            go_wp2
            go_ret
            exact ⟨rfl, HB11.out⟩
          · have hne : H ≠ bytesOf VX TX SX DX := fun e => hz (by rw [e, hZ2])
            have hbad := Lib.hid (hbr hne)
            generalize hzh : strB H = zh at hcH hz
            have hz' : (zh.toList == Z.toList) = false := by simpa using hz
            clear hz
            clear hbr hZ2 hne hzh
            go_wp2_with fail
            refine (read_bad H _ _ HO11.out.rd (by omega) (by rw [hHl]; have := hbad.out; exact bne_iff_ne.2 fun e => this (Int.ofNat.inj e))).mono ?_
            rintro e w12 ⟨rfl, hb12⟩
            have HB12 := Lib.hid (HB11.out.trans (hb12.mono HB11.out.size))
            clear hb12
            go_wp2
            go_ret
            exact ⟨rfl, HB12.out⟩
end Go.Proofs.YtbgnkekiephfeaaDoor
