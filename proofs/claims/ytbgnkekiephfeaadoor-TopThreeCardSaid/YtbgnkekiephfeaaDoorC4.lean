/-
  frame.Burst: the bits of the mask, moved by 'at', are turned one after the other.
-/
import Derived.Test.YtbgnkekiephfeaaDoorC3
import Derived.Test.YtbgnkekiephfeaaDoorK4
import Derived.Test.YtbgnkekiephfeaaDoorA3
import Derived.OneCell
import Derived.Shelf.Abstract
namespace Go.Proofs.YtbgnkekiephfeaaDoor
open Go.RowKit Go.Shelf

def fl (l : List Nat) (n : Nat) : List Nat := if n < 8 * l.length then l.set (n / 8) (l[n / 8]?.getD 0 ^^^ 2 ^ (n % 8)) else l
def flAll (l : List Nat) (at_ : Nat) (ks : List Nat) : List Nat := ks.foldl (fun l k => fl l (at_ + k)) l
theorem fl_length (l : List Nat) (n : Nat) : (fl l n).length = l.length := by unfold fl; split <;> simp
theorem flAll_length (at_ : Nat) : ∀ (ks : List Nat) (l : List Nat), (flAll l at_ ks).length = l.length
  | [], l => rfl
  | k :: ks, l => (flAll_length at_ ks (fl l (at_ + k))).trans (fl_length _ _)
theorem flAll_snoc (l : List Nat) (at_ : Nat) (ks : List Nat) (k : Nat) : flAll l at_ (ks ++ [k]) = fl (flAll l at_ ks) (at_ + k) := by simp [flAll, List.foldl_append]

set_option maxHeartbeats 400000 in
theorem set_any (m : Nat) (w : World) :
    Calls Tryd.prog 16 #[.int .u32 m] w fun e w' => e = .returned (.func (.func 23) #[] #[.pointer (some ⟨w.heap.size, 0, none⟩)]) ∧ w' = w.alloc (.cells #[.int .u32 m] 26) := by
  have hmf : ∀ (fn : Fn) (first cap : Array Value) (w : World), (Instr.makeFunc fn first cap).run Tryd.prog w = .ok (.func fn first cap) w := fun _ _ _ _ => rfl
  go_enter Tryd.func16, Tryd.ntmps16
  go_wp2
  go_ret
  exact ⟨rfl, rfl⟩

theorem OwnB.form {w : World} {base : Nat} {v : Value} {l : List Nat} (h : OwnB w base v l) (hp : 0 < l.length) : ∃ g cap, v = .slice (some ⟨g, 0, none⟩) l.length cap ∧ base ≤ g ∧ g < w.heap.size := by
  rcases h.own.2 with ⟨_, hn⟩ | ⟨g, cap, cur, rfl, hb, hh, _⟩
  · omega
  · exact ⟨g, cap, rfl, hb, (Array.getElem?_eq_some_iff.1 hh).1⟩

theorem heap_bears {W W' : World} {row : Option Nat} (hg : W.grownBy W' row) {B : Nat} (hr : ∀ r, row = some r → B ≤ r ∧ ∃ o : Obj, W.heap[r]? = some o ∧ o.isCells = false) {k : Nat} {cs : Array Value} {t : TypeId} {f : Nat × Nat}
    (h : W.heap[k]? = some (.cells cs t f)) : W'.heap[k]? = some (.cells cs t f) := by
  rw [hg.block k (Array.getElem?_eq_some_iff.1 h).1, h]
  intro e
  obtain ⟨_, o, ho, hc⟩ := hr k e.symm
  rw [h] at ho; cases ho; cases hc
theorem OwnB.bears {W W' : World} {row : Option Nat} (hg : W.grownBy W' row) {B : Nat} (hr : ∀ r, row = some r → B ≤ r ∧ ∃ o : Obj, W.heap[r]? = some o ∧ o.isCells = false) {base : Nat} {v : Value} {l : List Nat}
    (h : OwnB W base v l) : OwnB W' base v l := by
  refine ⟨h.bytes, h.len, h.own.1, ?_⟩
  rcases h.own.2 with h2 | ⟨g, cap, cur, hv, hb, hh, r⟩
  · exact .inl h2
  · exact .inr ⟨g, cap, cur, hv, hb, heap_bears hg hr hh, r⟩
/-- Between two rounds of the loop. -/
def BI (w : World) (no g cap : Nat) (A : Option Addr) (c : Nat) (l : List Nat) (at_ : Nat) (pre : List Nat) (W : World) : Prop :=
  W.heap[w.heap.size]? = some (.cells #[.slice A l.length c] 22 (0, 0)) ∧ W.heap[w.heap.size + 1]? = some (.cells #[.int .i64 at_] 3 (0, 0)) ∧
  W.heap[no]? = some (.cells #[.slice (some ⟨g, 0, none⟩) l.length cap] 22 (0, 0)) ∧ OwnB W w.heap.size (.slice (some ⟨g, 0, none⟩) l.length cap) (flAll l at_ pre) ∧ Below w.heap.size w W ∧ g < no
theorem BI.of_eq {w : World} {no g cap : Nat} {A : Option Addr} {c : Nat} {l : List Nat} {at_ : Nat} {pre pre' : List Nat} {W : World} (h : BI w no g cap A c l at_ pre W) (e : flAll l at_ pre' = flAll l at_ pre) : BI w no g cap A c l at_ pre' W := by
  unfold BI at *
  rw [e]
  exact h
theorem OwnB.at_ {W : World} {base g cap n : Nat} {l : List Nat} (h : OwnB W base (.slice (some ⟨g, 0, none⟩) n cap) l) {i : Nat} (hi : i < l.length) (hn : n = l.length) :
    W.cell? ⟨g, i, none⟩ = some (.int .u8 ((l[i]?.getD 0 : Nat) : Int)) ∧ W.frozen? ⟨g, i, none⟩ = false := by
  subst hn
  refine ⟨?_, h.own.frozenAt i⟩
  rw [h.own.cellAt i (by omega), List.getElem?_map, List.getElem?_eq_getElem hi]
  rfl
theorem OwnB.store {W : World} {base g cap n : Nat} {l : List Nat} (h : OwnB W base (.slice (some ⟨g, 0, none⟩) n cap) l) {i b : Nat} (hn : n = l.length) (hb : b < 256) :
    OwnB (W.setCell ⟨g, i, none⟩ (.int .u8 (b : Int))) base (.slice (some ⟨g, 0, none⟩) n cap) (l.set i b) := by
  subst hn
  have hs := (h.own.stored i (vb b)).1
  refine ⟨fun c hc => ?_, by rw [List.length_set]; exact h.len, ?_⟩
  · rcases List.mem_or_eq_of_mem_set hc with hc | rfl
    · exact h.bytes c hc
    · exact hb
  · rw [List.length_set, List.map_set]; exact hs
theorem div8_int (n : Nat) (hn : n < 100000) : IntKind.i64.wrap ((n : Int).tdiv 8) = ((n / 8 : Nat) : Int) := by
  rw [Int.tdiv_eq_ediv_of_nonneg (by omega), IntKind.wrap_i64]
  omega
theorem mod8_int (n : Nat) : (n : Int).tmod 8 = ((n % 8 : Nat) : Int) := by
  rw [Int.tmod_eq_emod_of_nonneg (by omega)]
  omega
theorem wrap8 (r : Nat) (hr : r < 8) : IntKind.u8.wrap ((2 : Int) ^ r) = ((2 ^ r : Nat) : Int) := by
  obtain rfl | rfl | rfl | rfl | rfl | rfl | rfl | rfl : r = 0 ∨ r = 1 ∨ r = 2 ∨ r = 3 ∨ r = 4 ∨ r = 5 ∨ r = 6 ∨ r = 7 := by omega
  all_goals rfl
theorem BI_bears {w : World} {no g cap : Nat} {A : Option Addr} {c : Nat} {l : List Nat} {at_ : Nat} {B : Nat} (hB : w.heap.size ≤ B) : Bears B (BI w no g cap A c l at_) := by
  rintro s W W' row ⟨h1, h2, h3, h4, h5, h6⟩ hg hr
  exact ⟨heap_bears hg hr h1, heap_bears hg hr h2, heap_bears hg hr h3, h4.bears hg hr, h5.grown hg h5.size (fun k hk => Nat.le_trans hB (hr k hk).1), h6⟩
theorem BI_cells {w : World} {no g cap : Nat} {A : Option Addr} {c : Nat} {l : List Nat} {at_ : Nat} (hno : w.heap.size + 1 < no) : BearsCells (· = no + 1) (BI w no g cap A c l at_) := by
  rintro s W b o v rfl ⟨h1, h2, h3, h4, h5, h6⟩
  have hh := fun k (hk : k ≠ no + 1) => Below.heap_setCell W ⟨no + 1, o, none⟩ v k hk
  refine ⟨by rw [hh _ (by omega)]; exact h1, by rw [hh _ (by omega)]; exact h2, by rw [hh _ (by omega)]; exact h3, ?_, h5.setCell (by simp; omega) v, h6⟩
  exact ⟨h4.bytes, h4.len, ownsRow_setCell_other h4.own (by simp [Value.ownBlock]; omega) v⟩

attribute [local go_sem] Oper.semAt_some
set_option maxHeartbeats 400000 in
theorem burst_any (l : List Nat) (v : Value) (w : World) (h : RdB w v l) (hT : Tab0 w) (at_ m : Nat) (hlen : l.length ≤ 1000) (hat : at_ < 8 * l.length) (hm : m < 4294967296) :
    Calls Tryd.prog 8 #[v, .int .i64 at_, .int .u32 m] w fun e w' => ∃ v', e = .returned v' ∧ OwnB w' w.heap.size v' (flAll l at_ (bl 33 m)) ∧ Below w.heap.size w w' := by
  obtain ⟨A, c, rfl, hlc, hcm, hform⟩ := h.form
  have HR := Lib.hid h
  have HT := Lib.hid hT
  clear h hform hT
  refine (callsIn_wide (n := 0)).1 ?_
  refine callsIn_of_wp_marks Tryd.func8 rfl trivial ?_ rfl
  simp only [Tryd.ntmps8, List.size_toArray, List.length_cons, List.length_nil, Nat.reduceAdd, Nat.reduceSub, Array.replicate_succ, Array.replicate_zero, List.push_toArray, List.append_toArray, List.nil_append, List.cons_append]
  have hb0 : Below w.heap.size w ((w.alloc (.cells #[.slice A l.length c] 22)).alloc (.cells #[.int .i64 at_] 3)) := ((Below.refl _ w).alloc (Nat.le_refl _) _).alloc (by simp) _
  have HR0 := Lib.hid (HR.out.below hb0 (Nat.le_refl _))
  have HB0 := Lib.hid hb0
  clear hb0
  gi_wp2_with fail
  refine ⟨trivial, rfl, callsIn_wide.2 ((bclone_any l _ _ HR0.out).mono ?_)⟩
  rintro e w1 ⟨v1, rfl, ho1, hb1⟩
  obtain ⟨g, cap, rfl, hgb, hgl⟩ := ho1.form (by omega)
  have hB1 : w1.heap[w.heap.size]? = some (.cells #[.slice A l.length c] 22 (0, 0)) := by
    rw [hb1.block _ (by simp; omega), Below.heap_alloc _ _ _ (by simp)]; exact World.alloc_heap_new w _
  have hA1 : w1.heap[w.heap.size + 1]? = some (.cells #[.int .i64 at_] 3 (0, 0)) := by
    rw [hb1.block _ (by simp)]
    have := World.alloc_heap_new (w.alloc (.cells #[.slice A l.length c] 22)) (.cells #[.int .i64 at_] 3)
    rwa [World.size_alloc] at this
  have hcB := cell_of_one hB1
  have hcA := cell_of_one hA1
  have hl1 := lt_of_block hA1
  have hl0 : w.heap.size < w1.heap.size := by omega
  have HO1 := Lib.hid ho1
  have HB1 := Lib.hid (HB0.out.trans (hb1.mono (by simp; omega)))
  have HBl1 := Lib.hid hB1
  have HAl1 := Lib.hid hA1
  have hd1 : decide ((at_ : Int) ≤ -32) = false := by simp; omega
  have hd2 : decide (8 * (l.length : Int) ≤ (at_ : Int)) = false := by simp; omega
  clear ho1 hb1 hB1 hA1
  simp only [World.size_alloc] at hgb
  gi_wp2_with fail
  refine ⟨trivial, rfl, callsIn_wide.2 ((set_any m _).mono ?_)⟩
  rintro e w2 ⟨rfl, rfl⟩
  have F1 : Hid (((w1.alloc (.cells #[.slice (some ⟨g, 0, none⟩) l.length cap] 22)).alloc (.cells #[.int .u32 m] 26)).heap[w.heap.size]? = some (.cells #[.slice A l.length c] 22 (0, 0))) :=
    Lib.hid (by rw [Below.heap_alloc _ _ _ (by simp; omega), Below.heap_alloc _ _ _ hl0]; exact HBl1.out)
  have F2 : Hid (((w1.alloc (.cells #[.slice (some ⟨g, 0, none⟩) l.length cap] 22)).alloc (.cells #[.int .u32 m] 26)).heap[w.heap.size + 1]? = some (.cells #[.int .i64 at_] 3 (0, 0))) :=
    Lib.hid (by rw [Below.heap_alloc _ _ _ (by simp; omega), Below.heap_alloc _ _ _ hl1]; exact HAl1.out)
  have F3 : Hid (((w1.alloc (.cells #[.slice (some ⟨g, 0, none⟩) l.length cap] 22)).alloc (.cells #[.int .u32 m] 26)).heap[w1.heap.size]? = some (.cells #[.slice (some ⟨g, 0, none⟩) l.length cap] 22 (0, 0))) :=
    Lib.hid (by rw [Below.heap_alloc _ _ _ (by simp)]; exact World.alloc_heap_new w1 _)
  have F4 : Hid (((w1.alloc (.cells #[.slice (some ⟨g, 0, none⟩) l.length cap] 22)).alloc (.cells #[.int .u32 m] 26)).heap[w1.heap.size + 1]? = some (.cells #[.int .u32 m] 26 (0, 0))) :=
    Lib.hid (by have := World.alloc_heap_new (w1.alloc (.cells #[.slice (some ⟨g, 0, none⟩) l.length cap] 22)) (.cells #[.int .u32 m] 26); rwa [World.size_alloc] at this)
  have hb2 : Below w1.heap.size w1 ((w1.alloc (.cells #[.slice (some ⟨g, 0, none⟩) l.length cap] 22)).alloc (.cells #[.int .u32 m] 26)) := ((Below.refl _ w1).alloc (Nat.le_refl _) _).alloc (by simp) _
  have F5 := Lib.hid (HO1.out.below hb2 (Nat.le_refl _))
  have F6 := Lib.hid (HB1.out.trans (hb2.mono HB1.out.size))
  have hsz : ((w1.alloc (.cells #[.slice (some ⟨g, 0, none⟩) l.length cap] 22)).alloc (.cells #[.int .u32 m] 26)).heap.size = w1.heap.size + 2 := by simp
  clear hb2
  generalize (w1.alloc (.cells #[.slice (some ⟨g, 0, none⟩) l.length cap] 22)).alloc (.cells #[.int .u32 m] 26) = W0 at F1 F2 F3 F4 F5 F6 hsz
  have HSZ := Lib.hid hsz
  clear hsz
  gi_wp2
  have hc4 := Lib.hid (cell_of_one F4.out)
  have hf4 := Lib.hid (free_of_one F4.out)
  have HT0 : Hid (Tab0 W0) := Lib.hid fun i hi => by
    have h1 := HT.out i hi
    exact (F6.out.cell (p := ⟨0, i, none⟩) (World.block_lt_of_cell? _ _ h1)).trans h1
  have h00 : 0 < W0.heap.size := by rw [HSZ.out]; omega
  refine range_iter (α := Nat) (gf := 23) (lb := #[.pointer (some ⟨w1.heap.size + 1, 0, none⟩)]) rfl (enters_of Tryd.func23 (by kernel_rfl) rfl)
    (set_iter m (w1.heap.size + 1) W0 hc4.out hf4.out HT0.out hm) (fun b e => by subst e; rw [HSZ.out]; omega) (fun b e => by have := HSZ.out; rcases e with rfl | rfl <;> omega) (Below.refl _ _) rfl
    (BI w w1.heap.size g cap A c l at_) (BI_bears (by rw [HSZ.out]; omega)) (BI_cells (by omega)) ⟨F1.out, F2.out, F3.out, F5.out.mono (by simp; omega), F6.out, hgl⟩
    (fun x => { tmps := #[Value.slice A l.length c, Value.int IntKind.i64 ↑at_, Value.int IntKind.u32 ↑m, Value.pointer (some { block := w.heap.size, off := 0 }), Value.pointer (some { block := w.heap.size + 1, off := 0 }), undef, Value.slice none 0 0, Value.pointer (some { block := w1.heap.size, off := 0 }), .int .i64 (x : Int), undef, Value.slice A l.length c, Value.slice (some { block := g, off := 0 }) l.length cap, Value.int IntKind.i64 ↑at_, Value.bool false, Value.bool false, Value.int IntKind.i64 ↑at_, Value.slice A l.length c, Value.int IntKind.i64 ↑l.length, Value.int IntKind.i64 (8 * ↑l.length), Value.bool false, Value.bool false, undef, Value.int IntKind.u32 ↑m, Value.func (Fn.func 23) #[] #[Value.pointer (some { block := w1.heap.size + 1, off := 0 })], .int .i64 (x : Int), undef, undef, undef, undef, undef, undef, undef, undef, undef, undef, undef, undef, undef, undef, undef, undef, undef, undef, undef, undef, undef, undef, undef], defers := [] }) ?assign ?body ?done
  case assign =>
    intro l x W K hK
    gi_wp2
    exact hK
  case body =>
    rintro pre x W hx ⟨g1, g2, g3, g4, g5, g6⟩
    have cB := cell_of_one g1
    have cA := cell_of_one g2
    have cO := cell_of_one g3
    have hx' : x < 32 := hx
    have HG := Lib.hid g4
    have HW := Lib.hid (show BI w w1.heap.size g cap A c l at_ pre W from ⟨g1, g2, g3, g4, g5, g6⟩)
    have hlenF := flAll_length at_ pre l
    have HS := Lib.hid (flAll_snoc l at_ pre x)
    have HLF := Lib.hid hlenF
    clear g1 g2 g3 g4 g5 hlenF
    by_cases hlt : at_ + x < 8 * l.length
    · have d1 : decide ((at_ : Int) + (x : Int) < 8 * (l.length : Int)) = true := by simp; omega
      have hix : (at_ + x) / 8 < (flAll l at_ pre).length := by rw [HLF.out]; omega
      have hcg := HG.out.at_ hix HLF.out.symm
      have hcell := hcg.1
      have hfree := hcg.2
      have hb8 := getD_lt HG.out.bytes ((at_ + x) / 8)
      clear hcg
      have HE := Lib.hid (show fl (flAll l at_ pre) (at_ + x) = (flAll l at_ pre).set ((at_ + x) / 8) ((flAll l at_ pre)[(at_ + x) / 8]?.getD 0 ^^^ 2 ^ ((at_ + x) % 8)) by rw [fl, if_pos (by rw [HLF.out]; exact hlt)])
      generalize (flAll l at_ pre)[(at_ + x) / 8]?.getD 0 = b8 at hcell hb8 HE
      have hr8 : (at_ + x) % 8 < 8 := Nat.mod_lt _ (by decide)
      have hq8 : (at_ + x) / 8 < l.length := by omega
      have hdq := div8_int (at_ + x) (by omega)
      have hdr := mod8_int (at_ + x)
      rw [Int.natCast_add] at hdq hdr
      generalize (at_ + x) / 8 = q at hcell hfree HE hdq hq8
      generalize (at_ + x) % 8 = r at HE hdr hr8
      have hq8' : (q : Int) < (l.length : Int) := by omega
      have hx8 := Lib.hid (u8_xor b8 (2 ^ r) hb8 (Nat.lt_of_lt_of_le (Nat.pow_lt_pow_right (by decide) hr8) (by decide)))
      have hp8 : 2 ^ r < 256 := Nat.lt_of_lt_of_le (Nat.pow_lt_pow_right (by decide) hr8) (by decide)
      have hsh := wrap8 r hr8
      generalize (2 : Nat) ^ r = p at HE hx8 hsh hp8
      clear hix
      gi_wp2
      refine wp_region_planIn [0, 0, 2, 7, 15, 0, 32, 96, 255, 511, 1023] [(0, .R), (1, .L), (2, .L), (3, .L), (4, .R), (5, .L), (6, .L), (7, .L), (8, .L), (9, .L), (10, .W)] (by kernel_rfl) (by kernel_rfl) (by kernel_rfl) ?_
      refine plan_R rfl rfl (fun K hK => ?_); go_simp; refine hK _ ?_; clear hK K
      refine plan_L rfl (fun K hK => ?_); go_simp; refine hK _ ?_; clear hK K
      refine plan_L rfl (fun K hK => ?_); go_simp; refine hK _ ?_; clear hK K
      refine plan_L rfl (fun K hK => ?_); go_simp; refine hK _ ?_; clear hK K
      refine plan_R rfl rfl (fun K hK => ?_); go_simp; refine hK _ ?_; clear hK K
      refine plan_L rfl (fun K hK => ?_); go_simp; refine hK _ ?_; clear hK K
      refine plan_L rfl (fun K hK => ?_); go_simp; refine hK _ ?_; clear hK K
      refine plan_L rfl (fun K hK => ?_); go_simp; refine hK _ ?_; clear hK K
      refine plan_L rfl (fun K hK => ?_); go_simp; refine hK _ ?_; clear hK K
      refine plan_L rfl (fun K hK => ?_); go_simp; refine hK _ ?_; clear hK K
      refine plan_W rfl (fun K hK => ?_); go_simp; refine hK _ _ ?_; clear hK K
      refine plan_nil ?_
      rw [hx8.out]
      have hb := byte_xor_lt hb8 hp8
      have hne := HSZ.out
      have hgb2 : w.heap.size ≤ g := by omega
      obtain ⟨g1, g2, g3, g4, g5, g6⟩ := HW.out
      have hother := fun k (hk : k ≠ g) => Below.heap_setCell W ⟨g, q, none⟩ (.int .u8 ((b8 ^^^ p : Nat) : Int)) k hk
      refine ⟨?_, ?_, fun b hb => ?_, ?_⟩
      · exact hother _ (by omega)
      · exact hother _ (by omega)
      · exact hother _ (by rcases hb with rfl | rfl <;> omega)
      · refine ⟨?_, ?_, ?_, ?_, (g5.setCell (p := ⟨g, q, none⟩) hgb2 _).drew, g6⟩
        · exact (hother _ (by omega)).trans g1
        · exact (hother _ (by omega)).trans g2
        · exact (hother _ (by omega)).trans g3
        · have h7 := g4.store (i := q) HLF.out.symm hb
          rw [HS.out, HE.out]
          exact ⟨h7.bytes, h7.len, h7.own⟩
    · have d1 : decide ((at_ : Int) + (x : Int) < 8 * (l.length : Int)) = false := by simp; omega
      gi_wp2
      exact ⟨rfl, rfl, fun _ _ => rfl, HW.out.of_eq (by rw [HS.out, fl, if_neg (by rw [HLF.out]; exact hlt)])⟩
  case done =>
    rintro xs W rfl ⟨g1, g2, g3, g4, g5, g6⟩ hK
    have cO := cell_of_one g3
    have HG := Lib.hid g4
    have H5 := Lib.hid g5
    have HK := Lib.hid hK
    clear g1 g2 g3 g4 g5 hK
    gi_wp2
    refine ⟨by simp, .inl ⟨_, _, rfl, run_takeDeferred HK.out, ?_⟩⟩
    have hne := HSZ.out
    have hr : ∀ r, some W0.heap.size = some r → w.heap.size ≤ r ∧ ∃ o : Obj, W.heap[r]? = some o ∧ o.isCells = false := by
      intro r e
      cases e
      exact ⟨by omega, _, HK.out, rfl⟩
    refine ⟨.slice (some ⟨g, 0, none⟩) l.length cap, results_tmp (t := 6) rfl _ _ _, _, rfl, HG.out.bears (grownBy_putObj' W W0.heap.size (.deferred none)) hr, ?_⟩
    exact H5.out.grown (grownBy_putObj' W W0.heap.size (.deferred none)) H5.out.size (fun k hk => (hr k hk).1)
end Go.Proofs.YtbgnkekiephfeaaDoor
