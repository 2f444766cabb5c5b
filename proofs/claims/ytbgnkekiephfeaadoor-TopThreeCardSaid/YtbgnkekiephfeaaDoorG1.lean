/-
  The row of the law TopThree, and its card.
-/
import Derived.Test.YtbgnkekiephfeaaDoorF1
import Derived.Test.YtbgnkekiephfeaaDoorTie
import Derived.Test.YtbgnkekiephfeaaDoorCards
import Derived.ProofKit
import Derived.OpenShut
import Derived.ChangeOld
import Derived.ChangeSame
import Derived.ChangeVars
import Derived.JoinedOf
import Derived.Lib.LaidTab
import Derived.Lib.LaidIn
import Derived.Lib.SmallJoins
import Derived.SevenTiedAt
namespace Go.Proofs.YtbgnkekiephfeaaDoor
open Go.ChangeShapes Go.WideShapes Go.ChangeAt Go.RowKit Go.Joins Go.Deep

theorem own3 : ownKnob Tryd.prog.godebug = none := by kernel_rfl
theorem laidOut3 : laidOutB Tryd.prog = true := by kernel_rfl
theorem g3name : Tryd.prog.globalNamed "math/bits.deBruijn32tab" = some 0 := by kernel_rfl
theorem g3type : (Tryd.prog.globals[0]?).map (·.type) = some 61 := by kernel_rfl
theorem under61 : Tryd.prog.underlying 61 = some (.array 32 5) := by kernel_rfl
theorem cells61 : Tryd.prog.cellsOf 61 = 32 := by kernel_rfl
theorem cells5_ : Tryd.prog.cellsOf 5 = 1 := by kernel_rfl
theorem cells24_ : Tryd.prog.cellsOf 24 = 4 := by kernel_rfl

def dbInts : List Int := [0, 1, 28, 2, 29, 14, 24, 3, 30, 22, 20, 15, 25, 17, 4, 8, 31, 27, 13, 23, 21, 19, 16, 7, 26, 12, 18, 6, 11, 5, 10, 9]
theorem laid_tab {H : Type} : (Rows.laid_math_bits_deBruijn32tab : DataW H) = Lib.tabData .u8 dbInts := rfl
theorem db_same : ∀ i, i < 32 → dbInts.getD i 0 = ((dbj[i]?.getD 0 : Nat) : Int) := by decide
theorem tab0_of_laid {W : World} (h : laidMet Tryd.prog [("math/bits.deBruijn32tab", Rows.laid_math_bits_deBruijn32tab)] W) : Tab0 W := by
  have h' : Lib.TabIs Tryd.prog W "math/bits.deBruijn32tab" .u8 dbInts := Lib.tabIs_of_head g3name g3type under61 Tryd.underlying5 cells5_ cells61 h
  intro i hi
  rw [h'.cell g3name i hi, db_same i hi]

noncomputable def laidWorld (os : Os) : World :=
  { World.holding Tryd.prog os ⟨#[], #[], []⟩ with heap := (World.holding Tryd.prog os ⟨#[], #[], []⟩).heap.modify 0 fun
      | .cells _ t frozen => .cells (dbInts.map fun z => Value.int .u8 z).toArray t frozen
      | o => o }
def zf : Value := .agg #[.int .i64 0, .int .i64 0, .int .i64 0, .slice none 0 0]
theorem laidWorld_met (os : Os) (args : Array Value) : laidMet Tryd.prog [("math/bits.deBruijn32tab", Rows.laid_math_bits_deBruijn32tab)] ((laidWorld os).forCall (fun _ _ => 0) ⟨#[], args, []⟩).memory :=
  (LaidIn.of_run [0] 8 (by kernel_rfl) (by kernel_rfl) (by kernel_rfl) (by kernel_rfl)).met

section
variable {H : Type} {enc : TypeId × Value → H} {W : World}
theorem int_cell {sp : Nat → Bool} {held : Bool} {fuel base : Nat} {t : TypeId} {k : IntKind} {c : Value} {y : DataW H × List MemPlace}
    (ht : Tryd.prog.underlying t = some (.int k)) (h : DataW.trod enc Tryd.prog W base sp held fuel t [c] = some y) : ∃ n, c = .int k n ∧ y = (.lit (.int k n), []) := by
  cases fuel with
  | zero => simp [DataW.trod] at h
  | succ fuel =>
    cases c <;> simp [DataW.trod, ht] at h
    rename_i k' n
    obtain ⟨⟨rfl, _⟩, rfl⟩ := h
    exact ⟨n, rfl, rfl⟩
theorem wf_int3 (k : IntKind) (n : Int) : (Lit.int k n).wf = true ↔ k.min ≤ n ∧ n ≤ k.max := by simp [Lit.wf]
theorem kmin_u8 : IntKind.u8.min = 0 := by rfl
theorem kmax_u8 : IntKind.u8.max = 255 := by rfl
theorem kmin_u16 : IntKind.u16.min = 0 := by rfl
theorem kmax_u16 : IntKind.u16.max = 65535 := by rfl
theorem kmin_u32 : IntKind.u32.min = 0 := by rfl
theorem kmax_u32 : IntKind.u32.max = 4294967295 := by rfl
theorem wf_u8 {n : Int} (h : (Lit.int .u8 n).wf = true) : 0 ≤ n ∧ n < 256 := by
  rw [wf_int3, kmin_u8, kmax_u8] at h
  omega
/-- A frame that came in. -/
theorem open_frame {v : Value} {d : DataW H} {p : List MemPlace} (hv : Value.okWide Tryd.prog W .any 0 24 v) (h : DataW.Trod enc Tryd.prog W 0 (fun _ => true) true 24 v d p) :
    ∃ (V T S : Int) (A : Option Addr) (m c : Nat) (l : List Nat), v = .agg #[.int .i64 V, .int .i64 T, .int .i64 S, .slice A m c] ∧ Bytes W A m c l := by
  obtain ⟨v0, v1, v2, v3, y0, y1, y2, y3, n, rfl, hd, hp, h0, h1, h2, h3⟩ := open_agg4 Tryd.underlying24 (by kernel_rfl) cells24_ hv h
  obtain ⟨V, rfl, _⟩ := int_cell Tryd.underlying3 h0
  obtain ⟨T, rfl, _⟩ := int_cell Tryd.underlying3 h1
  obtain ⟨S, rfl, _⟩ := int_cell Tryd.underlying3 h2
  rcases open_ints Tryd.underlying22 Tryd.underlying5 cells5_ h3 with ⟨hcs, _⟩ | ⟨x, l, c, zs, hcs, _, hl, hm, hz, _, hcell, hwz⟩
  · obtain rfl : v3 = .slice none 0 0 := by simpa using hcs
    exact ⟨V, T, S, none, 0, 0, [], rfl, by simp, rfl, by omega, by omega, fun h => by omega⟩
  · obtain rfl : v3 = .slice (some x) l c := by simpa using hcs
    have hz' : zs.length = c := by simpa using hz
    have hb : ∀ i, i < zs.length → ∃ b : Nat, b < 256 ∧ zs.getD i 0 = (b : Int) := by
      intro i hi
      have hw := hwz (zs[i]) (List.getElem_mem hi)
      have e : zs.getD i 0 = zs[i] := by simp [hi]
      have hb := wf_u8 hw
      exact ⟨(zs[i]).toNat, by omega, by rw [e]; omega⟩
    refine ⟨V, T, S, some x, l, c, (zs.take l).map Int.toNat, rfl, ?_, ?_, hl, ?_, fun hp => ?_⟩
    · intro b hb'
      obtain ⟨z, hz1, rfl⟩ := List.mem_map.1 hb'
      have := wf_u8 (hwz z (List.mem_of_mem_take hz1))
      omega
    · rw [List.length_map, List.length_take]; omega
    · simp only [maxLen] at hm; omega
    · obtain ⟨b, off, spot⟩ := x
      have hc := hcell 0 (by omega)
      have hspot : spot = none := by simpa [Addr.add] using World.cell?_spot hc
      subst hspot
      refine ⟨b, off, rfl, fun j hj => ?_⟩
      obtain ⟨y, hy, e⟩ := hb j (by omega)
      have hcj := hcell j (by omega)
      rw [e] at hcj
      have e2 : ((zs.take l).map Int.toNat)[j]?.getD 0 = y := by
        have h5 : zs[j]'(by omega) = (y : Int) := by have : zs.getD j 0 = zs[j]'(by omega) := by simp [show j < zs.length by omega]
                                                     rw [← this]; exact e
        rw [List.getElem?_map, List.getElem?_take_of_lt hj, List.getElem?_eq_getElem (by omega), h5]
        rfl
      rw [e2]
      rw [Addr.add_lit] at hcj
      exact hcj
end

set_option maxRecDepth 100000 in
theorem lifted (os : Os) (started : os.Started) (H : Type) (enc : TypeId × Value → H) :
    ReturnsInHanded {} Tryd.checked os 3 .any (fun w args => (Rows.topThreeSpec.pre enc Tryd.prog Tryd.f3 [] false w args ∧ laidMet Tryd.prog [("math/bits.deBruijn32tab", Rows.laid_math_bits_deBruijn32tab)] w) ∧ sizedMet enc Tryd.prog Tryd.f3 (OpenSpec.ofChange Rows.topThreeSpec) false w args)
      (Rows.topThreeSpec.post enc Tryd.prog Tryd.f3 false true false false) := by
  refine returnsInHanded_of_change_and (C := Tryd.checked) (X := fun w _ => laidMet Tryd.prog [("math/bits.deBruijn32tab", Rows.laid_math_bits_deBruijn32tab)] w) (fun _ _ _ hh h => h.of_heap hh) own3 started (by kernel_rfl) Tryd.func3
    (ChangeSpec.witness_at (enc := enc) (C := Tryd.checked) (os := os) (X := fun w _ => laidMet Tryd.prog [("math/bits.deBruijn32tab", Rows.laid_math_bits_deBruijn32tab)] w) false (laidWorld os) #[zf, zf, zf, .int .u16 0, .int .u32 0] 8 rfl (by kernel_rfl) (by kernel_rfl) (by kernel_rfl) (by kernel_rfl) (by kernel_rfl) (laidWorld_met os _)) ?_
  intro W base args ds gs before hval0 hW _ _ hL _
  have hval : ∀ (j : Nat) t v, Tryd.f3.params[j]? = some t → args[j]? = some v → Value.okWide Tryd.prog W .any base t v := hval0
  have hW' := hW
  obtain ⟨p, q, hA0, hV, rfl, hfz, hnd⟩ := hW
  have hA : DataW.TrodAll enc Tryd.prog W 0 (fun _ => true) true Tryd.f3.params.toList args.toList ds p := hA0
  rw [Tryd.params3] at hA hval
  obtain ⟨v0, vs0, d0, ds0, p0, q0, hargs, rfl, rfl, h0, r0⟩ := trodAll_cons hA
  obtain ⟨v1, vs1, d1, ds1, p1, q1, rfl, rfl, rfl, h1, r1⟩ := trodAll_cons r0
  obtain ⟨v2, vs2, d2, ds2, p2, q2, rfl, rfl, rfl, h2, r2⟩ := trodAll_cons r1
  obtain ⟨v3, vs3, d3, ds3, p3, q3, rfl, rfl, rfl, h3, r3⟩ := trodAll_cons r2
  obtain ⟨v4, vs4, d4, ds4, p4, q4, rfl, rfl, rfl, h4, r4⟩ := trodAll_cons r3
  obtain ⟨rfl, rfl, rfl⟩ := trodAll_nil r4
  obtain rfl : args = #[v0, v1, v2, v3, v4] := by cases args; simp_all
  obtain ⟨rfl, rfl⟩ := trodVars_none hV
  have k0 := h0
  have k1 := h1
  have k2 := h2
  have lt0 : ∀ x ∈ p0, x.block < W.heap.size := by obtain ⟨m, hm⟩ := k0; exact DataW.trod_lt m _ _ _ hm
  have lt1 : ∀ x ∈ p1, x.block < W.heap.size := by obtain ⟨m, hm⟩ := k1; exact DataW.trod_lt m _ _ _ hm
  have lt2 : ∀ x ∈ p2, x.block < W.heap.size := by obtain ⟨m, hm⟩ := k2; exact DataW.trod_lt m _ _ _ hm
  obtain ⟨V0, T0, S0, A0, m0, c0, l0, rfl, w0⟩ := open_frame (hval 0 24 v0 rfl rfl) h0
  obtain ⟨V1, T1, S1, A1, m1, c1, l1, rfl, w1⟩ := open_frame (hval 1 24 v1 rfl rfl) h1
  obtain ⟨V2, T2, S2, A2, m2, c2, l2, rfl, w2⟩ := open_frame (hval 2 24 v2 rfl rfl) h2
  obtain ⟨a, rfl, rfl, rfl, wa⟩ := open_int Tryd.underlying25 (hval 3 25 v3 rfl rfl) h3
  obtain ⟨b, rfl, rfl, rfl, wb⟩ := open_int Tryd.underlying26 (hval 4 26 v4 rfl rfl) h4
  have ha : 0 ≤ a ∧ a < 65536 := by
    have := (wf_int3 _ _).1 wa
    rw [kmin_u16, kmax_u16] at this
    omega
  have hb : 0 ≤ b ∧ b < 4294967296 := by
    have := (wf_int3 _ _).1 wb
    rw [kmin_u32, kmax_u32] at this
    omega
  obtain ⟨a', rfl⟩ := Int.eq_ofNat_of_zero_le ha.1
  obtain ⟨b', rfl⟩ := Int.eq_ofNat_of_zero_le hb.1
  clear hA0 hval0
  have hwalk := law_true (fun i => if i = 0 then V0 else if i = 1 then V1 else V2) (fun i => if i = 0 then T0 else if i = 1 then T1 else T2) (fun i => if i = 0 then S0 else if i = 1 then S1 else S2)
    (fun i => if i = 0 then A0 else if i = 1 then A1 else A2) (fun i => if i = 0 then m0 else if i = 1 then m1 else m2) (fun i => if i = 0 then c0 else if i = 1 then c1 else c2)
    (fun i => if i = 0 then l0 else if i = 1 then l1 else l2) a' b' W (by omega) (by omega) (tab0_of_laid hL) (fun i hi => by
      obtain rfl | rfl | rfl : i = 0 ∨ i = 1 ∨ i = 2 := by omega
      · exact w0
      · exact w1
      · exact w2)
  refine hwalk.mono fun e W' ⟨he, bel⟩ => ?_
  subst he
  exact ⟨_, rfl, _, _, _, [], _, [], hW', trodAll_mk1 (shut_bool Tryd.underlying4 _), (trodAll_cons_mk (Below.trod laidOut3 (by kernel_rfl) (of_decide_eq_true (by kernel_rfl)) k0 bel lt0) (trodAll_cons_mk (Below.trod laidOut3 (by kernel_rfl) (of_decide_eq_true (by kernel_rfl)) k1 bel lt1)
    (trodAll_cons_mk (Below.trod laidOut3 (by kernel_rfl) (of_decide_eq_true (by kernel_rfl)) k2 bel lt2) (trodAll_cons_mk (shut_int Tryd.underlying25 wa) (trodAll_cons_mk (shut_int Tryd.underlying26 wb) trodAll_mk0))))), rfl, bel.frame _, fun h => by cases h⟩

theorem over : Rows.TopThreeSaid :=
  OpenClaim.holds_of_wide 3 Tryd.f3 rfl rfl rfl rfl rfl rfl rfl ⟨rfl, rfl, rfl, rfl, rfl⟩ rfl rfl rfl rfl rfl (by kernel_rfl) Tryd.func3 (by kernel_rfl)
    (of_decide_eq_true (by kernel_rfl)) (by unfold Func.isWrapper; rw [if_neg (of_decide_eq_false (by kernel_rfl))]; exact ⟨rfl, rfl⟩)
    (fun os started H enc _ => lifted os started H enc)
end Go.Proofs.YtbgnkekiephfeaaDoor
