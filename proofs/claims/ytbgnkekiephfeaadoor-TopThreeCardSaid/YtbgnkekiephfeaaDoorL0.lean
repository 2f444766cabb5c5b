/-
  Words and lemmas for the walk of the law TopThree.
-/
import Derived.Test.YtbgnkekiephfeaaDoorD3
import Derived.Test.YtbgnkekiephfeaaDoorB2
import Derived.Test.YtbgnkekiephfeaaDoorK5
import Derived.Test.YtbgnkekiephfeaaDoorE0
namespace Go.Proofs.YtbgnkekiephfeaaDoor
open Go.RowKit

theorem alloc_lastAt (w : World) (o : Obj) (k : Nat) (h : w.heap.size = k) : (w.alloc o).heap[k]? = some o := by rw [← h]; exact alloc_last w o
theorem four_allocs (w : World) (a b c d : Obj) (W : World) (hW : W = (((w.alloc a).alloc b).alloc c).alloc d) :
    W.heap[w.heap.size]? = some a ∧ W.heap[w.heap.size + 1]? = some b ∧ W.heap[w.heap.size + 1 + 1]? = some c ∧ W.heap[w.heap.size + 1 + 1 + 1]? = some d ∧ W.heap.size = w.heap.size + 4 ∧ Below w.heap.size w W := by
  subst hW
  refine ⟨?_, ?_, ?_, alloc_lastAt _ _ _ (by simp), by simp, ?_⟩
  · rw [Below.heap_alloc _ _ _ (by simp; omega), Below.heap_alloc _ _ _ (by simp; omega), Below.heap_alloc _ _ _ (by simp)]
    exact alloc_last _ _
  · rw [Below.heap_alloc _ _ _ (by simp), Below.heap_alloc _ _ _ (by simp)]
    exact alloc_lastAt _ _ _ (by simp)
  · rw [Below.heap_alloc _ _ _ (by simp)]
    exact alloc_lastAt _ _ _ (by simp)
  · exact ((((Below.refl _ _).alloc (Nat.le_refl _) _).alloc (by simp) _).alloc (by simp; omega) _).alloc (by simp; omega) _
theorem take6 : (bytesOf 3 1 200 [7, 9]).take 6 = [3, 1, 200, 2, 7, 9] := by
  unfold bytesOf
  rw [List.take_left' (by simp [bodyOf])]
  rfl
theorem str6 : strB [3, 1, 200, 2, 7, 9] = ⟨#[3, 1, 200, 2, 7, 9]⟩ := by rfl
theorem str2 : strB [7, 9] = ⟨#[7, 9]⟩ := by rfl
theorem rd79 (w : World) (g : Nat) (h : w.heap[g]? = some (.cells #[.int .u8 7, .int .u8 9] 5)) : RdB w (.slice (some ⟨g, 0, none⟩) 2 2) [7, 9] := by
  refine ⟨by decide, by decide, some ⟨g, 0, none⟩, 2, rfl, by decide, by decide, fun _ => ⟨g, 0, rfl, fun i hi => ?_⟩⟩
  have : i < 2 := hi
  obtain rfl | rfl : i = 0 ∨ i = 1 := by omega
  all_goals simp [World.cell?, h]

def zs (n : Nat) : Array Value := madeCells (Value.int .u8 0).cells (n * 1)
theorem zs_list (n : Nat) : (zs n).toList = (List.replicate n 0).map vb := by
  apply List.ext_getElem
  · simp [zs, size_madeCells]
  · intro i h1 h2
    simp [zs, madeCells, Value.cells, vb, Nat.mod_one]
theorem mk22 (n : Nat) (hn : n ≤ 1000) (W : World) : (Instr.makeSlice 22 (.int .i64 (n : Int)) (.int .i64 (n : Int))).run Tryd.prog W = .ok (.slice (some ⟨W.heap.size, 0, none⟩) n n) (W.alloc (.cells (zs n) 5)) := by
  obtain ⟨i, hi, hh⟩ := Option.map_eq_some_iff.1 info5
  simp only [Prod.mk.injEq] at hh
  obtain ⟨h1, h2, h3⟩ := hh
  have := run_makeSlice (P := Tryd.prog) W 22 5 i (.int .u8 0) Tryd.underlying22 hi h1 .i64 .i64 n n (by omega) (by omega) (by rw [h2]; omega) (by rw [h3]; omega) (by omega)
  rw [this, h2]
  rfl
theorem mk22_own (n : Nat) (hn : n ≤ 1000) (W : World) (base : Nat) (hb : base ≤ W.heap.size) : OwnB (W.alloc (.cells (zs n) 5)) base (.slice (some ⟨W.heap.size, 0, none⟩) n n) (List.replicate n 0) := by
  refine ⟨fun b hb => by rw [List.eq_of_mem_replicate hb]; decide, by rw [List.length_replicate]; omega, ?_⟩
  have h1 : (zs n).size = n := by rw [← Array.length_toList, zs_list]; simp
  have := World.ownsRow_lit W (zs n) n hb (by simp only [maxLen]; omega) (by rw [h1]; omega) (e := 5) (size := 1)
  rw [zs_list] at this
  rw [List.length_replicate]
  exact this

/-- The exclusive or of the first values. -/
def xf (f : Nat → Nat) : Nat → Nat
  | 0 => 0
  | k + 1 => xf f k ^^^ f k
/-- The places of the first k lists, by exclusive or. -/
def dx (n : Nat) (L : Nat → List Nat) (k : Nat) : List Nat := (List.range n).map fun j => xf (fun i => (L i)[j]?.getD 0) k
def rowsOf (V T S : Nat → Int) (A : Nat → Option Addr) (m c : Nat → Nat) : Array Value :=
  #[.int .i64 (V 0), .int .i64 (T 0), .int .i64 (S 0), .slice (A 0) (m 0) (c 0), .int .i64 (V 1), .int .i64 (T 1), .int .i64 (S 1), .slice (A 1) (m 1) (c 1), .int .i64 (V 2), .int .i64 (T 2), .int .i64 (S 2), .slice (A 2) (m 2) (c 2)]
theorem rows_at (V T S : Nat → Int) (A : Nat → Option Addr) (m c : Nat → Nat) (k : Nat) (hk : k < 3) :
    (rowsOf V T S A m c)[k * 4]? = some (.int .i64 (V k)) ∧ (rowsOf V T S A m c)[k * 4 + 1]? = some (.int .i64 (T k)) ∧ (rowsOf V T S A m c)[k * 4 + 2]? = some (.int .i64 (S k)) ∧ (rowsOf V T S A m c)[k * 4 + 3]? = some (.slice (A k) (m k) (c k)) := by
  obtain rfl | rfl | rfl : k = 0 ∨ k = 1 ∨ k = 2 := by omega
  all_goals exact ⟨rfl, rfl, rfl, rfl⟩
structure Inv1 (B n : Nat) (R : Array Value) (v t s : Nat → Nat) (L : Nat → List Nat) (w : World) (k : Nat) (W : World) : Prop where
  below : Below B w W
  rows : W.heap[B + 1 + 1 + 1 + 1]? = some (.cells R 24)
  want : W.heap[B + 1 + 1 + 1]? = some (.cells #[.int .i64 (xf v k : Nat), .int .i64 (xf t k : Nat), .int .i64 (xf s k : Nat), .slice (some ⟨B + 1 + 1, 0, none⟩) n n] 24)
  data : OwnB W B (.slice (some ⟨B + 1 + 1, 0, none⟩) n n) (dx n L k)
  arr : ∃ cs : Array Value, W.heap[B + 1]? = some (.cells cs 32) ∧ cs.size = 3 ∧ ∀ i, i < k → ∃ u, cs[i]? = some u ∧ OwnB W (B + 5) u (bytesOf (v i) (t i) (s i) (L i))
  size : B + 5 ≤ W.heap.size

theorem Inv1.later {B n : Nat} {R : Array Value} {v t s : Nat → Nat} {L : Nat → List Nat} {w : World} {k : Nat} {W W' : World} (h : Inv1 B n R v t s L w k W) (hb : Below W.heap.size W W') : Inv1 B n R v t s L w k W' := by
  have hs := h.size
  obtain ⟨cs, h1, h2, h3⟩ := h.arr
  refine ⟨h.below.trans (hb.mono (by omega)), (hb.block _ (by omega)).trans h.rows, (hb.block _ (by omega)).trans h.want, h.data.below hb (Nat.le_refl _), ⟨cs, (hb.block _ (by omega)).trans h1, h2, fun i hi => ?_⟩, Nat.le_trans hs hb.size⟩
  obtain ⟨u, hu, ho⟩ := h3 i hi
  exact ⟨u, hu, ho.below hb (Nat.le_refl _)⟩
theorem W1b0 (W : World) : Below W.heap.size W (W.alloc (.cells #[] 5)).drew := ((Below.refl _ W).alloc (Nat.le_refl _) _).drew
theorem store4 (W : World) (g B b1 n c gv : Nat) (l : List Nat) (x1 x2 x3 x4 y1 y2 y3 : Value) (h : W.heap[g]? = some (.cells #[x1, x2, x3, x4] 24)) (ho : OwnB W B (.slice (some ⟨gv, 0, none⟩) n c) l) (hg : g < B) (hb : b1 ≤ g) (hgW : g < W.heap.size) (W' : World)
    (hW' : W' = (((W.setCell ⟨g, 0, none⟩ y1).setCell ⟨g, 1, none⟩ y2).setCell ⟨g, 2, none⟩ y3).setCell ⟨g, 3, none⟩ (.slice (some ⟨gv, 0, none⟩) n c)) :
    OwnB W' b1 (.slice (some ⟨gv, 0, none⟩) n c) l ∧ W'.heap[g]? = some (.cells #[y1, y2, y3, .slice (some ⟨gv, 0, none⟩) n c] 24) ∧ Below b1 W W' := by
  subst hW'
  have ne : ∀ k, (Value.slice (some ⟨gv, 0, none⟩) n c).ownBlock = some k → k ≠ g := by
    intro k hk
    have := ho.lt k hk
    omega
  refine ⟨?_, setCell_heap (setCell_heap (setCell_heap (setCell_heap h))), ((((Below.refl b1 W).setCell hb _).setCell hb _).setCell hb _).setCell hb _⟩
  have ho := ho.mono (show b1 ≤ B by omega)
  exact ⟨ho.bytes, ho.len, ownsRow_setCell_other (ownsRow_setCell_other (ownsRow_setCell_other (ownsRow_setCell_other ho.own (fun e => ne _ e rfl) _) (fun e => ne _ e rfl) _) (fun e => ne _ e rfl) _) (fun e => ne _ e rfl) _⟩
theorem W1b1 (W : World) : Below W.heap.size W ((W.alloc (.cells #[] 5)).alloc (.cells #[.int .i64 0, .int .i64 0, .int .i64 0, .slice none 0 0] 24)).drew := (((Below.refl _ W).alloc (Nat.le_refl _) _).alloc (by simp) _).drew
theorem W1b2 (W : World) : Below W.heap.size W ((W.alloc (.cells #[.int .i64 0, .int .i64 0, .int .i64 0, .slice none 0 0] 24)).alloc (.cells #[] 5)).drew := (((Below.refl _ W).alloc (Nat.le_refl _) _).alloc (by simp) _).drew
theorem xf_lt (f : Nat → Nat) (N : Nat) : ∀ k, (∀ i, i < k → f i < 2 ^ N) → xf f k < 2 ^ N
  | 0, _ => Nat.two_pow_pos N
  | k + 1, h => Nat.xor_lt_two_pow (xf_lt f N k fun i hi => h i (by omega)) (h k (by omega))
theorem i64_xor8 (a b : Nat) (ha : a < 256) (hb : b < 256) : bits .xor .i64 a b = ((a ^^^ b : Nat) : Int) := bits_xor_nat .i64 8 (by decide) (fun n h0 h1 => by rw [IntKind.wrap_i64]; omega) a b ha hb
theorem xf_step (f : Nat → Nat) (k : Nat) (h : ∀ i, i < 3 → f i ≤ 255) (hk : k < 3) : bits .xor .i64 (xf f k : Nat) (f k : Nat) = ((xf f (k + 1) : Nat) : Int) :=
  i64_xor8 _ _ (xf_lt f 8 k fun i hi => by have := h i (by omega); omega) (by have := h k hk; omega)
theorem drew_grown (w : World) (g : Option Nat) : w.grownBy w.drew g := ⟨rfl, rfl, rfl, Nat.le_refl _, fun _ _ _ => rfl⟩
theorem HI1s {a b B : Nat} (h : a = b + 1) (h2 : B + 5 ≤ b) : B + 5 < a := by omega
theorem xf_succ (f : Nat → Nat) (k : Nat) : xf f (k + 1) = xf f k ^^^ f k := rfl
theorem xf_zero (f : Nat → Nat) : xf f 0 = 0 := rfl
/-- The j-th places of the lists. -/
def nth (L : Nat → List Nat) (j i : Nat) : Nat := (L i)[j]?.getD 0
def dm (n : Nat) (L : Nat → List Nat) (k j : Nat) : List Nat := (List.range n).map fun i => if i < j then xf (nth L i) (k + 1) else xf (nth L i) k
theorem dm_zero (n : Nat) (L : Nat → List Nat) (k : Nat) : dm n L k 0 = dx n L k := by
  unfold dm dx nth
  simp
theorem dm_full (n : Nat) (L : Nat → List Nat) (k : Nat) : dm n L k n = dx n L (k + 1) := by
  unfold dm dx
  refine List.map_congr_left fun i hi => ?_
  rw [if_pos (List.mem_range.1 hi)]
  rfl
theorem dm_len (n : Nat) (L : Nat → List Nat) (k j : Nat) : (dm n L k j).length = n := by simp [dm]
theorem dm_at (n : Nat) (L : Nat → List Nat) (k j : Nat) (hj : j < n) : (dm n L k j)[j]?.getD 0 = xf (nth L j) k := by simp [dm, hj]
theorem dm_set (n : Nat) (L : Nat → List Nat) (k j : Nat) (hj : j < n) : (dm n L k j).set j (xf (nth L j) (k + 1)) = dm n L k (j + 1) := by
  apply List.ext_getElem
  · simp [dm]
  · intro i h1 h2
    rw [List.getElem_set]
    simp only [dm, List.getElem_map, List.getElem_range]
    by_cases hij : j = i
    · subst hij
      simp
    · rw [if_neg hij]
      by_cases hlt : i < j
      · rw [if_pos hlt, if_pos (by omega)]
      · rw [if_neg hlt, if_neg (by omega)]
attribute [irreducible] xf dx dm nth
theorem OwnB.grownAt {W W' : World} {base g r n c : Nat} {l : List Nat} (h : OwnB W base (.slice (some ⟨g, 0, none⟩) n c) l) (hg : W.grownBy W' (some r)) (hne : ¬ g = r) : OwnB W' base (.slice (some ⟨g, 0, none⟩) n c) l :=
  ⟨h.bytes, h.len, h.own.kept (row := some r) hg (.inr fun e => hne (Option.some.inj e))⟩
theorem nth_eq (L : Nat → List Nat) (j i : Nat) : (L i)[j]?.getD 0 = nth L j i := by unfold nth; rfl
theorem xf_step8 (f : Nat → Nat) (k : Nat) (h : ∀ i, i < 3 → f i < 256) (hk : k < 3) : bits .xor .u8 (xf f k : Nat) (f k : Nat) = ((xf f (k + 1) : Nat) : Int) := by
  rw [xf_succ]
  exact u8_xor _ _ (xf_lt f 8 k fun i hi => h i (by omega)) (h k hk)
theorem OwnB.drew' {W : World} {base : Nat} {v : Value} {l : List Nat} (h : OwnB W base v l) : OwnB W.drew base v l := h.below ((Below.refl _ W).drew) (Nat.le_refl _)
theorem drew_own : True := trivial
theorem OwnB.grownAny {W W' : World} {base r : Nat} {u : Value} {l : List Nat} (h : OwnB W base u l) (hg : W.grownBy W' (some r)) (hr : r < base) : OwnB W' base u l := by
  refine ⟨h.bytes, h.len, h.own.kept (row := some r) hg ?_⟩
  cases hu : u.ownBlock with
  | none => exact .inl rfl
  | some k =>
    refine .inr fun e => ?_
    have := h.lt k hu
    have := Option.some.inj e
    omega
theorem Inv1.step {B n : Nat} {R : Array Value} {v t s : Nat → Nat} {L : Nat → List Nat} {w : World} {k : Nat} {W3 W4 W5 w6 : World} {u : Value} (h : Inv1 B n R v t s L w k W3) (hk : k < 3) (hg17 : W3.grownBy W4 (some (B + 1 + 1 + 1)))
    (hw17 : W4.heap[B + 1 + 1 + 1]? = some (.cells #[.int .i64 (xf v (k + 1) : Nat), .int .i64 (xf t (k + 1) : Nat), .int .i64 (xf s (k + 1) : Nat), .slice (some ⟨B + 1 + 1, 0, none⟩) n n] 24))
    (hgD : W4.grownBy W5 (some (B + 1 + 1))) (hD : OwnB W5 B (.slice (some ⟨B + 1 + 1, 0, none⟩) n n) (dx n L (k + 1))) (hb6 : Below W5.heap.size W5 w6) (ho6 : OwnB w6 W5.heap.size u (bytesOf (v k) (t k) (s k) (L k))) :
    (∃ x, w6.cell? ⟨B + 1, k, none⟩ = some x) ∧ w6.frozen? ⟨B + 1, k, none⟩ = false ∧ Inv1 B n R v t s L w (k + 1) (w6.setCell ⟨B + 1, k, none⟩ u) := by
  have hs3 := h.size
  have hs4 := hg17.size
  have hs5 := hgD.size
  have hs6 := hb6.size
  obtain ⟨cs, a1, a2, a3⟩ := h.arr
  have tr : ∀ q, q < W3.heap.size → q ≠ B + 1 + 1 + 1 → q ≠ B + 1 + 1 → w6.heap[q]? = W3.heap[q]? := fun q h1 h2 h3 =>
    (hb6.block q (by omega)).trans ((hgD.block q (by omega) (by simpa using h3)).trans (hg17.block q h1 (by simpa using h2)))
  have b1 : w6.heap[B + 1]? = some (.cells cs 32) := (tr _ (by omega) (by omega) (by omega)).trans a1
  have hoth : ∀ q, q ≠ B + 1 → (w6.setCell ⟨B + 1, k, none⟩ u).heap[q]? = w6.heap[q]? := fun q hq => Below.heap_setCell _ _ _ q hq
  have hown : ∀ {b : Nat} {x : Value} {l : List Nat}, B + 1 < b → OwnB w6 b x l → OwnB (w6.setCell ⟨B + 1, k, none⟩ u) b x l := fun hb ho => ho.grownAny (setCell_grown w6 (B + 1) k u) hb
  refine ⟨⟨cs[k]'(by omega), by simp [World.cell?, b1, a2, hk]⟩, by simp [World.frozen?, b1], ?_⟩
  refine ⟨?_, ?_, ?_, ?_, ⟨cs.setIfInBounds k u, setCell_heap b1, by simpa using a2, fun i hi => ?_⟩, ?_⟩
  · have e1 : Below B W3 W4 := below_of_grownAt hg17 (by omega) (by omega)
    have e2 : Below B W4 W5 := below_of_grownAt hgD (by omega) (by omega)
    exact (((h.below.trans e1).trans e2).trans (hb6.mono (by omega))).setCell (p := ⟨B + 1, k, none⟩) (by show B ≤ B + 1; omega) u
  · rw [hoth _ (by omega), tr _ (by omega) (by omega) (by omega)]
    exact h.rows
  · rw [hoth _ (by omega), hb6.block _ (by omega), hgD.block _ (by omega) (by simp)]
    exact hw17
  · have e1 := hD.below hb6 (Nat.le_refl _)
    exact e1.grownAt (setCell_grown w6 (B + 1) k u) (by omega)
  · by_cases hik : i = k
    · subst hik
      refine ⟨u, by simp [a2, hk], (hown (by omega) ho6).mono (by omega)⟩
    · obtain ⟨x, hx, ho⟩ := a3 i (by omega)
      refine ⟨x, by rw [Array.getElem?_setIfInBounds_ne (Ne.symm hik)]; exact hx, hown (by omega) ?_⟩
      exact ((ho.grownAny hg17 (by omega)).grownAny hgD (by omega)).below hb6 (Nat.le_refl _)
  · have : (w6.setCell ⟨B + 1, k, none⟩ u).heap.size = w6.heap.size := by simp [World.setCell]
    omega
theorem dx_zero (n : Nat) (L : Nat → List Nat) : dx n L 0 = List.replicate n 0 := by
  unfold dx
  apply List.ext_getElem
  · simp
  · intro i h1 h2
    simp [xf_zero]
theorem Inv1.start (w : World) (f : Obj) (n : Nat) (hn : n ≤ 64) (R : Array Value) (v t s : Nat → Nat) (L : Nat → List Nat) (W : World)
    (hW : W = ((((w.alloc f).alloc (.cells #[.slice none 0 0, .slice none 0 0, .slice none 0 0] 32)).alloc (.cells (zs n) 5)).alloc (.cells #[.int .i64 0, .int .i64 0, .int .i64 0, .slice (some ⟨w.heap.size + 1 + 1, 0, none⟩) n n] 24)).alloc (.cells R 24)) :
    Inv1 w.heap.size n R v t s L w 0 W := by
  subst hW
  have e1 : (w.alloc f).heap.size = w.heap.size + 1 := by simp
  have e2 : ∀ a, ((w.alloc f).alloc a).heap.size = w.heap.size + 1 + 1 := fun a => by simp
  have e3 : ∀ a b, (((w.alloc f).alloc a).alloc b).heap.size = w.heap.size + 1 + 1 + 1 := fun a b => by simp
  have e4 : ∀ a b c, ((((w.alloc f).alloc a).alloc b).alloc c).heap.size = w.heap.size + 1 + 1 + 1 + 1 := fun a b c => by simp
  refine ⟨?_, alloc_lastAt _ _ _ (e4 _ _ _), ?_, ?_, ⟨#[.slice none 0 0, .slice none 0 0, .slice none 0 0], ?_, rfl, fun i hi => by omega⟩, by simp⟩
  · exact (((((Below.refl _ _).alloc (Nat.le_refl _) _).alloc (by simp) _).alloc (by first | (simp; done) | (simp; omega)) _).alloc (by first | (simp; done) | (simp; omega)) _).alloc (by first | (simp; done) | (simp; omega)) _
  · rw [Below.heap_alloc _ _ _ (by simp), xf_zero, xf_zero, xf_zero]
    exact alloc_lastAt _ _ _ (e3 _ _)
  · rw [dx_zero]
    have h1 := mk22_own n (by omega) ((w.alloc f).alloc (.cells #[.slice none 0 0, .slice none 0 0, .slice none 0 0] 32)) w.heap.size (by first | (simp; done) | (simp; omega))
    rw [e2] at h1
    exact (h1.below ((Below.refl _ _).alloc (Nat.le_refl _) _) (Nat.le_refl _)).below ((Below.refl _ _).alloc (Nat.le_refl _) _) (Nat.le_refl _)
  · rw [Below.heap_alloc _ _ _ (by first | (simp; done) | (simp; omega)), Below.heap_alloc _ _ _ (by first | (simp; done) | (simp; omega)), Below.heap_alloc _ _ _ (by simp)]
    exact alloc_lastAt _ _ _ e1
def dz (N : Nat) (L : Nat → List Nat) (j : Nat) : List Nat := (List.range N).map fun i => if i < j then xf (nth L i) 3 else 0
theorem dz_zero (N : Nat) (L : Nat → List Nat) : dz N L 0 = List.replicate N 0 := by
  unfold dz
  apply List.ext_getElem
  · simp
  · intro i h1 h2
    simp
theorem dz_full (N : Nat) (L : Nat → List Nat) : dz N L N = dx N L 3 := by
  unfold dz dx
  refine List.map_congr_left fun i hi => ?_
  rw [if_pos (List.mem_range.1 hi)]
  unfold nth
  rfl
theorem dz_len (N : Nat) (L : Nat → List Nat) (j : Nat) : (dz N L j).length = N := by simp [dz]
theorem dz_set (N : Nat) (L : Nat → List Nat) (j : Nat) (hj : j < N) : (dz N L j).set j (xf (nth L j) 3) = dz N L (j + 1) := by
  apply List.ext_getElem
  · simp [dz]
  · intro i h1 h2
    rw [List.getElem_set]
    simp only [dz, List.getElem_map, List.getElem_range]
    by_cases hij : j = i
    · subst hij
      simp
    · rw [if_neg hij]
      by_cases hlt : i < j
      · rw [if_pos hlt, if_pos (by omega)]
      · rw [if_neg hlt, if_neg (by omega)]
attribute [irreducible] dz
theorem xf_three (f : Nat → Nat) : xf f 3 = (f 0 ^^^ f 1) ^^^ f 2 := by rw [xf_succ, xf_succ, xf_succ, xf_zero, Nat.zero_xor]
theorem dx_len (n : Nat) (L : Nat → List Nat) (k : Nat) : (dx n L k).length = n := by
  unfold dx
  simp
theorem Tab0.below {w w' : World} {B : Nat} (h : Tab0 w) (hb : Below B w w') (hB : w.heap.size ≤ B) : Tab0 w' := fun i hi => by
  have := World.block_lt_of_cell? _ _ (h i hi)
  exact (hb.cell (p := ⟨0, i, none⟩) (by simp at this ⊢; omega)).trans (h i hi)
theorem run_min4 (x y z u : Int) (n : Nat) (h : min (min (min x y) z) u = (n : Int)) (W : World) :
    (Builtin.min_ #[3, 3, 3, 3] 3 #[.int .i64 x, .int .i64 y, .int .i64 z, .int .i64 u]).run Tryd.prog W = .ok (.int .i64 (n : Int)) W := by
  simp [Builtin.min_, Builtin.min2]
  omega

end Go.Proofs.YtbgnkekiephfeaaDoor
