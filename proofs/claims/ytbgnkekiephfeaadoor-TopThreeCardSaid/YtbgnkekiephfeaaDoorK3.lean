/-
  A range over a function whose iterator writes variables of its own (in cells), and whose loop body never leaves early; under the widest fence; over any program.
-/
import Derived.RangeFuncNested
import Derived.RangeFuncBound
import Derived.RangeFuncCalls
import Derived.RangeFuncLeaves
import Derived.WalkKit
import Derived.OwnWalkIn
import Derived.TacticsInMore
import Derived.LoopNIn
import Derived.LoopIn
namespace Go.Proofs.YtbgnkekiephfeaaDoor
open Go.RowKit

/-- What abides a change of a block, from B on, that holds no cells, and new blocks. -/
def Bears (B : Nat) {β : Type} (I : β → World → Prop) : Prop :=
  ∀ s W W' row, I s W → W.grownBy W' row → (∀ r, row = some r → B ≤ r ∧ ∃ o : Obj, W.heap[r]? = some o ∧ o.isCells = false) → I s W'
/-- What abides a store into cells of the iterator's. -/
def BearsCells (mine : Nat → Prop) {β : Type} (I : β → World → Prop) : Prop :=
  ∀ s (W : World) b o v, mine b → I s W → I s (W.setCell ⟨b, o, none⟩ v)
/-- THE CONTRACT OF AN ITERATOR that writes cells of its own ('mine'). -/
def Iter {α : Type} (P : Program) (g : Nat) (lb : Array Value) (ok : α → Prop) (enc : α → Value) (mine keep : Nat → Prop) (S : List α → Prop) (w : World) : Prop :=
  ∀ (l : Nat) (J : List α → World → Prop) (W : World), Below w.heap.size w W → Bears W.heap.size J → BearsCells mine J →
    (∀ pre x W1, ok x → J pre W1 → YieldAt Fence.wide 0 P l #[enc x] W1 fun e W' => e = .returned (.bool true) ∧ J (pre ++ [x]) W' ∧ (∀ b, keep b → W'.heap[b]? = W1.heap[b]?)) →
    J [] W →
    CallsIn Fence.wide 0 P g (#[.func (.yield l) #[] #[]] ++ lb) W fun e W' => (∃ v, e = .returned v) ∧ ∃ xs, S xs ∧ J xs W'

theorem Bears.put {β : Type} {B : Nat} {I : β → World → Prop} (h : Bears B I) {s : β} {W : World} {l : Nat} {o o' : Obj} (hi : I s W) (hB : B ≤ l) (hl : W.heap[l]? = some o) (hc : o.isCells = false) : I s (W.putObj l o') :=
  h s W _ (some l) hi (grownBy_putObj' W l o') fun r e => by cases e; exact ⟨hB, o, hl, hc⟩
theorem Bears.alloc {β : Type} {B : Nat} {I : β → World → Prop} (h : Bears B I) {s : β} {W : World} (hi : I s W) (o : Obj) : I s (W.alloc o) :=
  h s W _ none hi (World.grownBy_alloc W o none) fun r e => by cases e

/-- HOW A ROUND's BODY IS LEFT: off its end alone. -/
def bodyEnd (l : Nat) (keep : Nat → Prop) (I : World → Prop) (W : World) : Exit → Act → World → Prop
  | .normal, _, W' => W'.heap[l]? = W.heap[l]? ∧ W'.heap[l - 1]? = W.heap[l - 1]? ∧ (∀ b, keep b → W'.heap[b]? = W.heap[b]?) ∧ I W'
  | _, _, _ => False

variable {P : Program}
theorem range_iter {α : Type} {g : Operand} {ps : Array Tmp} {assign body : Code} {Q : Exit → Act → World → Prop} {a : Act} {w : World}
    {gf : Nat} {lb : Array Value} (hg : a.eval g = .func (.func gf) #[] lb) (eg : ∀ args w, (callFunc gf args).run P w = .ok (.enter gf args) w)
    {ok : α → Prop} {enc : α → Value} {mine keep : Nat → Prop} {S : List α → Prop} {w0 : World} (hseq : Iter P gf lb ok enc mine keep S w0) (hmine : ∀ b, mine b → b < w.heap.size) (hkeep : ∀ b, keep b → b < w.heap.size) (hb0 : Below w0.heap.size w0 w) (hps : ps.size = 1)
    (I : List α → World → Prop) (hI : Bears w.heap.size I) (hIm : BearsCells mine I) (h0 : I [] w) (a₁ : α → Act)
    (hassign : ∀ (l : Nat) (x : α) (W : World) (K : Act → World → Prop), K (a₁ x) W →
      assign.wpIn (Fence.wide.inRound l) 0 P (Exit.then K (fun _ _ _ => False)) { tmps := (ps.zip #[enc x]).foldl (fun t (p, v) => t.setIfInBounds p v) a.tmps, defers := [] } W)
    (hbody : ∀ (pre : List α) (x : α) (W : World), ok x → I pre W → body.wpIn (Fence.wide.inRound (w.heap.size + 1)) 0 P (bodyEnd (w.heap.size + 1) keep (I (pre ++ [x])) W) (a₁ x) W)
    (hdone : ∀ (xs : List α) (W : World), S xs → I xs W → W.heap[w.heap.size]? = some (.deferred (some [])) → Q .normal { a with defers := { target := .collected w.heap.size, args := #[] } :: a.defers } W) :
    (Code.rangeFunc g ps assign body).wpIn Fence.wide 0 P Q a w := by
  refine wpIn_rangeFunc ?_
  intro fn hfn
  obtain ⟨rec, hrec⟩ : ∃ rec : LoopState → Loop, rec = fun st => { state := st, pending := none, fn, tmps := a.tmps, params := ps, assign, body, defers := w.heap.size } := ⟨_, rfl⟩
  obtain ⟨W1, hW1⟩ : ∃ W1, (w.alloc (.deferred (some []))).alloc (.loop (rec .ready)) = W1 := ⟨_, rfl⟩
  have hL1 : W1.heap[w.heap.size + 1]? = some (.loop (rec .ready)) := by
    rw [← hW1]
    have := World.alloc_heap_new (w.alloc (.deferred (some []))) (.loop (rec .ready))
    rwa [World.size_alloc] at this
  have hK1 : W1.heap[w.heap.size]? = some (.deferred (some [])) := by
    rw [← hW1]; exact (Below.heap_alloc _ _ _ (by simp)).trans (World.alloc_heap_new w _)
  have hI1 : I [] W1 := by rw [← hW1]; exact hI.alloc (hI.alloc h0 _) _
  have hB1 : Below w.heap.size w W1 := by rw [← hW1]; exact ((Below.refl _ w).alloc (Nat.le_refl _) _).alloc (by simp) _
  have hsz : W1.heap.size = w.heap.size + 2 := by rw [← hW1]; simp
  refine ⟨w.heap.size + 1, [{ target := .collected w.heap.size, args := #[] }], W1, { target := .fn (.func gf) lb, args := #[.func (.yield (w.heap.size + 1)) #[] #[]] }, W1, gf,
    #[.func (.yield (w.heap.size + 1)) #[] #[]] ++ lb, W1, ?_, ?_, fun f' _ => trivial, ?_, (fun h => absurd h (by simp [Fence.wide])), ?_⟩
  · rw [← hW1, hrec]; exact run_enterLoop_outer _ _ _ _ _
  · simp only [resolve, hg]
    simp [go_sem]
  · simp [invoke, go_sem, eg]
  · refine (hseq (w.heap.size + 1) (fun pre W => I pre W ∧ W.heap[w.heap.size + 1]? = some (.loop (rec .ready)) ∧ W.heap[w.heap.size]? = some (.deferred (some []))) W1 (hb0.trans (hB1.mono hb0.size)) ?_ ?_ ?_ ⟨hI1, hL1, hK1⟩).mono ?_
    · intro s A B row hs hgr hr
      have old : ∀ k, k < W1.heap.size → A.heap[k]? ≠ none → B.heap[k]? = A.heap[k]? := fun k hk hne => hgr.block k (by
        rcases Nat.lt_or_ge k A.heap.size with h | h
        · exact h
        · exact absurd (Array.getElem?_eq_none h) hne) (fun e => by have := (hr k e.symm).1; omega)
      refine ⟨hI s A B row hs.1 hgr (fun r e => ⟨by have := (hr r e).1; omega, (hr r e).2⟩), ?_, ?_⟩
      · rw [old _ (by omega) (by rw [hs.2.1]; simp)]; exact hs.2.1
      · rw [old _ (by omega) (by rw [hs.2.2]; simp)]; exact hs.2.2
    · intro s A b o v hb hs
      have hlt := hmine b hb
      refine ⟨hIm s A b o v hb hs.1, ?_, ?_⟩
      · rw [Below.heap_setCell A ⟨b, o, none⟩ v _ (by simp; omega)]; exact hs.2.1
      · rw [Below.heap_setCell A ⟨b, o, none⟩ v _ (by simp; omega)]; exact hs.2.2
    · rintro pre x W hok ⟨hi, hl, hk⟩
      have hlt : w.heap.size + 1 < W.heap.size := (Array.getElem?_eq_some_iff.1 hl).1
      have hy := run_yield (P := P) (args := #[enc x]) hl (by rw [hrec]; simp [hps])
      rw [hrec] at hy
      refine ⟨fn, _, assign, body, hy, roundIn_of_wpIn hfn (hassign _ x W _ ⟨_, run_beginRound hl (by rw [hrec]), ?_⟩)⟩
      have hl2 : (W.putObj (w.heap.size + 1) (.loop { rec .ready with state := .busy })).heap[w.heap.size + 1]? = some (.loop { rec .ready with state := .busy }) := World.putObj_heap_same hlt
      have other : ∀ (X : World) (o : Obj) (b : Nat), b ≠ w.heap.size + 1 → (X.putObj (w.heap.size + 1) o).heap[b]? = X.heap[b]? := fun X o b hb => World.putObj_heap_other (by omega)
      refine wpIn_mono (hbody pre x _ hok (hI.put hi (by omega) hl rfl)) ?_
      rintro e a3 W3 hp
      cases e with
      | normal =>
        obtain ⟨h1, h2, h3, h4⟩ := hp
        rw [hl2] at h1
        have h5 := run_endRound (P := P) none h1
        refine ⟨_, _, h5, rfl, ⟨hI.put h4 (by omega) h1 rfl, ?_, ?_⟩, fun b hb => ?_⟩
        · rw [World.putObj_heap_same (Array.getElem?_eq_some_iff.1 h1).1, hrec]; rfl
        · rw [other _ _ _ (by omega)]
          rw [show w.heap.size + 1 - 1 = w.heap.size by omega] at h2
          rw [h2, other _ _ _ (by omega)]
          exact hk
        · have := hkeep b hb
          rw [other _ _ _ (by omega), h3 b hb, other _ _ _ (by omega)]
      | ret => exact hp.elim
      | exit id => exact hp.elim
      | goto t => exact hp.elim
      | panic ch => exact hp.elim
      | outgrown => exact hp.elim
    · rintro e W2 ⟨⟨v, rfl⟩, xs, hS, hi, hl, hk⟩
      have h5 := run_endLoop (P := P) hl (by rw [hrec]; simp)
      rw [show (rec .ready).pending = none by rw [hrec]] at h5
      refine ⟨none, _, h5, hdone xs _ hS (hI.put hi (by omega) hl rfl) ?_⟩
      rw [World.putObj_heap_other (by omega)]
      exact hk
end Go.Proofs.YtbgnkekiephfeaaDoor
