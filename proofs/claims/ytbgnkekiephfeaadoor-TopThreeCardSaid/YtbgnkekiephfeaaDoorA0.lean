/-
  Words for the walks: a slice of bytes that reads as a list, in memory that came in or in memory of the call's own.
-/
import Derived.Test.YtbgnkekiephfeaaDoorRows
import Derived.WalkKit
import Derived.WalkSpells
import Derived.WalkLawsBesides
import Derived.Deep.LoopGhost
import Derived.Lib.Hide
namespace Go.Proofs.YtbgnkekiephfeaaDoor
open Go.RowKit

theorem info5 : (Tryd.prog.info? 5).map (fun i => (i.zero, i.size, i.bytes)) = some (some (.int .u8 0), 1, 1) := by kernel_rfl

def vb (n : Nat) : Value := .int .u8 (n : Int)
/-- A slice that reads as these bytes. -/
structure RdB (w : World) (v : Value) (l : List Nat) : Prop where
  bytes : ∀ b ∈ l, b < 256
  len : l.length ≤ 140737488355328
  form : ∃ A c, v = .slice A l.length c ∧ l.length ≤ c ∧ c ≤ 9223372036854775807 ∧ (0 < l.length → ∃ g o, A = some ⟨g, o, none⟩ ∧ ∀ i, i < l.length → w.cell? ⟨g, o + i, none⟩ = some (.int .u8 ((l[i]?.getD 0 : Nat) : Int)))

theorem getD_lt {l : List Nat} (h : ∀ b ∈ l, b < 256) (i : Nat) : l[i]?.getD 0 < 256 := by
  by_cases hi : i < l.length
  · rw [List.getElem?_eq_getElem hi]; exact h _ (List.getElem_mem hi)
  · rw [List.getElem?_eq_none (by omega)]; decide

theorem RdB.below {w w' : World} {v : Value} {l : List Nat} (h : RdB w v l) {B : Nat} (hb : Below B w w') (hB : w.heap.size ≤ B) : RdB w' v l := by
  obtain ⟨A, c, hv, h1, h2, hc⟩ := h.form
  refine ⟨h.bytes, h.len, A, c, hv, h1, h2, fun hp => ?_⟩
  obtain ⟨g, o, hA, hc⟩ := hc hp
  refine ⟨g, o, hA, fun i hi => ?_⟩
  have := World.block_lt_of_cell? _ _ (hc i hi)
  exact (hb.cell (p := ⟨g, o + i, none⟩) (by simp at this ⊢; omega)).trans (hc i hi)

/-- A slice of bytes of the call's own. -/
structure OwnB (w : World) (base : Nat) (v : Value) (l : List Nat) : Prop where
  bytes : ∀ b ∈ l, b < 256
  len : l.length ≤ 140737488355328
  own : w.ownsRow base 5 1 v l.length (l.map vb)

theorem OwnB.rd {w : World} {base : Nat} {v : Value} {l : List Nat} (h : OwnB w base v l) : RdB w v l := by
  have ho := h.own
  rcases ho.2 with ⟨rfl, hn⟩ | ⟨g, cap, cur, rfl, hb, hh, hnc, hcm, _⟩
  · have hl0 : l.length = 0 := by simpa using hn
    exact ⟨h.bytes, h.len, none, 0, by rw [hl0], by omega, by omega, fun hp => by omega⟩
  · refine ⟨h.bytes, h.len, _, cap, rfl, hnc, by simp only [maxLen] at hcm; omega, fun _ => ⟨g, 0, rfl, fun i hi => ?_⟩⟩
    have := ho.cellAt i (by omega)
    rw [Nat.zero_add, this, List.getElem?_map, List.getElem?_eq_getElem hi]
    rfl

theorem OwnB.below {w w' : World} {base : Nat} {v : Value} {l : List Nat} (h : OwnB w base v l) {B : Nat} (hb : Below B w w') (hB : w.heap.size ≤ B) : OwnB w' base v l :=
  ⟨h.bytes, h.len, h.own.kept (row := none) ⟨hb.os, hb.tape, hb.output, hb.size, fun i hi _ => hb.block i (by omega)⟩ (by cases v.ownBlock <;> simp)⟩

theorem OwnB.mono {w : World} {base base' : Nat} {v : Value} {l : List Nat} (h : OwnB w base v l) (hB : base' ≤ base) : OwnB w base' v l := by
  refine ⟨h.bytes, h.len, h.own.1, ?_⟩
  rcases h.own.2 with h2 | ⟨g, cap, cur, hv, hg, r⟩
  · exact .inl h2
  · exact .inr ⟨g, cap, cur, hv, by omega, r⟩

theorem bcell {W w1 : World} (hb : Below W.heap.size W w1) : (∀ b o, b < W.heap.size → w1.cell? ⟨b, o, none⟩ = W.cell? ⟨b, o, none⟩) ∧ (∀ b o, b < W.heap.size → w1.frozen? ⟨b, o, none⟩ = W.frozen? ⟨b, o, none⟩) :=
  ⟨fun b o h => hb.cell (p := ⟨b, o, none⟩) h, fun b o h => hb.frozen (p := ⟨b, o, none⟩) h⟩
end Go.Proofs.YtbgnkekiephfeaaDoor
