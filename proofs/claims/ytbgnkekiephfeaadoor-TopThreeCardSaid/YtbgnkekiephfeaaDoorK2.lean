/-
  The steps of a plan (a region that draws its order, walked in one order): one lemma a kind.
-/
import Derived.Test.YtbgnkekiephfeaaDoorK0
import Derived.Test.YtbgnkekiephfeaaDoorK1
namespace Go.Proofs.YtbgnkekiephfeaaDoor
open Go.RowKit

/-- What only reads, and reads alike in whatever world holds the old blocks as they lay. -/
def RdS {α : Type} (P : Program) (e : Sem α) : Prop := ∀ w v w1, e.run P w = .ok v w1 → w1 = w ∧ ∀ w', Ext w w' → e.run P w' = .ok v w'

section
variable {P : Program}
theorem RdS.pure {α : Type} (x : α) : RdS P (pure x : Sem α) := by
  intro w v w1 h
  simp only [Sem.run_pure, Result.ok.injEq] at h ⊢
  obtain ⟨rfl, rfl⟩ := h
  exact ⟨rfl, fun _ _ => ⟨rfl, trivial⟩⟩
theorem RdS.bind {α β : Type} {e : Sem α} {f : α → Sem β} (he : RdS P e) (hf : ∀ x, RdS P (f x)) : RdS P (e >>= f) := by
  intro w v w1 h
  simp only [Sem.run_bind] at h ⊢
  cases hr : e.run P w with
  | ok x w2 =>
    rw [hr] at h
    obtain ⟨rfl, h2⟩ := he w x w2 hr
    simp only [Result.andThen_ok] at h
    obtain ⟨rfl, h3⟩ := hf x w2 v w1 h
    refine ⟨rfl, fun w' hw' => ?_⟩
    rw [h2 w' hw', Result.andThen_ok]
    exact h3 w' hw'
  | halt x w2 => rw [hr] at h; cases h

theorem seen_ext {w w' : World} (he : Ext w w') {at_ k : Addr} {u : TypeId} {b : Bool} {r} (h : w.seen P at_ u k b = .ok r) : w'.seen P at_ u k b = .ok r := by
  by_cases hb : at_.block < w.heap.size
  · unfold World.seen at *
    rw [he _ hb]
    exact h
  · exfalso
    have hn : w.heap[at_.block]? = none := Array.getElem?_eq_none (by omega)
    unfold World.seen at h
    rw [hn] at h
    revert h
    simp only [bind, Except.bind, pure, Except.pure, throw, throwThe, MonadExceptOf.throw]
    repeat' (first | (intro h; cases h; done) | split)
theorem RdS.load (m : Mode) (a : Addr) : RdS P (Sem.load m a .pure) := by
  intro w v w1 h
  simp only [Sem.run] at h ⊢
  cases hc : w.cell? a with
  | some x =>
    rw [hc] at h
    simp only [Result.ok.injEq] at h
    obtain ⟨rfl, rfl⟩ := h
    refine ⟨rfl, fun w' hw' => ?_⟩
    have hlt := World.block_lt_of_cell? _ _ hc
    have : w'.cell? a = some x := (World.cell?_of_block (w := w) (hw' _ hlt)).trans hc
    rw [this]
  | none =>
    rw [hc] at h
    cases hf : w.farLoad P a (m == .atomic) with
    | error e => rw [hf] at h; cases h
    | ok r =>
      rw [hf] at h
      obtain ⟨x, ts⟩ := r
      simp only [Result.ok.injEq] at h
      obtain ⟨rfl, rfl⟩ := h
      refine ⟨rfl, fun w' hw' => ?_⟩
      unfold World.farLoad at hf
      split at hf
      · rename_i at_ u hb
        have hlt := (Array.getElem?_eq_some_iff.1 hb).1
        have hb' : w'.heap[a.block]? = some (.view at_ u) := (hw' _ hlt).trans hb
        have hc' : w'.cell? a = none := (World.cell?_of_block (w := w) (hw' _ hlt)).trans hc
        cases hv : w.viewLoad P at_ u a (m == .atomic) with
        | error e => rw [hv] at hf; cases hf
        | ok r =>
          rw [hv] at hf
          have hv' : w'.viewLoad P at_ u a (m == .atomic) = .ok r := by
            unfold World.viewLoad at hv ⊢
            cases hs : w.seen P at_ u a (m == .atomic) with
            | error e => rw [hs] at hv; cases hv
            | ok s => rw [seen_ext hw' hs]; rw [hs] at hv; exact hv
          rw [hc']
          unfold World.farLoad
          simp only [hb', hv']
          simp only at hf
          cases hf
          rfl
      · cases hf

theorem RdS.program {α : Type} {f : Program → Sem α} (h : RdS P (f P)) : RdS P (Sem.program f) := fun w v w1 hr => h w v w1 hr
theorem RdS.cells (a : Addr) : ∀ (n i : Nat) (acc : Array Value), RdS P (loadCellsFrom a i n acc)
  | 0, i, acc => RdS.pure acc
  | n + 1, i, acc => RdS.bind (RdS.load _ _) fun _ => RdS.cells a n _ _
theorem RdS.noHalt {α : Type} {e : Sem α} (h : ∀ w v w1, e.run P w ≠ .ok v w1) : RdS P e := fun w v w1 hr => absurd hr (h w v w1)
theorem RdS.underlying (t : TypeId) : RdS P (underlying t) := by
  refine RdS.program (f := fun p => (match p.underlying t with | some d => Pure.pure d | none => stuck "no such type" : Sem TypeDesc)) ?_
  cases P.underlying t with
  | some d => exact RdS.pure d
  | none => exact RdS.noHalt fun w v w1 h => by simp [stuck, Sem.run] at h
theorem RdS.sizeOf (t : TypeId) : RdS P (sizeOf t) := by
  unfold Go.sizeOf
  refine RdS.bind ?_ fun _ => RdS.pure _
  unfold typeInfo
  refine RdS.program (f := fun p => (match p.info? t with | some i => Pure.pure i | none => stuck "no such type" : Sem TypeInfo)) ?_
  cases P.info? t with
  | some d => exact RdS.pure d
  | none => exact RdS.noHalt fun w v w1 h => by simp [stuck, Sem.run] at h
theorem RdS.loadVar (t : TypeId) (a : Addr) : RdS P (loadVar t a) := by
  unfold Go.loadVar
  refine RdS.bind ?_ fun b => ?_
  · unfold isAgg
    refine RdS.bind (RdS.underlying t) fun d => ?_
    split <;> exact RdS.pure _
  · split
    · exact RdS.bind (RdS.sizeOf t) fun n => RdS.bind (RdS.cells a n 0 #[]) fun _ => RdS.pure _
    · exact RdS.load _ _
theorem RdS.loadAt (t : TypeId) (x : Value) : RdS P (Instr.loadAt t x) := by
  unfold Instr.loadAt
  refine RdS.bind ?_ fun a => RdS.loadVar t a
  unfold Instr.sureAddr
  split
  · exact RdS.pure _
  · exact RdS.noHalt fun w v w1 h => by simp [stuck, Sem.run] at h
theorem RdS.execLoad {o : Oper} {t : TypeId} {x : Operand} (ho : o.op = .load t x) (ρ : Operand → Value) : RdS P (execOp ρ o) := by
  unfold execOp
  rw [ho]
  exact RdS.bind (RdS.loadAt _ _) fun _ => RdS.pure _

variable {ops : Array Oper} {Q : Exit → Act → World → Prop} {i : Nat} {o : Oper} {rest : List (Nat × Cls)} {a : Act} {w : World}
theorem plan_nil (h : Q .normal a w) : wpPlan P ops Q [] a w := h
theorem plan_L (ho : ops[i]? = some o) (h : ∀ K : Act → Prop, (∀ a', wpPlan P ops Q rest a' w → K a') →
    if Region.wanted o (yielded ops a.tmps) = true then ∃ v, (∀ w', (execOp a.eval o).run P w' = .ok (.value v) w') ∧ K (a.put o.dst v) else K (a.put o.dst undef)) : wpPlan P ops Q ((i, .L) :: rest) a w := by
  have h := h _ (fun _ h => h)
  refine ⟨o, ho, ?_⟩
  split at h
  · rename_i hw; exact .inr ⟨hw, h⟩
  · rename_i hw; exact .inl ⟨by simpa using hw, h⟩
theorem plan_R {t : TypeId} {x : Operand} (ho : ops[i]? = some o) (hop : o.op = .load t x) (h : ∀ K : Act → Prop, (∀ a', wpPlan P ops Q rest a' w → K a') →
    if Region.wanted o (yielded ops a.tmps) = true then ∃ v, (execOp a.eval o).run P w = .ok (.value v) w ∧ K (a.put o.dst v) else K (a.put o.dst undef)) : wpPlan P ops Q ((i, .R) :: rest) a w := by
  have h := h _ (fun _ h => h)
  refine ⟨o, ho, ?_⟩
  split at h
  · rename_i hw
    obtain ⟨v, hv, h⟩ := h
    exact .inr ⟨hw, v, (RdS.execLoad hop a.eval w _ _ hv).2, h⟩
  · rename_i hw; exact .inl ⟨by simpa using hw, h⟩
/-- Another operation that only reads. -/
theorem plan_R' (ho : ops[i]? = some o) (h : ∀ K : Act → Prop, (∀ a', wpPlan P ops Q rest a' w → K a') →
    if Region.wanted o (yielded ops a.tmps) = true then ∃ v, (∀ w', Ext w w' → (execOp a.eval o).run P w' = .ok (.value v) w') ∧ K (a.put o.dst v) else K (a.put o.dst undef)) : wpPlan P ops Q ((i, .R) :: rest) a w := by
  have h := h _ (fun _ h => h)
  refine ⟨o, ho, ?_⟩
  split at h
  · rename_i hw; exact .inr ⟨hw, h⟩
  · rename_i hw; exact .inl ⟨by simpa using hw, h⟩
theorem plan_A (ho : ops[i]? = some o) (h : ∀ K : Act → World → Prop, (∀ a' w', wpPlan P ops Q rest a' w' → K a' w') →
    if Region.wanted o (yielded ops a.tmps) = true then o.wp P a w (fun a' w' => Ext w w' ∧ K a' w') (noPanic Q) else K (a.put o.dst undef) w) : wpPlan P ops Q ((i, .A) :: rest) a w := by
  have h := h _ (fun _ _ h => h)
  refine ⟨o, ho, ?_⟩
  split at h
  · rename_i hw; exact .inr ⟨hw, h⟩
  · rename_i hw; exact .inl ⟨by simpa using hw, h⟩
theorem plan_W (ho : ops[i]? = some o) (h : ∀ K : Act → World → Prop, (∀ a' w', wpPlan P ops Q rest a' w' → K a' w') →
    if Region.wanted o (yielded ops a.tmps) = true then o.wp P a w K (noPanic Q) else K (a.put o.dst undef) w) : wpPlan P ops Q ((i, .W) :: rest) a w := by
  have h := h _ (fun _ _ h => h)
  refine ⟨o, ho, ?_⟩
  split at h
  · rename_i hw; exact .inr ⟨hw, h⟩
  · rename_i hw; exact .inl ⟨by simpa using hw, h⟩
/-- .. of an operation that no guard bars: met by a law of its own. -/
theorem plan_W0 (ho : ops[i]? = some o) (hg : o.guard = none) (h : ∀ K : Act → World → Prop, (∀ a' w', wpPlan P ops Q rest a' w' → K a' w') → o.wp P a w K (noPanic Q)) : wpPlan P ops Q ((i, .W) :: rest) a w :=
  plan_W ho fun K hK => by rw [if_pos (by simp [Region.wanted, hg])]; exact h K hK
theorem plan_A0 (ho : ops[i]? = some o) (hg : o.guard = none) (h : ∀ K : Act → World → Prop, (∀ a' w', wpPlan P ops Q rest a' w' → K a' w') → o.wp P a w (fun a' w' => Ext w w' ∧ K a' w') (noPanic Q)) : wpPlan P ops Q ((i, .A) :: rest) a w :=
  plan_A ho fun K hK => by rw [if_pos (by simp [Region.wanted, hg])]; exact h K hK
end
end Go.Proofs.YtbgnkekiephfeaaDoor
