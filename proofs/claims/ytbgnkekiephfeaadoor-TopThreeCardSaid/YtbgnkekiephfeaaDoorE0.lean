/-
  append onto an empty slice without room.
-/
import Derived.Test.YtbgnkekiephfeaaDoorA3
import Derived.Test.YtbgnkekiephfeaaDoorK5
import Derived.ArgAppend
namespace Go.Proofs.YtbgnkekiephfeaaDoor
open Go.RowKit

theorem wp_append_fresh {o : Oper} {a : Act} {K : Act → World → Prop} {Q : Exit → Act → World → Prop} (s x : Operand)
    (ho : o.op = .call { callee := .builtin .append, args := #[s, x], argTypes := #[22, 22] }) (g : Nat) (w : World) (u : Value) (l : List Nat)
    (hs : a.eval s = .slice (some ⟨g, 0, none⟩) 0 0) (hx : a.eval x = u) (h : RdB w u l) (hp : 0 < l.length)
    (hK : ∀ v' w', OwnB w' w.heap.size v' l → Below w.heap.size w w' → K (a.put o.dst v') w') : o.wp Tryd.prog a w K Q := by
  obtain ⟨hl, hone, A, c, rfl, hA⟩ := h.src
  obtain ⟨ad, rfl, hc⟩ := hA hp
  obtain ⟨i, hi, hh⟩ := Option.map_eq_some_iff.1 info5
  simp only [Prod.mk.injEq] at hh
  obtain ⟨h1, h2, h3⟩ := hh
  have hlen := h.len
  obtain ⟨v', w', hr, ho', hg⟩ := run_append_arg_grows (P := Tryd.prog) w 22 o.type 5 i (.int .u8 0) 1 1 Tryd.underlying22 hi h1 h2 h3 rfl (by decide) ⟨g, 0, none⟩ 0 0 [] (by simp) (by simp) ad l.length c (l.map vb) hl hc (by omega)
    (by simp only [maxLen]; omega) (by omega)
  unfold Oper.wp execOp
  simp only [ho, resolve, invoke, builtin, Sem.run_bind, Sem.run_pure, Result.andThen_ok, List.map_toArray, List.map_cons, List.map_nil, hs, hx, hr]
  exact hK v' w' ⟨h.bytes, h.len, by simpa using ho'⟩ ⟨hg.os, hg.tape, hg.output, hg.size, fun k hk => hg.block k hk (by simp)⟩
end Go.Proofs.YtbgnkekiephfeaaDoor
