/-
  The tied card of the law TopThree.
-/
import Derived.Test.YtbgnkekiephfeaaDoorG1
namespace Go.Proofs.YtbgnkekiephfeaaDoor
open Go

set_option maxRecDepth 100000 in
theorem card : Rows.TopThreeCardSaid :=
  Claim7.holds_tied_plain_at .later [] [.data] true (true, "ead3b215875145a9b63912a550f05e0502bd1c207238dd53f96710cfddd69d44") false
    over (fun _ h => by cases h) (by kernel_rfl) (fun _ h => by cases h) topThree_row_tie rfl ⟨rfl, rfl⟩ (by kernel_rfl) rfl
    (fun f fn hf hfn => by
      obtain rfl : f = 3 := Option.some.inj ((show Tryd.prog.funcNamed "nacelle/nacelletop.TopThree" = some 3 by kernel_rfl).symm.trans hf) |>.symm
      obtain rfl : fn = Tryd.f3 := (Option.some.inj (Tryd.func3.symm.trans hfn)).symm
      exact ⟨by kernel_rfl, fun j t ht => by
        rw [Tryd.params3] at ht
        have h3 : t = 24 ∨ t = 25 ∨ t = 26 := by
          rcases j with _ | _ | _ | _ | _ | j
          · exact .inl (by simpa using ht.symm)
          · exact .inl (by simpa using ht.symm)
          · exact .inl (by simpa using ht.symm)
          · exact .inr (.inl (by simpa using ht.symm))
          · exact .inr (.inr (by simpa using ht.symm))
          · simp at ht
        rcases h3 with rfl | rfl | rfl
        · exact (show Tryd.prog.wantsStandIn 24 = false by kernel_rfl)
        · exact (show Tryd.prog.wantsStandIn 25 = false by kernel_rfl)
        · exact (show Tryd.prog.wantsStandIn 26 = false by kernel_rfl)⟩)
    (by kernel_rfl)
end Go.Proofs.YtbgnkekiephfeaaDoor
