/- SyntaxSame: for every two modules: Same, SameType, SameExpr answer as the reference does; the card of the statement. No condition. -/
import Derived.Test.YtmpoklkgdcofbaaGreatDoorG25CSame2CSame2
import Derived.Test.YtmpoklkgdcofbaaGreatDoorCards
import Derived.Test.YtmpoklkgdcofbaaGreatDoorTie
import Derived.SevenTiedAt
set_option maxRecDepth 100000
set_option linter.unusedVariables false
set_option linter.unusedSimpArgs false
namespace Go.Proofs.YtmpoklkgdcofbaaGreatDoor
open Go.Eng Go.RowKit Go.ChangeShapes Go.WideShapes

set_option maxHeartbeats 40000000 in
theorem syntaxSame_card : Rows.SyntaxSameCardSaid :=
  Claim7.holds_tied_plain_at .later [] [.data, .data, .data, .sentinel, .sentinel, .listed, .data] true (true, "039fbeb47200eebe2ac7fa85c3095f0030af1d63a54d897cd3e99890dd13819d") true
    syntaxSame_holds (fun _ h => by cases h) (by as_aux_lemma => kernel_rfl) (fun _ h => by cases h) syntaxSame_row_tie rfl ⟨rfl, rfl⟩ (by as_aux_lemma => kernel_rfl) rfl
    (fun f fn hf hfn => by
      obtain rfl : f = 7 := Option.some.inj ((show Tryz.prog.funcNamed "damask/damasklaw02.SyntaxSame" = some 7 by as_aux_lemma => kernel_rfl).symm.trans hf) |>.symm
      obtain rfl : fn = Tryz.f7 := (Option.some.inj (Tryz.func7.symm.trans hfn)).symm
      exact ⟨by as_aux_lemma => kernel_rfl, fun j t ht => by
        have hm : t ∈ Tryz.f7.params.toList := by
          have := Array.mem_of_getElem? ht
          simpa using this
        rw [show Tryz.f7.params.toList = [30, 30] by kernel_rfl] at hm
        have h : t = 30 := by simpa using hm
        subst h; exact (show Tryz.prog.wantsStandIn 30 = false by as_aux_lemma => kernel_rfl)⟩)
    (by as_aux_lemma => kernel_rfl)

end Go.Proofs.YtmpoklkgdcofbaaGreatDoor

