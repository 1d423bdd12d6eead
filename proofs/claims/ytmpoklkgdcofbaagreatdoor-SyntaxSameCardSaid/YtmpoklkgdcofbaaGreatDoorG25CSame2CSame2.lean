/- SyntaxSame: the row. -/
import Derived.Test.YtmpoklkgdcofbaaGreatDoorG24CSame1CSame1
set_option maxRecDepth 100000
set_option linter.unusedVariables false
set_option linter.unusedSimpArgs false
namespace Go.Proofs.YtmpoklkgdcofbaaGreatDoor
open Go.Eng Go.RowKit Go.ChangeShapes Go.WideShapes

set_option maxHeartbeats 40000000 in
theorem syntaxSame_facts : joinedFacts Tryz.prog 7 Tryz.f7 Rows.syntaxSameSpec Rows.syntaxSameRow = true := by
  unfold joinedFacts
  repeat' (rw [Bool.and_eq_true]; refine And.intro ?_ ?_)
  all_goals as_aux_lemma => kernel_rfl

set_option maxHeartbeats 40000000 in
theorem syntaxSame_holds : Rows.SyntaxSameSaid :=
  OpenClaim.holds_of_wide 7 Tryz.f7 rfl rfl rfl rfl rfl rfl rfl ⟨rfl, rfl, rfl, rfl, rfl⟩ rfl rfl rfl rfl rfl (by as_aux_lemma => kernel_rfl) Tryz.func7 syntaxSame_facts
    (of_decide_eq_true (by kernel_rfl)) (by unfold Func.isWrapper; first | (rw [if_pos (by decide +kernel)]; kernel_rfl) | (rw [if_neg (by decide +kernel)]; exact ⟨rfl, rfl⟩))
    (fun os started H enc _ => syntaxSame_lifted os started H enc)

end Go.Proofs.YtmpoklkgdcofbaaGreatDoor

