/- LexisNames: for every string: IsSmall, IsCapital, IsOp and Words answer as the reference does; the card of the statement. No condition. -/
import Derived.Test.YtkcljempplchkaaDoorG08LF0LF
import Derived.Test.YtkcljempplchkaaDoorCards
import Derived.Test.YtkcljempplchkaaDoorTie
import Derived.SevenTiedAt
set_option maxRecDepth 100000
set_option linter.unusedVariables false
set_option linter.unusedSimpArgs false
namespace Go.Proofs.YtkcljempplchkaaDoor
open Go.Eng Go.RowKit

theorem lexisNames_lifted (os : Os) (started : os.Started) (T : Type) (enc : TypeId × Value → T) :
    ReturnsInHanded {} Tryd.checked os 5 .any (fun w args => (Rows.lexisNamesSpec.pre enc Tryd.prog Tryd.f5 [] false w args ∧ laidMetH Tryd.prog laidL w) ∧ sizedMet enc Tryd.prog Tryd.f5 (OpenSpec.ofChange Rows.lexisNamesSpec) false w args)
      (Rows.lexisNamesSpec.post enc Tryd.prog Tryd.f5 false true false false) :=
  string_lifted Tryd.func5 (by kernel_rfl) (by kernel_rfl) (by kernel_rfl) (by kernel_rfl) (by kernel_rfl) rfl (fun T d0 => rfl) os started T enc (by kernel_rfl) (by kernel_rfl) (by kernel_rfl) (fun l _ => LawNames_pure l)

theorem lexisNames_holds : Rows.LexisNamesSaid :=
  OpenClaim.holds_of_wide 5 Tryd.f5 rfl rfl rfl rfl rfl rfl rfl ⟨rfl, rfl, rfl, rfl, rfl⟩ rfl rfl rfl rfl rfl (by kernel_rfl) Tryd.func5 (by kernel_rfl)
    (of_decide_eq_true (by kernel_rfl)) (by unfold Func.isWrapper; first | (rw [if_pos (by decide +kernel)]; kernel_rfl) | (rw [if_neg (by decide +kernel)]; exact ⟨rfl, rfl⟩))
    (fun os started H enc _ => lexisNames_lifted os started H enc)

theorem lexisNames_card : Rows.LexisNamesCardSaid :=
  Claim7.holds_tied_plain_at .later [] [.data, .data, .data, .sentinel, .sentinel, .listed, .data] true (true, "ce71ee4aaae5d8dfb515bf1bb08d7576ba8337e7c5be205287c4aabd8b65c5b6") true
    lexisNames_holds (fun _ h => by cases h) (by kernel_rfl) (fun _ h => by cases h) lexisNames_row_tie rfl ⟨rfl, rfl⟩ (by kernel_rfl) rfl
    (fun f fn hf hfn => by
      obtain rfl : f = 5 := Option.some.inj ((show Tryd.prog.funcNamed "damask/damasklaw01.LexisNames" = some 5 by kernel_rfl).symm.trans hf) |>.symm
      obtain rfl : fn = Tryd.f5 := (Option.some.inj (Tryd.func5.symm.trans hfn)).symm
      exact ⟨by kernel_rfl, fun j t ht => by
        have hm : t ∈ Tryd.f5.params.toList := by
          have := Array.mem_of_getElem? ht
          simpa using this
        rw [show Tryd.f5.params.toList = [9] by kernel_rfl] at hm
        have h : t = 9 := by simpa using hm
        subst h; exact (show Tryd.prog.wantsStandIn 9 = false by kernel_rfl)⟩)
    (by kernel_rfl)

end Go.Proofs.YtkcljempplchkaaDoor

