/- LexisPlaces: for every source and position: Place returns what the reference returns; the card of the statement. No condition. -/
import Derived.Test.YtkcljempplchkaaDoorG08LF0L26
import Derived.Test.YtkcljempplchkaaDoorCards
import Derived.Test.YtkcljempplchkaaDoorTie
import Derived.SevenTiedAt
set_option maxRecDepth 100000
set_option linter.unusedVariables false
set_option linter.unusedSimpArgs false
namespace Go.Proofs.YtkcljempplchkaaDoor
open Go.Eng Go.RowKit

theorem lexisPlaces_lifted (os : Os) (started : os.Started) (T : Type) (enc : TypeId × Value → T) :
    ReturnsInHanded {} Tryd.checked os 6 .any (fun w args => (Rows.lexisPlacesSpec.pre enc Tryd.prog Tryd.f6 [] false w args ∧ laidMetH Tryd.prog laidL w) ∧ sizedMet enc Tryd.prog Tryd.f6 (OpenSpec.ofChange Rows.lexisPlacesSpec) false w args)
      (Rows.lexisPlacesSpec.post enc Tryd.prog Tryd.f6 false true false false) :=
  strint_lifted Tryd.func6 (by kernel_rfl) (by kernel_rfl) (by kernel_rfl) (by kernel_rfl) (by kernel_rfl) rfl (fun T d0 d1 => rfl) os started T enc (by kernel_rfl) (by kernel_rfl) (by kernel_rfl) (fun l n h => LawPlaces_pure l (by omega) n)

theorem lexisPlaces_holds : Rows.LexisPlacesSaid :=
  OpenClaim.holds_of_wide 6 Tryd.f6 rfl rfl rfl rfl rfl rfl rfl ⟨rfl, rfl, rfl, rfl, rfl⟩ rfl rfl rfl rfl rfl (by kernel_rfl) Tryd.func6 (by kernel_rfl)
    (of_decide_eq_true (by kernel_rfl)) (by unfold Func.isWrapper; first | (rw [if_pos (by decide +kernel)]; kernel_rfl) | (rw [if_neg (by decide +kernel)]; exact ⟨rfl, rfl⟩))
    (fun os started H enc _ => lexisPlaces_lifted os started H enc)

theorem lexisPlaces_card : Rows.LexisPlacesCardSaid :=
  Claim7.holds_tied_plain_at .later [] [.data, .data, .data, .sentinel, .sentinel, .listed, .data] true (true, "ce71ee4aaae5d8dfb515bf1bb08d7576ba8337e7c5be205287c4aabd8b65c5b6") true
    lexisPlaces_holds (fun _ h => by cases h) (by kernel_rfl) (fun _ h => by cases h) lexisPlaces_row_tie rfl ⟨rfl, rfl⟩ (by kernel_rfl) rfl
    (fun f fn hf hfn => by
      obtain rfl : f = 6 := Option.some.inj ((show Tryd.prog.funcNamed "damask/damasklaw01.LexisPlaces" = some 6 by kernel_rfl).symm.trans hf) |>.symm
      obtain rfl : fn = Tryd.f6 := (Option.some.inj (Tryd.func6.symm.trans hfn)).symm
      exact ⟨by kernel_rfl, fun j t ht => by
        have hm : t ∈ Tryd.f6.params.toList := by
          have := Array.mem_of_getElem? ht
          simpa using this
        rw [show Tryd.f6.params.toList = [9, 3] by kernel_rfl] at hm
        have h : t = 9 ∨ t = 3 := by simpa using hm
        rcases h with rfl | rfl
        · exact (show Tryd.prog.wantsStandIn 9 = false by kernel_rfl)
        · exact (show Tryd.prog.wantsStandIn 3 = false by kernel_rfl)⟩)
    (by kernel_rfl)

end Go.Proofs.YtkcljempplchkaaDoor

