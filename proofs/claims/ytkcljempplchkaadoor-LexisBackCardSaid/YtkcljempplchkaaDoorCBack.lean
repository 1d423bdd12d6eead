/- LexisBack: for every source: its tokens, put together, are read back as the same; the card of the statement. -/
import Derived.Test.YtkcljempplchkaaDoorG08LF0L36
import Derived.Test.YtkcljempplchkaaDoorG09L38L38
import Derived.Test.YtkcljempplchkaaDoorCards
import Derived.Test.YtkcljempplchkaaDoorTie
import Derived.SevenTiedAt
set_option maxRecDepth 100000
set_option linter.unusedVariables false
set_option linter.unusedSimpArgs false
namespace Go.Proofs.YtkcljempplchkaaDoor
open Go.Eng Go.RowKit

theorem lexisBack_lifted (os : Os) (started : os.Started) (T : Type) (enc : TypeId × Value → T) :
    ReturnsInHanded {} Tryd.checked os 8 .any (fun w args => (Rows.lexisBackSpec.pre enc Tryd.prog Tryd.f8 [] false w args ∧ laidMetH Tryd.prog laidL w) ∧ sizedMet enc Tryd.prog Tryd.f8 (OpenSpec.ofChange Rows.lexisBackSpec) false w args)
      (Rows.lexisBackSpec.post enc Tryd.prog Tryd.f8 false true false false) :=
  string_lifted Tryd.func8 (by kernel_rfl) (by kernel_rfl) (by kernel_rfl) (by kernel_rfl) (by kernel_rfl) rfl (fun T d0 => rfl) os started T enc (by kernel_rfl) (by kernel_rfl) (by kernel_rfl) (fun l hl => LawBack_pure l hl)

theorem lexisBack_holds : Rows.LexisBackSaid :=
  OpenClaim.holds_of_wide 8 Tryd.f8 rfl rfl rfl rfl rfl rfl rfl ⟨rfl, rfl, rfl, rfl, rfl⟩ rfl rfl rfl rfl rfl (by kernel_rfl) Tryd.func8 (by kernel_rfl)
    (of_decide_eq_true (by kernel_rfl)) (by unfold Func.isWrapper; first | (rw [if_pos (by decide +kernel)]; kernel_rfl) | (rw [if_neg (by decide +kernel)]; exact ⟨rfl, rfl⟩))
    (fun os started H enc _ => lexisBack_lifted os started H enc)

theorem lexisBack_card : Rows.LexisBackCardSaid :=
  Claim7.holds_tied_plain_at .later [] [.data, .data, .data, .sentinel, .sentinel, .listed, .data] true (true, "ce71ee4aaae5d8dfb515bf1bb08d7576ba8337e7c5be205287c4aabd8b65c5b6") true
    lexisBack_holds (fun _ h => by cases h) (by kernel_rfl) (fun _ h => by cases h) lexisBack_row_tie rfl ⟨rfl, rfl⟩ (by kernel_rfl) rfl
    (fun f fn hf hfn => by
      obtain rfl : f = 8 := Option.some.inj ((show Tryd.prog.funcNamed "damask/damasklaw01.LexisBack" = some 8 by kernel_rfl).symm.trans hf) |>.symm
      obtain rfl : fn = Tryd.f8 := (Option.some.inj (Tryd.func8.symm.trans hfn)).symm
      exact ⟨by kernel_rfl, fun j t ht => by
        have hm : t ∈ Tryd.f8.params.toList := by
          have := Array.mem_of_getElem? ht
          simpa using this
        rw [show Tryd.f8.params.toList = [9] by kernel_rfl] at hm
        have h : t = 9 := by simpa using hm
        subst h; exact (show Tryd.prog.wantsStandIn 9 = false by kernel_rfl)⟩)
    (by kernel_rfl)

end Go.Proofs.YtkcljempplchkaaDoor

