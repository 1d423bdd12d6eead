/- LexisComment: for every string, number and comment: a comment put into the text moves the tokens as the reference says; the card of the statement. -/
import Derived.Test.YtkcljempplchkaaDoorG08LF0L29
import Derived.Test.YtkcljempplchkaaDoorCards
import Derived.Test.YtkcljempplchkaaDoorTie
import Derived.SevenTiedAt
set_option maxRecDepth 100000
set_option linter.unusedVariables false
set_option linter.unusedSimpArgs false
namespace Go.Proofs.YtkcljempplchkaaDoor
open Go.Eng Go.RowKit

theorem lexisComment_lifted (os : Os) (started : os.Started) (T : Type) (enc : TypeId × Value → T) :
    ReturnsInHanded {} Tryd.checked os 4 .any (fun w args => (Rows.lexisCommentSpec.pre enc Tryd.prog Tryd.f4 [] false w args ∧ laidMetH Tryd.prog laidL w) ∧ sizedMet enc Tryd.prog Tryd.f4 (OpenSpec.ofChange Rows.lexisCommentSpec) false w args)
      (Rows.lexisCommentSpec.post enc Tryd.prog Tryd.f4 false true false false) :=
  strintstr_lifted Tryd.func4 (by kernel_rfl) (by kernel_rfl) (by kernel_rfl) (by kernel_rfl) (by kernel_rfl) rfl (fun T d0 d1 d2 => rfl) os started T enc (by kernel_rfl) (by kernel_rfl) (by kernel_rfl) (fun s a c hs hc => LawComment_pure s c hs hc a)

theorem lexisComment_holds : Rows.LexisCommentSaid :=
  OpenClaim.holds_of_wide 4 Tryd.f4 rfl rfl rfl rfl rfl rfl rfl ⟨rfl, rfl, rfl, rfl, rfl⟩ rfl rfl rfl rfl rfl (by kernel_rfl) Tryd.func4 (by kernel_rfl)
    (of_decide_eq_true (by kernel_rfl)) (by unfold Func.isWrapper; first | (rw [if_pos (by decide +kernel)]; kernel_rfl) | (rw [if_neg (by decide +kernel)]; exact ⟨rfl, rfl⟩))
    (fun os started H enc _ => lexisComment_lifted os started H enc)

theorem lexisComment_card : Rows.LexisCommentCardSaid :=
  Claim7.holds_tied_plain_at .later [] [.data, .data, .data, .sentinel, .sentinel, .listed, .data] true (true, "ce71ee4aaae5d8dfb515bf1bb08d7576ba8337e7c5be205287c4aabd8b65c5b6") true
    lexisComment_holds (fun _ h => by cases h) (by kernel_rfl) (fun _ h => by cases h) lexisComment_row_tie rfl ⟨rfl, rfl⟩ (by kernel_rfl) rfl
    (fun f fn hf hfn => by
      obtain rfl : f = 4 := Option.some.inj ((show Tryd.prog.funcNamed "damask/damasklaw01.LexisComment" = some 4 by kernel_rfl).symm.trans hf) |>.symm
      obtain rfl : fn = Tryd.f4 := (Option.some.inj (Tryd.func4.symm.trans hfn)).symm
      exact ⟨by kernel_rfl, fun j t ht => by
        have hm : t ∈ Tryd.f4.params.toList := by
          have := Array.mem_of_getElem? ht
          simpa using this
        rw [show Tryd.f4.params.toList = [9, 3, 9] by kernel_rfl] at hm
        have h : t = 9 ∨ t = 3 ∨ t = 9 := by simpa using hm
        rcases h with rfl | rfl | rfl
        · exact (show Tryd.prog.wantsStandIn 9 = false by kernel_rfl)
        · exact (show Tryd.prog.wantsStandIn 3 = false by kernel_rfl)
        · exact (show Tryd.prog.wantsStandIn 9 = false by kernel_rfl)⟩)
    (by kernel_rfl)

end Go.Proofs.YtkcljempplchkaaDoor

