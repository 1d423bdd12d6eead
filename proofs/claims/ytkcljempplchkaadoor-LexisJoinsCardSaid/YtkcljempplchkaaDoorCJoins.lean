/- LexisJoins: for every row of tokens: Join answers as the reference does; the card of the statement. -/
import Derived.Test.YtkcljempplchkaaDoorG08LF0L36
import Derived.Test.YtkcljempplchkaaDoorCards
import Derived.Test.YtkcljempplchkaaDoorTie
import Derived.SevenTiedAt
set_option maxRecDepth 100000
set_option linter.unusedVariables false
set_option linter.unusedSimpArgs false
namespace Go.Proofs.YtkcljempplchkaaDoor
open Go.Eng Go.RowKit

theorem lexisJoins_lifted (os : Os) (started : os.Started) (T : Type) (enc : TypeId × Value → T) :
    ReturnsInHanded {} Tryd.checked os 7 .any (fun w args => (Rows.lexisJoinsSpec.pre enc Tryd.prog Tryd.f7 [] false w args ∧ laidMetH Tryd.prog laidL w) ∧ sizedMet enc Tryd.prog Tryd.f7 (OpenSpec.ofChange Rows.lexisJoinsSpec) false w args)
      (Rows.lexisJoinsSpec.post enc Tryd.prog Tryd.f7 false true false false) :=
  toks_lifted Tryd.func7 (by kernel_rfl) (by kernel_rfl) (by kernel_rfl) (by kernel_rfl) (by kernel_rfl) rfl (fun T d0 => rfl) os started T enc (by kernel_rfl) (by kernel_rfl) (by kernel_rfl) (fun l hn hl => LawJoins_pure l hn hl)

theorem lexisJoins_holds : Rows.LexisJoinsSaid :=
  OpenClaim.holds_of_wide 7 Tryd.f7 rfl rfl rfl rfl rfl rfl rfl ⟨rfl, rfl, rfl, rfl, rfl⟩ rfl rfl rfl rfl rfl (by kernel_rfl) Tryd.func7 (by kernel_rfl)
    (of_decide_eq_true (by kernel_rfl)) (by unfold Func.isWrapper; first | (rw [if_pos (by decide +kernel)]; kernel_rfl) | (rw [if_neg (by decide +kernel)]; exact ⟨rfl, rfl⟩))
    (fun os started H enc _ => lexisJoins_lifted os started H enc)

theorem lexisJoins_card : Rows.LexisJoinsCardSaid :=
  Claim7.holds_tied_plain_at .later [] [.data, .data, .data, .sentinel, .sentinel, .listed, .data] true (true, "ce71ee4aaae5d8dfb515bf1bb08d7576ba8337e7c5be205287c4aabd8b65c5b6") true
    lexisJoins_holds (fun _ h => by cases h) (by kernel_rfl) (fun _ h => by cases h) lexisJoins_row_tie rfl ⟨rfl, rfl⟩ (by kernel_rfl) rfl
    (fun f fn hf hfn => by
      obtain rfl : f = 7 := Option.some.inj ((show Tryd.prog.funcNamed "damask/damasklaw01.LexisJoins" = some 7 by kernel_rfl).symm.trans hf) |>.symm
      obtain rfl : fn = Tryd.f7 := (Option.some.inj (Tryd.func7.symm.trans hfn)).symm
      exact ⟨by kernel_rfl, fun j t ht => by
        have hm : t ∈ Tryd.f7.params.toList := by
          have := Array.mem_of_getElem? ht
          simpa using this
        rw [show Tryd.f7.params.toList = [22] by kernel_rfl] at hm
        have h : t = 22 := by simpa using hm
        subst h; exact (show Tryd.prog.wantsStandIn 22 = false by kernel_rfl)⟩)
    (by kernel_rfl)

end Go.Proofs.YtkcljempplchkaaDoor

