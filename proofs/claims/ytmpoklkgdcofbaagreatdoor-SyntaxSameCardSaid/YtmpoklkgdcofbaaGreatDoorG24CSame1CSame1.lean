/- SyntaxSame: the walk lifted to the frame of the row. -/
import Derived.Test.YtmpoklkgdcofbaaGreatDoorG12YDYF
import Derived.Test.YtmpoklkgdcofbaaGreatDoorG23YAY6
set_option maxRecDepth 100000
set_option linter.unusedVariables false
set_option linter.unusedSimpArgs false
namespace Go.Proofs.YtmpoklkgdcofbaaGreatDoor
open Go.Eng Go.RowKit Go.ChangeShapes Go.WideShapes

abbrev zeroMo : Value := .agg #[.string ⟨#[]⟩, .bool false, .slice none 0 0, .slice none 0 0, .slice none 0 0]

theorem syntaxSame_lifted (os : Os) (started : os.Started) (T : Type) (enc : TypeId × Value → T) :
    ReturnsInHanded {} Tryz.checked os 7 .any (fun w args => (Rows.syntaxSameSpec.pre enc Tryz.prog Tryz.f7 [] false w args ∧ laidMetH Tryz.prog laidL w) ∧ sizedMet enc Tryz.prog Tryz.f7 (OpenSpec.ofChange Rows.syntaxSameSpec) false w args)
      (Rows.syntaxSameSpec.post enc Tryz.prog Tryz.f7 false true false false) := by
  have hpar : Tryz.f7.params = #[30, 30] := by kernel_rfl
  refine law_lifted Tryz.func7 (by kernel_rfl) (by kernel_rfl) (by kernel_rfl) (by kernel_rfl) rfl (fun T ds h => ?_) (fun t ht => ?_) os started T enc
    (ChangeSpec.witness_shaped (enc := enc) (C := Tryz.checked) (os := os) (X := fun w _ => laidMetH Tryz.prog laidL w) false (World.doorLaid Tryz.prog 4000 os) #[zeroMo, zeroMo] 8 rfl (World.shaped_of_RefB (by kernel_rfl) (by kernel_rfl)) (by kernel_rfl) (by kernel_rfl) (by kernel_rfl) (door_met os _)) ?_
  · rw [hpar] at h
    match ds, h with
    | [d, e], _ => rfl
  · rw [hpar] at ht
    have : t = 30 := by simpa using ht
    subst this
    exact ⟨by kernel_rfl, of_decide_eq_true (by kernel_rfl)⟩
  · intro W base args ds ps hval hA hw
    rw [hpar] at hA hval hw
    obtain ⟨v0, v1, d0, d1, p0, p1, rfl, rfl, rfl, h0, h1⟩ := trodAll_two hA
    have hw' := each_le hw
    obtain ⟨a, ha, ra⟩ := mo_arg (hval 0 30 v0 rfl rfl) h0 fun q hq => hw' q (by simp only [DataW.weightsEach, List.mem_append]; exact .inl hq)
    obtain ⟨b, hb, rb⟩ := mo_arg (hval 1 30 v1 rfl rfl) h1 fun q hq => hw' q (by simp only [DataW.weightsEach, List.mem_append]; exact .inr (.inl hq))
    exact ⟨_, LawSame_pure a b ha hb, Reps.cons ra (reps1 rb)⟩

end Go.Proofs.YtmpoklkgdcofbaaGreatDoor

