/- Names. -/
import Derived.Test.YtmpoklkgdcofbaaGreatDoorG08L4L4
set_option maxRecDepth 100000
set_option linter.unusedVariables false
set_option linter.unusedSimpArgs false
namespace Go.Proofs.YtmpoklkgdcofbaaGreatDoor
open Go.Eng

/-- What a name begins with, and how long it is. -/
def nameHead (s : List UInt8) : Bool := !(sEq s [] || iLt 16 (sLen s) || (!(small (s.headD 0)) && !(capital (s.headD 0))) || isWord s)
def isName (s : List UInt8) : Bool := nameHead s && s.all inName

theorem ixK_zero (b : UInt8) (s : List UInt8) : ixK (b :: s) 0 = some (.int .u8 (uC b)) := by simp [ixK]
theorem sEq_cons_nil (b : UInt8) (s : List UInt8) : sEq (b :: s) [] = false := by simp [sEq]

theorem isName_pure (s : List UInt8) : PureCall lexC f_isName [.str s] (.bool (isName s)) := fun H => by
  refine entry h_isName rfl ?_; simp -implicitDefEqProofs only [go_sem, Nat.reduceSub, Nat.reduceAdd, Nat.reduceLeDiff, Nat.reduceEqDiff, Nat.reduceBEq, Nat.reduceLT, c_isName]
  refine AC.cut (fun st => nameHead s = true ∧ st = ⟨mk 38 [(0, .str s)], H, []⟩) ?_ ?_
  · cases s with
    | nil =>
      refine go ?_; simp -implicitDefEqProofs only [go_sem, Nat.reduceSub, Nat.reduceAdd, Nat.reduceLeDiff, Nat.reduceEqDiff, Nat.reduceBEq, Nat.reduceLT, sEq_self]
      repeat' (first
        | (refine go ?_; try simp -implicitDefEqProofs only [go_sem, Nat.reduceSub, Nat.reduceAdd, Nat.reduceLeDiff, Nat.reduceEqDiff, Nat.reduceBEq, Nat.reduceLT]) | fail)
      simp [isName, nameHead, sEq_self]
    | cons b s =>
      refine go ?_; simp -implicitDefEqProofs only [go_sem, Nat.reduceSub, Nat.reduceAdd, Nat.reduceLeDiff, Nat.reduceEqDiff, Nat.reduceBEq, Nat.reduceLT, sEq_cons_nil, ixK_zero]
      repeat' (first
        | (refine PureCall.step (isSmall_pure _) ?_; simp -implicitDefEqProofs only [go_sem, Nat.reduceSub, Nat.reduceAdd, Nat.reduceLeDiff, Nat.reduceEqDiff, Nat.reduceBEq, Nat.reduceLT, ixK_zero])
        | (refine PureCall.step (isCapital_pure _) ?_; simp -implicitDefEqProofs only [go_sem, Nat.reduceSub, Nat.reduceAdd, Nat.reduceLeDiff, Nat.reduceEqDiff, Nat.reduceBEq, Nat.reduceLT, ixK_zero])
        | (refine PureCall.step (isWord_pure _) ?_; simp -implicitDefEqProofs only [go_sem, Nat.reduceSub, Nat.reduceAdd, Nat.reduceLeDiff, Nat.reduceEqDiff, Nat.reduceBEq, Nat.reduceLT, ixK_zero])
        | (refine wpC_split rfl rfl (fun h => ?_) (fun h => ?_) <;> simp -implicitDefEqProofs only [go_sem, Nat.reduceSub, Nat.reduceAdd, Nat.reduceLeDiff, Nat.reduceEqDiff, Nat.reduceBEq, Nat.reduceLT])
        | (refine plan_split rfl rfl (fun h => ?_) (fun h => ?_) <;> simp -implicitDefEqProofs only [go_sem, Nat.reduceSub, Nat.reduceAdd, Nat.reduceLeDiff, Nat.reduceEqDiff, Nat.reduceBEq, Nat.reduceLT, ixK_zero, h])
        | (refine go ?_; try simp -implicitDefEqProofs only [go_sem, Nat.reduceSub, Nat.reduceAdd, Nat.reduceLeDiff, Nat.reduceEqDiff, Nat.reduceBEq, Nat.reduceLT]) | fail)
      all_goals first
        | exact ⟨by simp_all [nameHead, bNot_true, bNot_false, sEq_cons_nil], rfl⟩
        | simp_all [isName, nameHead, bNot_true, bNot_false, sEq_cons_nil]
  · rintro _ ⟨hh, rfl⟩
    refine go ?_; simp -implicitDefEqProofs only [go_sem, Nat.reduceSub, Nat.reduceAdd, Nat.reduceLeDiff, Nat.reduceEqDiff, Nat.reduceBEq, Nat.reduceLT]
    refine go ?_; simp -implicitDefEqProofs only [go_sem, Nat.reduceSub, Nat.reduceAdd, Nat.reduceLeDiff, Nat.reduceEqDiff, Nat.reduceBEq, Nat.reduceLT]
    have hlen : s.length ≤ 16 := by
      simp only [nameHead, Bool.not_eq_true', Bool.or_eq_false_iff] at hh
      have := iLt_false.1 hh.1.1.2
      rw [sLen_eq] at this
      omega
    rw [wpC_loop]
    refine AC.loop (fun n st => ∃ i : Nat, i + n = s.length ∧ (s.take i).all inName = true ∧ st = ⟨mk 38 [(0, .str s), (28, .int .i64 (sLen s)), (29, .int .i64 i)], H, []⟩) s.length ⟨0, by omega, rfl, rfl⟩ ?_
    rintro n _ ⟨i, hi, hall, rfl⟩
    simp -implicitDefEqProofs only [go_sem, Nat.reduceSub, Nat.reduceAdd, Nat.reduceLeDiff, Nat.reduceEqDiff, Nat.reduceBEq, Nat.reduceLT, l_isName_0]
    repeat' (first
      | (refine wpC_split rfl rfl (fun h => ?_) (fun h => ?_) <;> simp -implicitDefEqProofs only [go_sem, Nat.reduceSub, Nat.reduceAdd, Nat.reduceLeDiff, Nat.reduceEqDiff, Nat.reduceBEq, Nat.reduceLT])
      | (refine go ?_; try simp -implicitDefEqProofs only [go_sem, Nat.reduceSub, Nat.reduceAdd, Nat.reduceLeDiff, Nat.reduceEqDiff, Nat.reduceBEq, Nat.reduceLT]) | fail)
    · rw [iLt_true, sLen_eq] at h
      have hlt : i < s.length := by omega
      obtain ⟨b, hb⟩ : ∃ b, s[i]? = some b := ⟨_, List.getElem?_eq_getElem hlt⟩
      simp -implicitDefEqProofs only [go_sem, Nat.reduceSub, Nat.reduceAdd, Nat.reduceLeDiff, Nat.reduceEqDiff, Nat.reduceBEq, Nat.reduceLT, ixK_at hb]
      refine PureCall.step (isNameByte_pure _) ?_; simp -implicitDefEqProofs only [go_sem, Nat.reduceSub, Nat.reduceAdd, Nat.reduceLeDiff, Nat.reduceEqDiff, Nat.reduceBEq, Nat.reduceLT]
      have e : wAdd .i64 (i : Int) 1 = ((i + 1 : Nat) : Int) := by rw [wAdd_i64] <;> omega
      repeat' (first
        | (refine wpC_split rfl rfl (fun h => ?_) (fun h => ?_) <;> simp -implicitDefEqProofs only [go_sem, Nat.reduceSub, Nat.reduceAdd, Nat.reduceLeDiff, Nat.reduceEqDiff, Nat.reduceBEq, Nat.reduceLT])
        | (refine go ?_; try simp -implicitDefEqProofs only [go_sem, Nat.reduceSub, Nat.reduceAdd, Nat.reduceLeDiff, Nat.reduceEqDiff, Nat.reduceBEq, Nat.reduceLT]) | fail)
      · have h1 := bNot_true.1 h
        congr 2
        symm
        simp only [isName, Bool.and_eq_false_iff, List.all_eq_false]
        exact .inr ⟨b, List.mem_of_getElem? hb, by simp [h1]⟩
      · have h1 := bNot_false.1 h
        refine ⟨n - 1, by omega, i + 1, by omega, ?_, by rw [e]⟩
        rw [List.take_add_one, hb]
        simp [hall, h1]
    · rw [iLt_false, sLen_eq] at h
      have : i = s.length := by omega
      subst this
      rw [List.take_length] at hall
      simp [isName, hh, hall]

theorem nameHead_ne {s : List UInt8} (h : nameHead s = true) : ∃ b t, s = b :: t := by
  cases s with
  | nil => simp [nameHead, sEq_self] at h
  | cons b t => exact ⟨b, t, rfl⟩

def IsSmall (s : List UInt8) : Bool := isName s && small (s.headD 0)
def IsCapital (s : List UInt8) : Bool := isName s && capital (s.headD 0)

theorem IsSmall_pure (s : List UInt8) : PureCall lexC f_IsSmall [.str s] (.bool (IsSmall s)) := fun H => by
  refine entry h_IsSmall rfl ?_; simp -implicitDefEqProofs only [go_sem, Nat.reduceSub, Nat.reduceAdd, Nat.reduceLeDiff, Nat.reduceEqDiff, Nat.reduceBEq, Nat.reduceLT, c_IsSmall]
  refine go ?_; simp -implicitDefEqProofs only [go_sem, Nat.reduceSub, Nat.reduceAdd, Nat.reduceLeDiff, Nat.reduceEqDiff, Nat.reduceBEq, Nat.reduceLT]
  refine PureCall.step (isName_pure _) ?_; simp -implicitDefEqProofs only [go_sem, Nat.reduceSub, Nat.reduceAdd, Nat.reduceLeDiff, Nat.reduceEqDiff, Nat.reduceBEq, Nat.reduceLT]
  refine plan_split rfl rfl (fun h => ?_) (fun h => ?_) <;> simp -implicitDefEqProofs only [go_sem, Nat.reduceSub, Nat.reduceAdd, Nat.reduceLeDiff, Nat.reduceEqDiff, Nat.reduceBEq, Nat.reduceLT, h]
  · obtain ⟨b, t, rfl⟩ := nameHead_ne (by simp only [isName, Bool.and_eq_true] at h; exact h.1)
    simp -implicitDefEqProofs only [go_sem, Nat.reduceSub, Nat.reduceAdd, Nat.reduceLeDiff, Nat.reduceEqDiff, Nat.reduceBEq, Nat.reduceLT, ixK_zero]
    refine PureCall.step (isSmall_pure _) ?_; simp -implicitDefEqProofs only [go_sem, Nat.reduceSub, Nat.reduceAdd, Nat.reduceLeDiff, Nat.reduceEqDiff, Nat.reduceBEq, Nat.reduceLT]
    refine go ?_; simp -implicitDefEqProofs only [go_sem, Nat.reduceSub, Nat.reduceAdd, Nat.reduceLeDiff, Nat.reduceEqDiff, Nat.reduceBEq, Nat.reduceLT]
    simp [IsSmall, h]
  · refine go ?_; simp -implicitDefEqProofs only [go_sem, Nat.reduceSub, Nat.reduceAdd, Nat.reduceLeDiff, Nat.reduceEqDiff, Nat.reduceBEq, Nat.reduceLT]
    simp [IsSmall, h]

theorem IsCapital_pure (s : List UInt8) : PureCall lexC f_IsCapital [.str s] (.bool (IsCapital s)) := fun H => by
  refine entry h_IsCapital rfl ?_; simp -implicitDefEqProofs only [go_sem, Nat.reduceSub, Nat.reduceAdd, Nat.reduceLeDiff, Nat.reduceEqDiff, Nat.reduceBEq, Nat.reduceLT, c_IsCapital]
  refine go ?_; simp -implicitDefEqProofs only [go_sem, Nat.reduceSub, Nat.reduceAdd, Nat.reduceLeDiff, Nat.reduceEqDiff, Nat.reduceBEq, Nat.reduceLT]
  refine PureCall.step (isName_pure _) ?_; simp -implicitDefEqProofs only [go_sem, Nat.reduceSub, Nat.reduceAdd, Nat.reduceLeDiff, Nat.reduceEqDiff, Nat.reduceBEq, Nat.reduceLT]
  refine plan_split rfl rfl (fun h => ?_) (fun h => ?_) <;> simp -implicitDefEqProofs only [go_sem, Nat.reduceSub, Nat.reduceAdd, Nat.reduceLeDiff, Nat.reduceEqDiff, Nat.reduceBEq, Nat.reduceLT, h]
  · obtain ⟨b, t, rfl⟩ := nameHead_ne (by simp only [isName, Bool.and_eq_true] at h; exact h.1)
    simp -implicitDefEqProofs only [go_sem, Nat.reduceSub, Nat.reduceAdd, Nat.reduceLeDiff, Nat.reduceEqDiff, Nat.reduceBEq, Nat.reduceLT, ixK_zero]
    refine PureCall.step (isCapital_pure _) ?_; simp -implicitDefEqProofs only [go_sem, Nat.reduceSub, Nat.reduceAdd, Nat.reduceLeDiff, Nat.reduceEqDiff, Nat.reduceBEq, Nat.reduceLT]
    refine go ?_; simp -implicitDefEqProofs only [go_sem, Nat.reduceSub, Nat.reduceAdd, Nat.reduceLeDiff, Nat.reduceEqDiff, Nat.reduceBEq, Nat.reduceLT]
    simp [IsCapital, h]
  · refine go ?_; simp -implicitDefEqProofs only [go_sem, Nat.reduceSub, Nat.reduceAdd, Nat.reduceLeDiff, Nat.reduceEqDiff, Nat.reduceBEq, Nat.reduceLT]
    simp [IsCapital, h]

end Go.Proofs.YtmpoklkgdcofbaaGreatDoor

/- The reference: lists and bytes. -/
set_option maxRecDepth 100000
set_option linter.unusedVariables false
set_option linter.unusedSimpArgs false
namespace Go.Proofs.YtmpoklkgdcofbaaGreatDoor
open Go.Eng

section
variable {O : Cfg}

/-- Bytes as rows. -/
def byteRows (l : List UInt8) : List (List AVal) := l.map fun c => [.int .u8 (uC c)]
end
end Go.Proofs.YtmpoklkgdcofbaaGreatDoor

/- The reference: names and operators. -/
set_option maxRecDepth 100000
set_option linter.unusedVariables false
set_option linter.unusedSimpArgs false
namespace Go.Proofs.YtmpoklkgdcofbaaGreatDoor
open Go.Eng

section
variable {O : Cfg}

end
end Go.Proofs.YtmpoklkgdcofbaaGreatDoor

/- The reference's names and operators are those of lexis. -/
set_option maxRecDepth 100000
set_option linter.unusedVariables false
set_option linter.unusedSimpArgs false
namespace Go.Proofs.YtmpoklkgdcofbaaGreatDoor
open Go.Eng

section
variable {O : Cfg}

end
end Go.Proofs.YtmpoklkgdcofbaaGreatDoor

/- Plain laws: lexis and the reference agree on names and operators. -/
set_option maxRecDepth 100000
set_option linter.unusedVariables false
set_option linter.unusedSimpArgs false
namespace Go.Proofs.YtmpoklkgdcofbaaGreatDoor
open Go.Eng

end Go.Proofs.YtmpoklkgdcofbaaGreatDoor

/- Words returned; lists of strings compared. -/
set_option maxRecDepth 100000
set_option linter.unusedVariables false
set_option linter.unusedSimpArgs false
namespace Go.Proofs.YtmpoklkgdcofbaaGreatDoor
open Go.Eng

/-- A function that answers a value; what it made besides is forgotten. -/
theorem entryF {O : Cfg} {ks : Tab} {f : FuncId} {F : AFn} {args : List AVal} {v : AVal} (hc : compFn Tryz.prog ks f = some F) (hn : Nat.ble args.length F.n = true)
    (h : ∀ H, wpC O Tryz.prog ks F.code (bodyA F.res (fun r H' => ∃ v', r = .ret v' ∧ Wk v' v ∧ H.le H')) ⟨mk F.n (argM 0 args), H, []⟩) : PureCall O f args v := fun H => by
  refine ACalls.forget ((entry hc hn (h H)).mono ?_)
  rintro r H' ⟨v', rfl, hw, hl⟩
  exact ⟨v, H, hw, hl, rfl, rfl⟩

end Go.Proofs.YtmpoklkgdcofbaaGreatDoor

