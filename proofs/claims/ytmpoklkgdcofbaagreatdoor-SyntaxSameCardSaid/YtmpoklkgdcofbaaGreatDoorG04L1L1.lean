/- The small functions of lexis and of the reference. -/
import Derived.Test.YtmpoklkgdcofbaaGreatDoorG03L0L0
set_option maxRecDepth 100000
set_option linter.unusedVariables false
set_option linter.unusedSimpArgs false
namespace Go.Proofs.YtmpoklkgdcofbaaGreatDoor
open Go.Eng

theorem hm : Tryz.prog.follows .mixedOrders = true := Tryz.checked.mixed

section
variable {O : Cfg}

/-- A function that answers a value and changes nothing. -/
def PureCall (O : Cfg) (f : FuncId) (args : List AVal) (v : AVal) : Prop := ∀ H, ACalls O Tryz.prog f args H (fun r H' => r = .ret v ∧ H' = H)
theorem PureCall.step {f : FuncId} {args : List AVal} {v : AVal} (h : PureCall O f args v) {H : Hp} {ds : List ADef} {R E : Res} (k : R v H ds) : ACalls O Tryz.prog f args H (callPost ds R E) :=
  (h H).mono (by rintro r H' ⟨rfl, rfl⟩; exact k)

theorem entry {ks : Tab} {f : FuncId} {F : AFn} {args : List AVal} {H : Hp} {Q : ARet → Hp → Prop} (hc : compFn Tryz.prog ks f = some F) (hn : Nat.ble args.length F.n = true)
    (h : wpC O Tryz.prog ks F.code (bodyA F.res Q) ⟨mk F.n (argM 0 args), H, []⟩) : ACalls O Tryz.prog f args H Q :=
  acalls_fn hc (AC.go hm (by rw [mk_args _ _ hn]; exact h))
theorem wpC_id {ks : Tab} {ac : ACode} {Q : Post} {s : S} (h : wpC O Tryz.prog ks ac Q s) : wpC O Tryz.prog ks ac Q s := h
theorem quiet_id {v : Option AVal} {R : Res} {H : Hp} {ds : List ADef} (h : quiet v R H ds) : quiet v R H ds := h
theorem wrote_id {v : Option Hp} {R : Res} {ds : List ADef} (h : wrote v R ds) : wrote v R ds := h
theorem resQ_id {vs : Option (List AVal)} {Q : ARet → Hp → Prop} {H : Hp} (h : resQ vs Q H) : resQ vs Q H := h
def noLoop : ACode → Bool
  | .loop _ => false
  | _ => true
theorem go {ks : Tab} {ac : ACode} {Q : Post} {s : S} (h : wpC O Tryz.prog ks ac Q s) (_ : noLoop ac = true := by rfl) : AC O Tryz.prog ks ac Q s := AC.go hm h

def small (c : UInt8) : Bool := iLe 97 (uC c) && iLe (uC c) 122
def capital (c : UInt8) : Bool := iLe 65 (uC c) && iLe (uC c) 90
def digit (c : UInt8) : Bool := iLe 48 (uC c) && iLe (uC c) 57

theorem isSmall_pure (c : UInt8) : PureCall O f_isSmall [.int .u8 (uC c)] (.bool (small c)) := fun H => by
  refine entry h_isSmall rfl ?_; simp -implicitDefEqProofs only [go_sem, Nat.reduceSub, Nat.reduceAdd, Nat.reduceLeDiff, Nat.reduceEqDiff, Nat.reduceBEq, Nat.reduceLT, c_isSmall]
  refine go ?_
  simp -implicitDefEqProofs only [go_sem, Nat.reduceSub, Nat.reduceAdd, Nat.reduceLeDiff, Nat.reduceEqDiff, Nat.reduceBEq, Nat.reduceLT]
  refine plan_split rfl rfl (fun h => ?_) (fun h => ?_) <;> simp -implicitDefEqProofs only [go_sem, Nat.reduceSub, Nat.reduceAdd, Nat.reduceLeDiff, Nat.reduceEqDiff, Nat.reduceBEq, Nat.reduceLT, h] <;> refine go ?_ <;> simp -implicitDefEqProofs only [go_sem, Nat.reduceSub, Nat.reduceAdd, Nat.reduceLeDiff, Nat.reduceEqDiff, Nat.reduceBEq, Nat.reduceLT] <;> simp [small, h]

theorem isCapital_pure (c : UInt8) : PureCall O f_isCapital [.int .u8 (uC c)] (.bool (capital c)) := fun H => by
  refine entry h_isCapital rfl ?_; simp -implicitDefEqProofs only [go_sem, Nat.reduceSub, Nat.reduceAdd, Nat.reduceLeDiff, Nat.reduceEqDiff, Nat.reduceBEq, Nat.reduceLT, c_isCapital]
  refine go ?_
  simp -implicitDefEqProofs only [go_sem, Nat.reduceSub, Nat.reduceAdd, Nat.reduceLeDiff, Nat.reduceEqDiff, Nat.reduceBEq, Nat.reduceLT]
  refine plan_split rfl rfl (fun h => ?_) (fun h => ?_) <;> simp -implicitDefEqProofs only [go_sem, Nat.reduceSub, Nat.reduceAdd, Nat.reduceLeDiff, Nat.reduceEqDiff, Nat.reduceBEq, Nat.reduceLT, h] <;> refine go ?_ <;> simp -implicitDefEqProofs only [go_sem, Nat.reduceSub, Nat.reduceAdd, Nat.reduceLeDiff, Nat.reduceEqDiff, Nat.reduceBEq, Nat.reduceLT] <;> simp [capital, h]

theorem isDigit_pure (c : UInt8) : PureCall O f_isDigit [.int .u8 (uC c)] (.bool (digit c)) := fun H => by
  refine entry h_isDigit rfl ?_; simp -implicitDefEqProofs only [go_sem, Nat.reduceSub, Nat.reduceAdd, Nat.reduceLeDiff, Nat.reduceEqDiff, Nat.reduceBEq, Nat.reduceLT, c_isDigit]
  refine go ?_
  simp -implicitDefEqProofs only [go_sem, Nat.reduceSub, Nat.reduceAdd, Nat.reduceLeDiff, Nat.reduceEqDiff, Nat.reduceBEq, Nat.reduceLT]
  refine plan_split rfl rfl (fun h => ?_) (fun h => ?_) <;> simp -implicitDefEqProofs only [go_sem, Nat.reduceSub, Nat.reduceAdd, Nat.reduceLeDiff, Nat.reduceEqDiff, Nat.reduceBEq, Nat.reduceLT, h] <;> refine go ?_ <;> simp -implicitDefEqProofs only [go_sem, Nat.reduceSub, Nat.reduceAdd, Nat.reduceLeDiff, Nat.reduceEqDiff, Nat.reduceBEq, Nat.reduceLT] <;> simp [digit, h]

/-- A byte of a name. -/
def inName (c : UInt8) : Bool := small c || capital c || digit c || iEq (uC c) 95 || iEq (uC c) 39

theorem isNameByte_pure (c : UInt8) : PureCall O f_isNameByte [.int .u8 (uC c)] (.bool (inName c)) := fun H => by
  refine entry h_isNameByte rfl ?_; simp -implicitDefEqProofs only [go_sem, Nat.reduceSub, Nat.reduceAdd, Nat.reduceLeDiff, Nat.reduceEqDiff, Nat.reduceBEq, Nat.reduceLT, c_isNameByte]
  repeat' (first
    | (refine PureCall.step (isSmall_pure _) ?_; simp -implicitDefEqProofs only [go_sem, Nat.reduceSub, Nat.reduceAdd, Nat.reduceLeDiff, Nat.reduceEqDiff, Nat.reduceBEq, Nat.reduceLT])
    | (refine PureCall.step (isCapital_pure _) ?_; simp -implicitDefEqProofs only [go_sem, Nat.reduceSub, Nat.reduceAdd, Nat.reduceLeDiff, Nat.reduceEqDiff, Nat.reduceBEq, Nat.reduceLT])
    | (refine PureCall.step (isDigit_pure _) ?_; simp -implicitDefEqProofs only [go_sem, Nat.reduceSub, Nat.reduceAdd, Nat.reduceLeDiff, Nat.reduceEqDiff, Nat.reduceBEq, Nat.reduceLT])
    | (refine wpC_split rfl rfl (fun h => ?_) (fun h => ?_) <;> simp -implicitDefEqProofs only [go_sem, Nat.reduceSub, Nat.reduceAdd, Nat.reduceLeDiff, Nat.reduceEqDiff, Nat.reduceBEq, Nat.reduceLT])
    | (refine go ?_; try simp -implicitDefEqProofs only [go_sem, Nat.reduceSub, Nat.reduceAdd, Nat.reduceLeDiff, Nat.reduceEqDiff, Nat.reduceBEq, Nat.reduceLT])
    | (refine plan_split rfl rfl (fun h => ?_) (fun h => ?_) <;> simp -implicitDefEqProofs only [go_sem, Nat.reduceSub, Nat.reduceAdd, Nat.reduceLeDiff, Nat.reduceEqDiff, Nat.reduceBEq, Nat.reduceLT, h]) | fail)
  all_goals simp_all [inName]

end
end Go.Proofs.YtmpoklkgdcofbaaGreatDoor

