/- MADE BY PROGRAM (wip/tools/same.py): types, patterns, expressions, declarations compared: syntax. -/
import Derived.Test.YtmpoklkgdcofbaaGreatDoorG15Y1Y2
import Derived.Test.YtmpoklkgdcofbaaGreatDoorG16T3T3
set_option maxRecDepth 100000
set_option linter.unusedVariables false
set_option linter.unusedSimpArgs false
namespace Go.Proofs.YtmpoklkgdcofbaaGreatDoor
open Go.Eng

theorem sSameType_step {O : Cfg} (a b : Ty) (ha : a.args.length ≤ 140737488355328) (hr : ∀ x ∈ a.args, ∀ y, PureCall O f_sSameType [.agg x.cells, .agg y.cells] (.bool (dE x y))) : PureCall O f_sSameType [.agg a.cells, .agg b.cells] (.bool (dE a b)) := by
  refine entryF h_sSameType rfl fun H => ?_
  simp -implicitDefEqProofs only [go_sem, Nat.reduceSub, Nat.reduceAdd, Nat.reduceLeDiff, Nat.reduceEqDiff, Nat.reduceBEq, Nat.reduceLT, c_sSameType]
  refine boxed_intro rfl fun i1 h1 => ?_; simp -implicitDefEqProofs only [go_sem, Nat.reduceSub, Nat.reduceAdd, Nat.reduceLeDiff, Nat.reduceEqDiff, Nat.reduceBEq, Nat.reduceLT]
  refine boxed_intro rfl fun i2 h2 => ?_; simp -implicitDefEqProofs only [go_sem, Nat.reduceSub, Nat.reduceAdd, Nat.reduceLeDiff, Nat.reduceEqDiff, Nat.reduceBEq, Nat.reduceLT]
  have k1 := upd_old (o' := .cells b.cells) (Hp.upd_same H i1 (.cells a.cells)) h2
  have hle := le_new (le_new (le_self H) h1 (.cells a.cells)) h2 (.cells b.cells)
  refine go ?_; simp -implicitDefEqProofs only [go_sem, Nat.reduceSub, Nat.reduceAdd, Nat.reduceLeDiff, Nat.reduceEqDiff, Nat.reduceBEq, Nat.reduceLT, k1]
  repeat' (first | ((with_reducible refine PureCall.step (eqfType_pure _ _ ha _ hr) ?_); simp -implicitDefEqProofs only [go_sem, Nat.reduceSub, Nat.reduceAdd, Nat.reduceLeDiff, Nat.reduceEqDiff, Nat.reduceBEq, Nat.reduceLT, k1]) | (refine wpC_split rfl rfl (fun h => ?_) (fun h => ?_) <;> (try simp -implicitDefEqProofs only [go_sem, Nat.reduceSub, Nat.reduceAdd, Nat.reduceLeDiff, Nat.reduceEqDiff, Nat.reduceBEq, Nat.reduceLT, h, k1])) | (refine plan_split rfl rfl (fun h => ?_) (fun h => ?_) <;> simp -implicitDefEqProofs only [go_sem, Nat.reduceSub, Nat.reduceAdd, Nat.reduceLeDiff, Nat.reduceEqDiff, Nat.reduceBEq, Nat.reduceLT, h, k1]) | (refine planD_split rfl rfl (fun h => ?_) (fun h => ?_) <;> simp -implicitDefEqProofs only [go_sem, Nat.reduceSub, Nat.reduceAdd, Nat.reduceLeDiff, Nat.reduceEqDiff, Nat.reduceBEq, Nat.reduceLT, h, k1]) | (refine go ?_; try simp -implicitDefEqProofs only [go_sem, Nat.reduceSub, Nat.reduceAdd, Nat.reduceLeDiff, Nat.reduceEqDiff, Nat.reduceBEq, Nat.reduceLT, k1]) | ((with_reducible refine wpC_id ?_); simp -implicitDefEqProofs only [go_sem, Nat.reduceSub, Nat.reduceAdd, Nat.reduceLeDiff, Nat.reduceEqDiff, Nat.reduceBEq, Nat.reduceLT, k1]) | ((with_reducible first | refine quiet_id ?_ | refine wrote_id ?_ | refine resQ_id ?_); simp -implicitDefEqProofs only [go_sem, Nat.reduceSub, Nat.reduceAdd, Nat.reduceLeDiff, Nat.reduceEqDiff, Nat.reduceBEq, Nat.reduceLT, k1]) | fail)
  all_goals (refine endB hle ?_; simp only [Ty.dE_eq, ← iEq_dE, ← sEq_dE, ← bEq_dE]; simp [*])

theorem sSameType_pure {O : Cfg} {a : Ty} (ha : a.Ok) : ∀ b, PureCall O f_sSameType [.agg a.cells, .agg b.cells] (.bool (dE a b)) := by
  induction ha with
  | mk hs hl _ ih => exact fun b => sSameType_step _ b hl fun x hx y => ih x hx y

theorem ssamePat_step {O : Cfg} (a b : Pa) (ha : a.args.length ≤ 140737488355328) (hr : ∀ x ∈ a.args, ∀ y, PureCall O f_ssamePat [.agg x.cells, .agg y.cells] (.bool (dE x y))) : PureCall O f_ssamePat [.agg a.cells, .agg b.cells] (.bool (dE a b)) := by
  refine entryF h_ssamePat rfl fun H => ?_
  simp -implicitDefEqProofs only [go_sem, Nat.reduceSub, Nat.reduceAdd, Nat.reduceLeDiff, Nat.reduceEqDiff, Nat.reduceBEq, Nat.reduceLT, c_ssamePat]
  refine boxed_intro rfl fun i1 h1 => ?_; simp -implicitDefEqProofs only [go_sem, Nat.reduceSub, Nat.reduceAdd, Nat.reduceLeDiff, Nat.reduceEqDiff, Nat.reduceBEq, Nat.reduceLT]
  refine boxed_intro rfl fun i2 h2 => ?_; simp -implicitDefEqProofs only [go_sem, Nat.reduceSub, Nat.reduceAdd, Nat.reduceLeDiff, Nat.reduceEqDiff, Nat.reduceBEq, Nat.reduceLT]
  have k1 := upd_old (o' := .cells b.cells) (Hp.upd_same H i1 (.cells a.cells)) h2
  have hle := le_new (le_new (le_self H) h1 (.cells a.cells)) h2 (.cells b.cells)
  refine go ?_; simp -implicitDefEqProofs only [go_sem, Nat.reduceSub, Nat.reduceAdd, Nat.reduceLeDiff, Nat.reduceEqDiff, Nat.reduceBEq, Nat.reduceLT, k1]
  repeat' (first | ((with_reducible refine PureCall.step (eqfPat_pure _ _ ha _ hr) ?_); simp -implicitDefEqProofs only [go_sem, Nat.reduceSub, Nat.reduceAdd, Nat.reduceLeDiff, Nat.reduceEqDiff, Nat.reduceBEq, Nat.reduceLT, k1]) | (refine wpC_split rfl rfl (fun h => ?_) (fun h => ?_) <;> (try simp -implicitDefEqProofs only [go_sem, Nat.reduceSub, Nat.reduceAdd, Nat.reduceLeDiff, Nat.reduceEqDiff, Nat.reduceBEq, Nat.reduceLT, h, k1])) | (refine plan_split rfl rfl (fun h => ?_) (fun h => ?_) <;> simp -implicitDefEqProofs only [go_sem, Nat.reduceSub, Nat.reduceAdd, Nat.reduceLeDiff, Nat.reduceEqDiff, Nat.reduceBEq, Nat.reduceLT, h, k1]) | (refine planD_split rfl rfl (fun h => ?_) (fun h => ?_) <;> simp -implicitDefEqProofs only [go_sem, Nat.reduceSub, Nat.reduceAdd, Nat.reduceLeDiff, Nat.reduceEqDiff, Nat.reduceBEq, Nat.reduceLT, h, k1]) | (refine go ?_; try simp -implicitDefEqProofs only [go_sem, Nat.reduceSub, Nat.reduceAdd, Nat.reduceLeDiff, Nat.reduceEqDiff, Nat.reduceBEq, Nat.reduceLT, k1]) | ((with_reducible refine wpC_id ?_); simp -implicitDefEqProofs only [go_sem, Nat.reduceSub, Nat.reduceAdd, Nat.reduceLeDiff, Nat.reduceEqDiff, Nat.reduceBEq, Nat.reduceLT, k1]) | ((with_reducible first | refine quiet_id ?_ | refine wrote_id ?_ | refine resQ_id ?_); simp -implicitDefEqProofs only [go_sem, Nat.reduceSub, Nat.reduceAdd, Nat.reduceLeDiff, Nat.reduceEqDiff, Nat.reduceBEq, Nat.reduceLT, k1]) | fail)
  all_goals (refine endB hle ?_; simp only [Pa.dE_eq, ← iEq_dE, ← sEq_dE, ← bEq_dE]; simp [*])

theorem ssamePat_pure {O : Cfg} {a : Pa} (ha : a.Ok) : ∀ b, PureCall O f_ssamePat [.agg a.cells, .agg b.cells] (.bool (dE a b)) := by
  induction ha with
  | mk hs hl _ ih => exact fun b => ssamePat_step _ b hl fun x hx y => ih x hx y

theorem ssameDecl_1_step {O : Cfg} (a b : Co) (ha : a.Ok) : PureCall O f_ssameDecl_1 [.agg a.cells, .agg b.cells] (.bool (dE a b)) := by
  refine entryF h_ssameDecl_1 rfl fun H => ?_
  simp -implicitDefEqProofs only [go_sem, Nat.reduceSub, Nat.reduceAdd, Nat.reduceLeDiff, Nat.reduceEqDiff, Nat.reduceBEq, Nat.reduceLT, c_ssameDecl_1]
  refine boxed_intro rfl fun i1 h1 => ?_; simp -implicitDefEqProofs only [go_sem, Nat.reduceSub, Nat.reduceAdd, Nat.reduceLeDiff, Nat.reduceEqDiff, Nat.reduceBEq, Nat.reduceLT]
  refine boxed_intro rfl fun i2 h2 => ?_; simp -implicitDefEqProofs only [go_sem, Nat.reduceSub, Nat.reduceAdd, Nat.reduceLeDiff, Nat.reduceEqDiff, Nat.reduceBEq, Nat.reduceLT]
  have k1 := upd_old (o' := .cells b.cells) (Hp.upd_same H i1 (.cells a.cells)) h2
  have hle := le_new (le_new (le_self H) h1 (.cells a.cells)) h2 (.cells b.cells)
  refine go ?_; simp -implicitDefEqProofs only [go_sem, Nat.reduceSub, Nat.reduceAdd, Nat.reduceLeDiff, Nat.reduceEqDiff, Nat.reduceBEq, Nat.reduceLT, k1]
  repeat' (first | ((with_reducible refine PureCall.step (sSameType_pure ha.type _) ?_); simp -implicitDefEqProofs only [go_sem, Nat.reduceSub, Nat.reduceAdd, Nat.reduceLeDiff, Nat.reduceEqDiff, Nat.reduceBEq, Nat.reduceLT, k1]) | ((with_reducible refine PureCall.step (eqString_pure _ _ ha.fields.1) ?_); simp -implicitDefEqProofs only [go_sem, Nat.reduceSub, Nat.reduceAdd, Nat.reduceLeDiff, Nat.reduceEqDiff, Nat.reduceBEq, Nat.reduceLT, k1]) | (refine wpC_split rfl rfl (fun h => ?_) (fun h => ?_) <;> (try simp -implicitDefEqProofs only [go_sem, Nat.reduceSub, Nat.reduceAdd, Nat.reduceLeDiff, Nat.reduceEqDiff, Nat.reduceBEq, Nat.reduceLT, h, k1])) | (refine plan_split rfl rfl (fun h => ?_) (fun h => ?_) <;> simp -implicitDefEqProofs only [go_sem, Nat.reduceSub, Nat.reduceAdd, Nat.reduceLeDiff, Nat.reduceEqDiff, Nat.reduceBEq, Nat.reduceLT, h, k1]) | (refine planD_split rfl rfl (fun h => ?_) (fun h => ?_) <;> simp -implicitDefEqProofs only [go_sem, Nat.reduceSub, Nat.reduceAdd, Nat.reduceLeDiff, Nat.reduceEqDiff, Nat.reduceBEq, Nat.reduceLT, h, k1]) | (refine go ?_; try simp -implicitDefEqProofs only [go_sem, Nat.reduceSub, Nat.reduceAdd, Nat.reduceLeDiff, Nat.reduceEqDiff, Nat.reduceBEq, Nat.reduceLT, k1]) | ((with_reducible refine wpC_id ?_); simp -implicitDefEqProofs only [go_sem, Nat.reduceSub, Nat.reduceAdd, Nat.reduceLeDiff, Nat.reduceEqDiff, Nat.reduceBEq, Nat.reduceLT, k1]) | ((with_reducible first | refine quiet_id ?_ | refine wrote_id ?_ | refine resQ_id ?_); simp -implicitDefEqProofs only [go_sem, Nat.reduceSub, Nat.reduceAdd, Nat.reduceLeDiff, Nat.reduceEqDiff, Nat.reduceBEq, Nat.reduceLT, k1]) | fail)
  all_goals (refine endB hle ?_; simp only [Co.dE_eq, ← iEq_dE, ← sEq_dE, ← bEq_dE]; simp [*])

theorem ssameDecl_2_step {O : Cfg} (a b : Eqn) (ha : a.Ok) : PureCall O f_ssameDecl_2 [.agg a.cells, .agg b.cells] (.bool (dE a b)) := by
  refine entryF h_ssameDecl_2 rfl fun H => ?_
  simp -implicitDefEqProofs only [go_sem, Nat.reduceSub, Nat.reduceAdd, Nat.reduceLeDiff, Nat.reduceEqDiff, Nat.reduceBEq, Nat.reduceLT, c_ssameDecl_2]
  refine boxed_intro rfl fun i1 h1 => ?_; simp -implicitDefEqProofs only [go_sem, Nat.reduceSub, Nat.reduceAdd, Nat.reduceLeDiff, Nat.reduceEqDiff, Nat.reduceBEq, Nat.reduceLT]
  refine boxed_intro rfl fun i2 h2 => ?_; simp -implicitDefEqProofs only [go_sem, Nat.reduceSub, Nat.reduceAdd, Nat.reduceLeDiff, Nat.reduceEqDiff, Nat.reduceBEq, Nat.reduceLT]
  have k1 := upd_old (o' := .cells b.cells) (Hp.upd_same H i1 (.cells a.cells)) h2
  have hle := le_new (le_new (le_self H) h1 (.cells a.cells)) h2 (.cells b.cells)
  refine go ?_; simp -implicitDefEqProofs only [go_sem, Nat.reduceSub, Nat.reduceAdd, Nat.reduceLeDiff, Nat.reduceEqDiff, Nat.reduceBEq, Nat.reduceLT, k1]
  repeat' (first | ((with_reducible refine PureCall.step (sSameType_pure ha.left _) ?_); simp -implicitDefEqProofs only [go_sem, Nat.reduceSub, Nat.reduceAdd, Nat.reduceLeDiff, Nat.reduceEqDiff, Nat.reduceBEq, Nat.reduceLT, k1]) | ((with_reducible refine PureCall.step (sSameType_pure ha.right _) ?_); simp -implicitDefEqProofs only [go_sem, Nat.reduceSub, Nat.reduceAdd, Nat.reduceLeDiff, Nat.reduceEqDiff, Nat.reduceBEq, Nat.reduceLT, k1]) | (refine wpC_split rfl rfl (fun h => ?_) (fun h => ?_) <;> (try simp -implicitDefEqProofs only [go_sem, Nat.reduceSub, Nat.reduceAdd, Nat.reduceLeDiff, Nat.reduceEqDiff, Nat.reduceBEq, Nat.reduceLT, h, k1])) | (refine plan_split rfl rfl (fun h => ?_) (fun h => ?_) <;> simp -implicitDefEqProofs only [go_sem, Nat.reduceSub, Nat.reduceAdd, Nat.reduceLeDiff, Nat.reduceEqDiff, Nat.reduceBEq, Nat.reduceLT, h, k1]) | (refine planD_split rfl rfl (fun h => ?_) (fun h => ?_) <;> simp -implicitDefEqProofs only [go_sem, Nat.reduceSub, Nat.reduceAdd, Nat.reduceLeDiff, Nat.reduceEqDiff, Nat.reduceBEq, Nat.reduceLT, h, k1]) | (refine go ?_; try simp -implicitDefEqProofs only [go_sem, Nat.reduceSub, Nat.reduceAdd, Nat.reduceLeDiff, Nat.reduceEqDiff, Nat.reduceBEq, Nat.reduceLT, k1]) | ((with_reducible refine wpC_id ?_); simp -implicitDefEqProofs only [go_sem, Nat.reduceSub, Nat.reduceAdd, Nat.reduceLeDiff, Nat.reduceEqDiff, Nat.reduceBEq, Nat.reduceLT, k1]) | ((with_reducible first | refine quiet_id ?_ | refine wrote_id ?_ | refine resQ_id ?_); simp -implicitDefEqProofs only [go_sem, Nat.reduceSub, Nat.reduceAdd, Nat.reduceLeDiff, Nat.reduceEqDiff, Nat.reduceBEq, Nat.reduceLT, k1]) | fail)
  all_goals (refine endB hle ?_; simp only [Eqn.dE_eq, ← iEq_dE, ← sEq_dE, ← bEq_dE]; simp [*])

theorem ssameDecl_3_step {O : Cfg} (a b : Bi) (ha : a.Ok) : PureCall O f_ssameDecl_3 [.agg a.cells, .agg b.cells] (.bool (dE a b)) := by
  refine entryF h_ssameDecl_3 rfl fun H => ?_
  simp -implicitDefEqProofs only [go_sem, Nat.reduceSub, Nat.reduceAdd, Nat.reduceLeDiff, Nat.reduceEqDiff, Nat.reduceBEq, Nat.reduceLT, c_ssameDecl_3]
  refine boxed_intro rfl fun i1 h1 => ?_; simp -implicitDefEqProofs only [go_sem, Nat.reduceSub, Nat.reduceAdd, Nat.reduceLeDiff, Nat.reduceEqDiff, Nat.reduceBEq, Nat.reduceLT]
  refine boxed_intro rfl fun i2 h2 => ?_; simp -implicitDefEqProofs only [go_sem, Nat.reduceSub, Nat.reduceAdd, Nat.reduceLeDiff, Nat.reduceEqDiff, Nat.reduceBEq, Nat.reduceLT]
  have k1 := upd_old (o' := .cells b.cells) (Hp.upd_same H i1 (.cells a.cells)) h2
  have hle := le_new (le_new (le_self H) h1 (.cells a.cells)) h2 (.cells b.cells)
  refine go ?_; simp -implicitDefEqProofs only [go_sem, Nat.reduceSub, Nat.reduceAdd, Nat.reduceLeDiff, Nat.reduceEqDiff, Nat.reduceBEq, Nat.reduceLT, k1]
  repeat' (first | ((with_reducible refine PureCall.step (sSameType_pure ha.kind _) ?_); simp -implicitDefEqProofs only [go_sem, Nat.reduceSub, Nat.reduceAdd, Nat.reduceLeDiff, Nat.reduceEqDiff, Nat.reduceBEq, Nat.reduceLT, k1]) | (refine wpC_split rfl rfl (fun h => ?_) (fun h => ?_) <;> (try simp -implicitDefEqProofs only [go_sem, Nat.reduceSub, Nat.reduceAdd, Nat.reduceLeDiff, Nat.reduceEqDiff, Nat.reduceBEq, Nat.reduceLT, h, k1])) | (refine plan_split rfl rfl (fun h => ?_) (fun h => ?_) <;> simp -implicitDefEqProofs only [go_sem, Nat.reduceSub, Nat.reduceAdd, Nat.reduceLeDiff, Nat.reduceEqDiff, Nat.reduceBEq, Nat.reduceLT, h, k1]) | (refine planD_split rfl rfl (fun h => ?_) (fun h => ?_) <;> simp -implicitDefEqProofs only [go_sem, Nat.reduceSub, Nat.reduceAdd, Nat.reduceLeDiff, Nat.reduceEqDiff, Nat.reduceBEq, Nat.reduceLT, h, k1]) | (refine go ?_; try simp -implicitDefEqProofs only [go_sem, Nat.reduceSub, Nat.reduceAdd, Nat.reduceLeDiff, Nat.reduceEqDiff, Nat.reduceBEq, Nat.reduceLT, k1]) | ((with_reducible refine wpC_id ?_); simp -implicitDefEqProofs only [go_sem, Nat.reduceSub, Nat.reduceAdd, Nat.reduceLeDiff, Nat.reduceEqDiff, Nat.reduceBEq, Nat.reduceLT, k1]) | ((with_reducible first | refine quiet_id ?_ | refine wrote_id ?_ | refine resQ_id ?_); simp -implicitDefEqProofs only [go_sem, Nat.reduceSub, Nat.reduceAdd, Nat.reduceLeDiff, Nat.reduceEqDiff, Nat.reduceBEq, Nat.reduceLT, k1]) | fail)
  all_goals (refine endB hle ?_; simp only [Bi.dE_eq, ← iEq_dE, ← sEq_dE, ← bEq_dE]; simp [*])

theorem ssameDecl_4_step {O : Cfg} (a b : Dp) (ha : a.Ok) : PureCall O f_ssameDecl_4 [.agg a.cells, .agg b.cells] (.bool (dE a b)) := by
  refine entryF h_ssameDecl_4 rfl fun H => ?_
  simp -implicitDefEqProofs only [go_sem, Nat.reduceSub, Nat.reduceAdd, Nat.reduceLeDiff, Nat.reduceEqDiff, Nat.reduceBEq, Nat.reduceLT, c_ssameDecl_4]
  refine boxed_intro rfl fun i1 h1 => ?_; simp -implicitDefEqProofs only [go_sem, Nat.reduceSub, Nat.reduceAdd, Nat.reduceLeDiff, Nat.reduceEqDiff, Nat.reduceBEq, Nat.reduceLT]
  refine boxed_intro rfl fun i2 h2 => ?_; simp -implicitDefEqProofs only [go_sem, Nat.reduceSub, Nat.reduceAdd, Nat.reduceLeDiff, Nat.reduceEqDiff, Nat.reduceBEq, Nat.reduceLT]
  have k1 := upd_old (o' := .cells b.cells) (Hp.upd_same H i1 (.cells a.cells)) h2
  have hle := le_new (le_new (le_self H) h1 (.cells a.cells)) h2 (.cells b.cells)
  refine go ?_; simp -implicitDefEqProofs only [go_sem, Nat.reduceSub, Nat.reduceAdd, Nat.reduceLeDiff, Nat.reduceEqDiff, Nat.reduceBEq, Nat.reduceLT, k1]
  repeat' (first | ((with_reducible refine PureCall.step (eqString_pure _ _ ha.fr.1) ?_); simp -implicitDefEqProofs only [go_sem, Nat.reduceSub, Nat.reduceAdd, Nat.reduceLeDiff, Nat.reduceEqDiff, Nat.reduceBEq, Nat.reduceLT, k1]) | ((with_reducible refine PureCall.step (eqString_pure _ _ ha.to.1) ?_); simp -implicitDefEqProofs only [go_sem, Nat.reduceSub, Nat.reduceAdd, Nat.reduceLeDiff, Nat.reduceEqDiff, Nat.reduceBEq, Nat.reduceLT, k1]) | (refine wpC_split rfl rfl (fun h => ?_) (fun h => ?_) <;> (try simp -implicitDefEqProofs only [go_sem, Nat.reduceSub, Nat.reduceAdd, Nat.reduceLeDiff, Nat.reduceEqDiff, Nat.reduceBEq, Nat.reduceLT, h, k1])) | (refine plan_split rfl rfl (fun h => ?_) (fun h => ?_) <;> simp -implicitDefEqProofs only [go_sem, Nat.reduceSub, Nat.reduceAdd, Nat.reduceLeDiff, Nat.reduceEqDiff, Nat.reduceBEq, Nat.reduceLT, h, k1]) | (refine planD_split rfl rfl (fun h => ?_) (fun h => ?_) <;> simp -implicitDefEqProofs only [go_sem, Nat.reduceSub, Nat.reduceAdd, Nat.reduceLeDiff, Nat.reduceEqDiff, Nat.reduceBEq, Nat.reduceLT, h, k1]) | (refine go ?_; try simp -implicitDefEqProofs only [go_sem, Nat.reduceSub, Nat.reduceAdd, Nat.reduceLeDiff, Nat.reduceEqDiff, Nat.reduceBEq, Nat.reduceLT, k1]) | ((with_reducible refine wpC_id ?_); simp -implicitDefEqProofs only [go_sem, Nat.reduceSub, Nat.reduceAdd, Nat.reduceLeDiff, Nat.reduceEqDiff, Nat.reduceBEq, Nat.reduceLT, k1]) | ((with_reducible first | refine quiet_id ?_ | refine wrote_id ?_ | refine resQ_id ?_); simp -implicitDefEqProofs only [go_sem, Nat.reduceSub, Nat.reduceAdd, Nat.reduceLeDiff, Nat.reduceEqDiff, Nat.reduceBEq, Nat.reduceLT, k1]) | fail)
  all_goals (refine endB hle ?_; simp only [Dp.dE_eq, ← iEq_dE, ← sEq_dE, ← bEq_dE]; simp [*])

theorem ssameDecl_5_step {O : Cfg} (a b : Sg) (ha : a.Ok) : PureCall O f_ssameDecl_5 [.agg a.cells, .agg b.cells] (.bool (dE a b)) := by
  refine entryF h_ssameDecl_5 rfl fun H => ?_
  simp -implicitDefEqProofs only [go_sem, Nat.reduceSub, Nat.reduceAdd, Nat.reduceLeDiff, Nat.reduceEqDiff, Nat.reduceBEq, Nat.reduceLT, c_ssameDecl_5]
  refine boxed_intro rfl fun i1 h1 => ?_; simp -implicitDefEqProofs only [go_sem, Nat.reduceSub, Nat.reduceAdd, Nat.reduceLeDiff, Nat.reduceEqDiff, Nat.reduceBEq, Nat.reduceLT]
  refine boxed_intro rfl fun i2 h2 => ?_; simp -implicitDefEqProofs only [go_sem, Nat.reduceSub, Nat.reduceAdd, Nat.reduceLeDiff, Nat.reduceEqDiff, Nat.reduceBEq, Nat.reduceLT]
  have k1 := upd_old (o' := .cells b.cells) (Hp.upd_same H i1 (.cells a.cells)) h2
  have hle := le_new (le_new (le_self H) h1 (.cells a.cells)) h2 (.cells b.cells)
  refine go ?_; simp -implicitDefEqProofs only [go_sem, Nat.reduceSub, Nat.reduceAdd, Nat.reduceLeDiff, Nat.reduceEqDiff, Nat.reduceBEq, Nat.reduceLT, k1]
  repeat' (first | ((with_reducible refine PureCall.step (sSameType_pure ha.type _) ?_); simp -implicitDefEqProofs only [go_sem, Nat.reduceSub, Nat.reduceAdd, Nat.reduceLeDiff, Nat.reduceEqDiff, Nat.reduceBEq, Nat.reduceLT, k1]) | (refine wpC_split rfl rfl (fun h => ?_) (fun h => ?_) <;> (try simp -implicitDefEqProofs only [go_sem, Nat.reduceSub, Nat.reduceAdd, Nat.reduceLeDiff, Nat.reduceEqDiff, Nat.reduceBEq, Nat.reduceLT, h, k1])) | (refine plan_split rfl rfl (fun h => ?_) (fun h => ?_) <;> simp -implicitDefEqProofs only [go_sem, Nat.reduceSub, Nat.reduceAdd, Nat.reduceLeDiff, Nat.reduceEqDiff, Nat.reduceBEq, Nat.reduceLT, h, k1]) | (refine planD_split rfl rfl (fun h => ?_) (fun h => ?_) <;> simp -implicitDefEqProofs only [go_sem, Nat.reduceSub, Nat.reduceAdd, Nat.reduceLeDiff, Nat.reduceEqDiff, Nat.reduceBEq, Nat.reduceLT, h, k1]) | (refine go ?_; try simp -implicitDefEqProofs only [go_sem, Nat.reduceSub, Nat.reduceAdd, Nat.reduceLeDiff, Nat.reduceEqDiff, Nat.reduceBEq, Nat.reduceLT, k1]) | ((with_reducible refine wpC_id ?_); simp -implicitDefEqProofs only [go_sem, Nat.reduceSub, Nat.reduceAdd, Nat.reduceLeDiff, Nat.reduceEqDiff, Nat.reduceBEq, Nat.reduceLT, k1]) | ((with_reducible first | refine quiet_id ?_ | refine wrote_id ?_ | refine resQ_id ?_); simp -implicitDefEqProofs only [go_sem, Nat.reduceSub, Nat.reduceAdd, Nat.reduceLeDiff, Nat.reduceEqDiff, Nat.reduceBEq, Nat.reduceLT, k1]) | fail)
  all_goals (refine endB hle ?_; simp only [Sg.dE_eq, ← iEq_dE, ← sEq_dE, ← bEq_dE]; simp [*])

theorem sSame_1_step {O : Cfg} (a b : Im) (ha : a.Ok) : PureCall O f_sSame_1 [.agg a.cells, .agg b.cells] (.bool (dE a b)) := by
  refine entryF h_sSame_1 rfl fun H => ?_
  simp -implicitDefEqProofs only [go_sem, Nat.reduceSub, Nat.reduceAdd, Nat.reduceLeDiff, Nat.reduceEqDiff, Nat.reduceBEq, Nat.reduceLT, c_sSame_1]
  refine boxed_intro rfl fun i1 h1 => ?_; simp -implicitDefEqProofs only [go_sem, Nat.reduceSub, Nat.reduceAdd, Nat.reduceLeDiff, Nat.reduceEqDiff, Nat.reduceBEq, Nat.reduceLT]
  refine boxed_intro rfl fun i2 h2 => ?_; simp -implicitDefEqProofs only [go_sem, Nat.reduceSub, Nat.reduceAdd, Nat.reduceLeDiff, Nat.reduceEqDiff, Nat.reduceBEq, Nat.reduceLT]
  have k1 := upd_old (o' := .cells b.cells) (Hp.upd_same H i1 (.cells a.cells)) h2
  have hle := le_new (le_new (le_self H) h1 (.cells a.cells)) h2 (.cells b.cells)
  refine go ?_; simp -implicitDefEqProofs only [go_sem, Nat.reduceSub, Nat.reduceAdd, Nat.reduceLeDiff, Nat.reduceEqDiff, Nat.reduceBEq, Nat.reduceLT, k1]
  repeat' (first | ((with_reducible refine PureCall.step (eqString_pure _ _ ha.names.1) ?_); simp -implicitDefEqProofs only [go_sem, Nat.reduceSub, Nat.reduceAdd, Nat.reduceLeDiff, Nat.reduceEqDiff, Nat.reduceBEq, Nat.reduceLT, k1]) | (refine wpC_split rfl rfl (fun h => ?_) (fun h => ?_) <;> (try simp -implicitDefEqProofs only [go_sem, Nat.reduceSub, Nat.reduceAdd, Nat.reduceLeDiff, Nat.reduceEqDiff, Nat.reduceBEq, Nat.reduceLT, h, k1])) | (refine plan_split rfl rfl (fun h => ?_) (fun h => ?_) <;> simp -implicitDefEqProofs only [go_sem, Nat.reduceSub, Nat.reduceAdd, Nat.reduceLeDiff, Nat.reduceEqDiff, Nat.reduceBEq, Nat.reduceLT, h, k1]) | (refine planD_split rfl rfl (fun h => ?_) (fun h => ?_) <;> simp -implicitDefEqProofs only [go_sem, Nat.reduceSub, Nat.reduceAdd, Nat.reduceLeDiff, Nat.reduceEqDiff, Nat.reduceBEq, Nat.reduceLT, h, k1]) | (refine go ?_; try simp -implicitDefEqProofs only [go_sem, Nat.reduceSub, Nat.reduceAdd, Nat.reduceLeDiff, Nat.reduceEqDiff, Nat.reduceBEq, Nat.reduceLT, k1]) | ((with_reducible refine wpC_id ?_); simp -implicitDefEqProofs only [go_sem, Nat.reduceSub, Nat.reduceAdd, Nat.reduceLeDiff, Nat.reduceEqDiff, Nat.reduceBEq, Nat.reduceLT, k1]) | ((with_reducible first | refine quiet_id ?_ | refine wrote_id ?_ | refine resQ_id ?_); simp -implicitDefEqProofs only [go_sem, Nat.reduceSub, Nat.reduceAdd, Nat.reduceLeDiff, Nat.reduceEqDiff, Nat.reduceBEq, Nat.reduceLT, k1]) | fail)
  all_goals (refine endB hle ?_; simp only [Im.dE_eq, ← iEq_dE, ← sEq_dE, ← bEq_dE]; simp [*])

theorem sSameExpr_step {O : Cfg} (a b : Ex) (ha : a.Ok) (e1 : ∀ x ∈ a.args, ∀ y, PureCall O f_sSameExpr [.agg x.cells, .agg y.cells] (.bool (dE x y))) (e5 : ∀ x ∈ a.decls, ∀ y, PureCall O f_ssameDecl [.agg x.cells, .agg y.cells] (.bool (dE x y))) (e6 : ∀ x ∈ a.alts, ∀ y, PureCall O f_ssameAlt [.agg x.cells, .agg y.cells] (.bool (dE x y))) (e7 : ∀ x ∈ a.stmts, ∀ y, PureCall O f_ssameStmt [.agg x.cells, .agg y.cells] (.bool (dE x y))) : PureCall O f_sSameExpr [.agg a.cells, .agg b.cells] (.bool (dE a b)) := by
  refine entryF h_sSameExpr rfl fun H => ?_
  simp -implicitDefEqProofs only [go_sem, Nat.reduceSub, Nat.reduceAdd, Nat.reduceLeDiff, Nat.reduceEqDiff, Nat.reduceBEq, Nat.reduceLT, c_sSameExpr]
  refine boxed_intro rfl fun i1 h1 => ?_; simp -implicitDefEqProofs only [go_sem, Nat.reduceSub, Nat.reduceAdd, Nat.reduceLeDiff, Nat.reduceEqDiff, Nat.reduceBEq, Nat.reduceLT]
  refine boxed_intro rfl fun i2 h2 => ?_; simp -implicitDefEqProofs only [go_sem, Nat.reduceSub, Nat.reduceAdd, Nat.reduceLeDiff, Nat.reduceEqDiff, Nat.reduceBEq, Nat.reduceLT]
  have k1 := upd_old (o' := .cells b.cells) (Hp.upd_same H i1 (.cells a.cells)) h2
  have hle := le_new (le_new (le_self H) h1 (.cells a.cells)) h2 (.cells b.cells)
  refine go ?_; simp -implicitDefEqProofs only [go_sem, Nat.reduceSub, Nat.reduceAdd, Nat.reduceLeDiff, Nat.reduceEqDiff, Nat.reduceBEq, Nat.reduceLT, k1]
  repeat' (first | ((with_reducible refine PureCall.step (eqfExpr_pure _ _ ha.argsL _ e1) ?_); simp -implicitDefEqProofs only [go_sem, Nat.reduceSub, Nat.reduceAdd, Nat.reduceLeDiff, Nat.reduceEqDiff, Nat.reduceBEq, Nat.reduceLT, k1]) | ((with_reducible refine PureCall.step (eqfType_pure _ _ ha.typesL _ (fun x hx y => sSameType_pure (ha.types x hx) y)) ?_); simp -implicitDefEqProofs only [go_sem, Nat.reduceSub, Nat.reduceAdd, Nat.reduceLeDiff, Nat.reduceEqDiff, Nat.reduceBEq, Nat.reduceLT, k1]) | ((with_reducible refine PureCall.step (eqfPat_pure _ _ ha.patsL _ (fun x hx y => ssamePat_pure (ha.pats x hx) y)) ?_); simp -implicitDefEqProofs only [go_sem, Nat.reduceSub, Nat.reduceAdd, Nat.reduceLeDiff, Nat.reduceEqDiff, Nat.reduceBEq, Nat.reduceLT, k1]) | ((with_reducible refine PureCall.step (eqString_pure _ _ ha.fields.1) ?_); simp -implicitDefEqProofs only [go_sem, Nat.reduceSub, Nat.reduceAdd, Nat.reduceLeDiff, Nat.reduceEqDiff, Nat.reduceBEq, Nat.reduceLT, k1]) | ((with_reducible refine PureCall.step (eqfDecl_pure _ _ ha.declsL _ e5) ?_); simp -implicitDefEqProofs only [go_sem, Nat.reduceSub, Nat.reduceAdd, Nat.reduceLeDiff, Nat.reduceEqDiff, Nat.reduceBEq, Nat.reduceLT, k1]) | ((with_reducible refine PureCall.step (eqfAlt_pure _ _ ha.altsL _ e6) ?_); simp -implicitDefEqProofs only [go_sem, Nat.reduceSub, Nat.reduceAdd, Nat.reduceLeDiff, Nat.reduceEqDiff, Nat.reduceBEq, Nat.reduceLT, k1]) | ((with_reducible refine PureCall.step (eqfStmt_pure _ _ ha.stmtsL _ e7) ?_); simp -implicitDefEqProofs only [go_sem, Nat.reduceSub, Nat.reduceAdd, Nat.reduceLeDiff, Nat.reduceEqDiff, Nat.reduceBEq, Nat.reduceLT, k1]) | (refine wpC_split rfl rfl (fun h => ?_) (fun h => ?_) <;> (try simp -implicitDefEqProofs only [go_sem, Nat.reduceSub, Nat.reduceAdd, Nat.reduceLeDiff, Nat.reduceEqDiff, Nat.reduceBEq, Nat.reduceLT, h, k1])) | (refine plan_split rfl rfl (fun h => ?_) (fun h => ?_) <;> simp -implicitDefEqProofs only [go_sem, Nat.reduceSub, Nat.reduceAdd, Nat.reduceLeDiff, Nat.reduceEqDiff, Nat.reduceBEq, Nat.reduceLT, h, k1]) | (refine planD_split rfl rfl (fun h => ?_) (fun h => ?_) <;> simp -implicitDefEqProofs only [go_sem, Nat.reduceSub, Nat.reduceAdd, Nat.reduceLeDiff, Nat.reduceEqDiff, Nat.reduceBEq, Nat.reduceLT, h, k1]) | (refine go ?_; try simp -implicitDefEqProofs only [go_sem, Nat.reduceSub, Nat.reduceAdd, Nat.reduceLeDiff, Nat.reduceEqDiff, Nat.reduceBEq, Nat.reduceLT, k1]) | ((with_reducible refine wpC_id ?_); simp -implicitDefEqProofs only [go_sem, Nat.reduceSub, Nat.reduceAdd, Nat.reduceLeDiff, Nat.reduceEqDiff, Nat.reduceBEq, Nat.reduceLT, k1]) | ((with_reducible first | refine quiet_id ?_ | refine wrote_id ?_ | refine resQ_id ?_); simp -implicitDefEqProofs only [go_sem, Nat.reduceSub, Nat.reduceAdd, Nat.reduceLeDiff, Nat.reduceEqDiff, Nat.reduceBEq, Nat.reduceLT, k1]) | fail)
  all_goals (refine endB hle ?_; simp only [Ex.dE_eq, ← iEq_dE, ← sEq_dE, ← bEq_dE]; simp [*])

theorem ssameStmt_step {O : Cfg} (a b : St) (ha : a.Ok) (e1 : ∀ y, PureCall O f_sSameExpr [.agg a.expr.cells, .agg y.cells] (.bool (dE a.expr y))) (e2 : ∀ x ∈ a.decls, ∀ y, PureCall O f_ssameDecl [.agg x.cells, .agg y.cells] (.bool (dE x y))) : PureCall O f_ssameStmt [.agg a.cells, .agg b.cells] (.bool (dE a b)) := by
  refine entryF h_ssameStmt rfl fun H => ?_
  simp -implicitDefEqProofs only [go_sem, Nat.reduceSub, Nat.reduceAdd, Nat.reduceLeDiff, Nat.reduceEqDiff, Nat.reduceBEq, Nat.reduceLT, c_ssameStmt]
  refine boxed_intro rfl fun i1 h1 => ?_; simp -implicitDefEqProofs only [go_sem, Nat.reduceSub, Nat.reduceAdd, Nat.reduceLeDiff, Nat.reduceEqDiff, Nat.reduceBEq, Nat.reduceLT]
  refine boxed_intro rfl fun i2 h2 => ?_; simp -implicitDefEqProofs only [go_sem, Nat.reduceSub, Nat.reduceAdd, Nat.reduceLeDiff, Nat.reduceEqDiff, Nat.reduceBEq, Nat.reduceLT]
  have k1 := upd_old (o' := .cells b.cells) (Hp.upd_same H i1 (.cells a.cells)) h2
  have hle := le_new (le_new (le_self H) h1 (.cells a.cells)) h2 (.cells b.cells)
  refine go ?_; simp -implicitDefEqProofs only [go_sem, Nat.reduceSub, Nat.reduceAdd, Nat.reduceLeDiff, Nat.reduceEqDiff, Nat.reduceBEq, Nat.reduceLT, k1]
  repeat' (first | ((with_reducible refine PureCall.step (eqfPat_pure _ _ ha.patL _ (fun x hx y => ssamePat_pure (ha.pat x hx) y)) ?_); simp -implicitDefEqProofs only [go_sem, Nat.reduceSub, Nat.reduceAdd, Nat.reduceLeDiff, Nat.reduceEqDiff, Nat.reduceBEq, Nat.reduceLT, k1]) | ((with_reducible refine PureCall.step (e1 _) ?_); simp -implicitDefEqProofs only [go_sem, Nat.reduceSub, Nat.reduceAdd, Nat.reduceLeDiff, Nat.reduceEqDiff, Nat.reduceBEq, Nat.reduceLT, k1]) | ((with_reducible refine PureCall.step (eqfDecl_pure _ _ ha.declsL _ e2) ?_); simp -implicitDefEqProofs only [go_sem, Nat.reduceSub, Nat.reduceAdd, Nat.reduceLeDiff, Nat.reduceEqDiff, Nat.reduceBEq, Nat.reduceLT, k1]) | (refine wpC_split rfl rfl (fun h => ?_) (fun h => ?_) <;> (try simp -implicitDefEqProofs only [go_sem, Nat.reduceSub, Nat.reduceAdd, Nat.reduceLeDiff, Nat.reduceEqDiff, Nat.reduceBEq, Nat.reduceLT, h, k1])) | (refine plan_split rfl rfl (fun h => ?_) (fun h => ?_) <;> simp -implicitDefEqProofs only [go_sem, Nat.reduceSub, Nat.reduceAdd, Nat.reduceLeDiff, Nat.reduceEqDiff, Nat.reduceBEq, Nat.reduceLT, h, k1]) | (refine planD_split rfl rfl (fun h => ?_) (fun h => ?_) <;> simp -implicitDefEqProofs only [go_sem, Nat.reduceSub, Nat.reduceAdd, Nat.reduceLeDiff, Nat.reduceEqDiff, Nat.reduceBEq, Nat.reduceLT, h, k1]) | (refine go ?_; try simp -implicitDefEqProofs only [go_sem, Nat.reduceSub, Nat.reduceAdd, Nat.reduceLeDiff, Nat.reduceEqDiff, Nat.reduceBEq, Nat.reduceLT, k1]) | ((with_reducible refine wpC_id ?_); simp -implicitDefEqProofs only [go_sem, Nat.reduceSub, Nat.reduceAdd, Nat.reduceLeDiff, Nat.reduceEqDiff, Nat.reduceBEq, Nat.reduceLT, k1]) | ((with_reducible first | refine quiet_id ?_ | refine wrote_id ?_ | refine resQ_id ?_); simp -implicitDefEqProofs only [go_sem, Nat.reduceSub, Nat.reduceAdd, Nat.reduceLeDiff, Nat.reduceEqDiff, Nat.reduceBEq, Nat.reduceLT, k1]) | fail)
  all_goals (refine endB hle ?_; simp only [St.dE_eq, ← iEq_dE, ← sEq_dE, ← bEq_dE]; simp [*])

theorem ssameAlt_1_step {O : Cfg} (a b : Gu) (ha : a.Ok) (e1 : ∀ x ∈ a.cond, ∀ y, PureCall O f_sSameExpr [.agg x.cells, .agg y.cells] (.bool (dE x y))) (e2 : ∀ y, PureCall O f_sSameExpr [.agg a.thn.cells, .agg y.cells] (.bool (dE a.thn y))) : PureCall O f_ssameAlt_1 [.agg a.cells, .agg b.cells] (.bool (dE a b)) := by
  refine entryF h_ssameAlt_1 rfl fun H => ?_
  simp -implicitDefEqProofs only [go_sem, Nat.reduceSub, Nat.reduceAdd, Nat.reduceLeDiff, Nat.reduceEqDiff, Nat.reduceBEq, Nat.reduceLT, c_ssameAlt_1]
  refine boxed_intro rfl fun i1 h1 => ?_; simp -implicitDefEqProofs only [go_sem, Nat.reduceSub, Nat.reduceAdd, Nat.reduceLeDiff, Nat.reduceEqDiff, Nat.reduceBEq, Nat.reduceLT]
  refine boxed_intro rfl fun i2 h2 => ?_; simp -implicitDefEqProofs only [go_sem, Nat.reduceSub, Nat.reduceAdd, Nat.reduceLeDiff, Nat.reduceEqDiff, Nat.reduceBEq, Nat.reduceLT]
  have k1 := upd_old (o' := .cells b.cells) (Hp.upd_same H i1 (.cells a.cells)) h2
  have hle := le_new (le_new (le_self H) h1 (.cells a.cells)) h2 (.cells b.cells)
  refine go ?_; simp -implicitDefEqProofs only [go_sem, Nat.reduceSub, Nat.reduceAdd, Nat.reduceLeDiff, Nat.reduceEqDiff, Nat.reduceBEq, Nat.reduceLT, k1]
  repeat' (first | ((with_reducible refine PureCall.step (eqfExpr_pure _ _ ha.condL _ e1) ?_); simp -implicitDefEqProofs only [go_sem, Nat.reduceSub, Nat.reduceAdd, Nat.reduceLeDiff, Nat.reduceEqDiff, Nat.reduceBEq, Nat.reduceLT, k1]) | ((with_reducible refine PureCall.step (e2 _) ?_); simp -implicitDefEqProofs only [go_sem, Nat.reduceSub, Nat.reduceAdd, Nat.reduceLeDiff, Nat.reduceEqDiff, Nat.reduceBEq, Nat.reduceLT, k1]) | (refine wpC_split rfl rfl (fun h => ?_) (fun h => ?_) <;> (try simp -implicitDefEqProofs only [go_sem, Nat.reduceSub, Nat.reduceAdd, Nat.reduceLeDiff, Nat.reduceEqDiff, Nat.reduceBEq, Nat.reduceLT, h, k1])) | (refine plan_split rfl rfl (fun h => ?_) (fun h => ?_) <;> simp -implicitDefEqProofs only [go_sem, Nat.reduceSub, Nat.reduceAdd, Nat.reduceLeDiff, Nat.reduceEqDiff, Nat.reduceBEq, Nat.reduceLT, h, k1]) | (refine planD_split rfl rfl (fun h => ?_) (fun h => ?_) <;> simp -implicitDefEqProofs only [go_sem, Nat.reduceSub, Nat.reduceAdd, Nat.reduceLeDiff, Nat.reduceEqDiff, Nat.reduceBEq, Nat.reduceLT, h, k1]) | (refine go ?_; try simp -implicitDefEqProofs only [go_sem, Nat.reduceSub, Nat.reduceAdd, Nat.reduceLeDiff, Nat.reduceEqDiff, Nat.reduceBEq, Nat.reduceLT, k1]) | ((with_reducible refine wpC_id ?_); simp -implicitDefEqProofs only [go_sem, Nat.reduceSub, Nat.reduceAdd, Nat.reduceLeDiff, Nat.reduceEqDiff, Nat.reduceBEq, Nat.reduceLT, k1]) | ((with_reducible first | refine quiet_id ?_ | refine wrote_id ?_ | refine resQ_id ?_); simp -implicitDefEqProofs only [go_sem, Nat.reduceSub, Nat.reduceAdd, Nat.reduceLeDiff, Nat.reduceEqDiff, Nat.reduceBEq, Nat.reduceLT, k1]) | fail)
  all_goals (refine endB hle ?_; simp only [Gu.dE_eq, ← iEq_dE, ← sEq_dE, ← bEq_dE]; simp [*])

theorem ssameAlt_step {O : Cfg} (a b : Al) (ha : a.Ok) (e1 : ∀ x ∈ a.rhs, ∀ y, PureCall O f_ssameAlt_1 [.agg x.cells, .agg y.cells] (.bool (dE x y))) (e2 : ∀ x ∈ a.wh, ∀ y, PureCall O f_ssameDecl [.agg x.cells, .agg y.cells] (.bool (dE x y))) : PureCall O f_ssameAlt [.agg a.cells, .agg b.cells] (.bool (dE a b)) := by
  refine entryF h_ssameAlt rfl fun H => ?_
  simp -implicitDefEqProofs only [go_sem, Nat.reduceSub, Nat.reduceAdd, Nat.reduceLeDiff, Nat.reduceEqDiff, Nat.reduceBEq, Nat.reduceLT, c_ssameAlt]
  refine boxed_intro rfl fun i1 h1 => ?_; simp -implicitDefEqProofs only [go_sem, Nat.reduceSub, Nat.reduceAdd, Nat.reduceLeDiff, Nat.reduceEqDiff, Nat.reduceBEq, Nat.reduceLT]
  refine boxed_intro rfl fun i2 h2 => ?_; simp -implicitDefEqProofs only [go_sem, Nat.reduceSub, Nat.reduceAdd, Nat.reduceLeDiff, Nat.reduceEqDiff, Nat.reduceBEq, Nat.reduceLT]
  have k1 := upd_old (o' := .cells b.cells) (Hp.upd_same H i1 (.cells a.cells)) h2
  have hle := le_new (le_new (le_self H) h1 (.cells a.cells)) h2 (.cells b.cells)
  refine go ?_; simp -implicitDefEqProofs only [go_sem, Nat.reduceSub, Nat.reduceAdd, Nat.reduceLeDiff, Nat.reduceEqDiff, Nat.reduceBEq, Nat.reduceLT, k1]
  repeat' (first | ((with_reducible refine PureCall.step (eqfPat_pure _ _ ha.patsL _ (fun x hx y => ssamePat_pure (ha.pats x hx) y)) ?_); simp -implicitDefEqProofs only [go_sem, Nat.reduceSub, Nat.reduceAdd, Nat.reduceLeDiff, Nat.reduceEqDiff, Nat.reduceBEq, Nat.reduceLT, k1]) | ((with_reducible refine PureCall.step (eqfGuard_pure _ _ ha.rhsL _ e1) ?_); simp -implicitDefEqProofs only [go_sem, Nat.reduceSub, Nat.reduceAdd, Nat.reduceLeDiff, Nat.reduceEqDiff, Nat.reduceBEq, Nat.reduceLT, k1]) | ((with_reducible refine PureCall.step (eqfDecl_pure _ _ ha.whL _ e2) ?_); simp -implicitDefEqProofs only [go_sem, Nat.reduceSub, Nat.reduceAdd, Nat.reduceLeDiff, Nat.reduceEqDiff, Nat.reduceBEq, Nat.reduceLT, k1]) | (refine wpC_split rfl rfl (fun h => ?_) (fun h => ?_) <;> (try simp -implicitDefEqProofs only [go_sem, Nat.reduceSub, Nat.reduceAdd, Nat.reduceLeDiff, Nat.reduceEqDiff, Nat.reduceBEq, Nat.reduceLT, h, k1])) | (refine plan_split rfl rfl (fun h => ?_) (fun h => ?_) <;> simp -implicitDefEqProofs only [go_sem, Nat.reduceSub, Nat.reduceAdd, Nat.reduceLeDiff, Nat.reduceEqDiff, Nat.reduceBEq, Nat.reduceLT, h, k1]) | (refine planD_split rfl rfl (fun h => ?_) (fun h => ?_) <;> simp -implicitDefEqProofs only [go_sem, Nat.reduceSub, Nat.reduceAdd, Nat.reduceLeDiff, Nat.reduceEqDiff, Nat.reduceBEq, Nat.reduceLT, h, k1]) | (refine go ?_; try simp -implicitDefEqProofs only [go_sem, Nat.reduceSub, Nat.reduceAdd, Nat.reduceLeDiff, Nat.reduceEqDiff, Nat.reduceBEq, Nat.reduceLT, k1]) | ((with_reducible refine wpC_id ?_); simp -implicitDefEqProofs only [go_sem, Nat.reduceSub, Nat.reduceAdd, Nat.reduceLeDiff, Nat.reduceEqDiff, Nat.reduceBEq, Nat.reduceLT, k1]) | ((with_reducible first | refine quiet_id ?_ | refine wrote_id ?_ | refine resQ_id ?_); simp -implicitDefEqProofs only [go_sem, Nat.reduceSub, Nat.reduceAdd, Nat.reduceLeDiff, Nat.reduceEqDiff, Nat.reduceBEq, Nat.reduceLT, k1]) | fail)
  all_goals (refine endB hle ?_; simp only [Al.dE_eq, ← iEq_dE, ← sEq_dE, ← bEq_dE]; simp [*])

theorem ssameDecl_step {O : Cfg} (a b : De) (ha : a.Ok) (e1 : ∀ x ∈ a.alts, ∀ y, PureCall O f_ssameAlt [.agg x.cells, .agg y.cells] (.bool (dE x y))) (e2 : ∀ x ∈ a.decls, ∀ y, PureCall O f_ssameDecl [.agg x.cells, .agg y.cells] (.bool (dE x y))) : PureCall O f_ssameDecl [.agg a.cells, .agg b.cells] (.bool (dE a b)) := by
  refine entryF h_ssameDecl rfl fun H => ?_
  simp -implicitDefEqProofs only [go_sem, Nat.reduceSub, Nat.reduceAdd, Nat.reduceLeDiff, Nat.reduceEqDiff, Nat.reduceBEq, Nat.reduceLT, c_ssameDecl]
  refine boxed_intro rfl fun i1 h1 => ?_; simp -implicitDefEqProofs only [go_sem, Nat.reduceSub, Nat.reduceAdd, Nat.reduceLeDiff, Nat.reduceEqDiff, Nat.reduceBEq, Nat.reduceLT]
  refine boxed_intro rfl fun i2 h2 => ?_; simp -implicitDefEqProofs only [go_sem, Nat.reduceSub, Nat.reduceAdd, Nat.reduceLeDiff, Nat.reduceEqDiff, Nat.reduceBEq, Nat.reduceLT]
  have k1 := upd_old (o' := .cells b.cells) (Hp.upd_same H i1 (.cells a.cells)) h2
  have hle := le_new (le_new (le_self H) h1 (.cells a.cells)) h2 (.cells b.cells)
  refine go ?_; simp -implicitDefEqProofs only [go_sem, Nat.reduceSub, Nat.reduceAdd, Nat.reduceLeDiff, Nat.reduceEqDiff, Nat.reduceBEq, Nat.reduceLT, k1]
  repeat' (first | ((with_reducible refine PureCall.step (sSameType_pure ha.type _) ?_); simp -implicitDefEqProofs only [go_sem, Nat.reduceSub, Nat.reduceAdd, Nat.reduceLeDiff, Nat.reduceEqDiff, Nat.reduceBEq, Nat.reduceLT, k1]) | ((with_reducible refine PureCall.step (eqfCon_pure _ _ ha.consL _ (fun x hx y => ssameDecl_1_step x y (ha.cons x hx))) ?_); simp -implicitDefEqProofs only [go_sem, Nat.reduceSub, Nat.reduceAdd, Nat.reduceLeDiff, Nat.reduceEqDiff, Nat.reduceBEq, Nat.reduceLT, k1]) | ((with_reducible refine PureCall.step (eqString_pure _ _ ha.derivs.1) ?_); simp -implicitDefEqProofs only [go_sem, Nat.reduceSub, Nat.reduceAdd, Nat.reduceLeDiff, Nat.reduceEqDiff, Nat.reduceBEq, Nat.reduceLT, k1]) | ((with_reducible refine PureCall.step (eqfEq_pure _ _ ha.eqsL _ (fun x hx y => ssameDecl_2_step x y (ha.eqs x hx))) ?_); simp -implicitDefEqProofs only [go_sem, Nat.reduceSub, Nat.reduceAdd, Nat.reduceLeDiff, Nat.reduceEqDiff, Nat.reduceBEq, Nat.reduceLT, k1]) | ((with_reducible refine PureCall.step (eqfBinder_pure _ _ ha.varsL _ (fun x hx y => ssameDecl_3_step x y (ha.vars x hx))) ?_); simp -implicitDefEqProofs only [go_sem, Nat.reduceSub, Nat.reduceAdd, Nat.reduceLeDiff, Nat.reduceEqDiff, Nat.reduceBEq, Nat.reduceLT, k1]) | ((with_reducible refine PureCall.step (eqfType_pure _ _ ha.contextL _ (fun x hx y => sSameType_pure (ha.context x hx) y)) ?_); simp -implicitDefEqProofs only [go_sem, Nat.reduceSub, Nat.reduceAdd, Nat.reduceLeDiff, Nat.reduceEqDiff, Nat.reduceBEq, Nat.reduceLT, k1]) | ((with_reducible refine PureCall.step (eqfDep_pure _ _ ha.depsL _ (fun x hx y => ssameDecl_4_step x y (ha.deps x hx))) ?_); simp -implicitDefEqProofs only [go_sem, Nat.reduceSub, Nat.reduceAdd, Nat.reduceLeDiff, Nat.reduceEqDiff, Nat.reduceBEq, Nat.reduceLT, k1]) | ((with_reducible refine PureCall.step (eqfSig_pure _ _ ha.sigsL _ (fun x hx y => ssameDecl_5_step x y (ha.sigs x hx))) ?_); simp -implicitDefEqProofs only [go_sem, Nat.reduceSub, Nat.reduceAdd, Nat.reduceLeDiff, Nat.reduceEqDiff, Nat.reduceBEq, Nat.reduceLT, k1]) | ((with_reducible refine PureCall.step (eqfAlt_pure _ _ ha.altsL _ e1) ?_); simp -implicitDefEqProofs only [go_sem, Nat.reduceSub, Nat.reduceAdd, Nat.reduceLeDiff, Nat.reduceEqDiff, Nat.reduceBEq, Nat.reduceLT, k1]) | ((with_reducible refine PureCall.step (eqfDecl_pure _ _ ha.declsL _ e2) ?_); simp -implicitDefEqProofs only [go_sem, Nat.reduceSub, Nat.reduceAdd, Nat.reduceLeDiff, Nat.reduceEqDiff, Nat.reduceBEq, Nat.reduceLT, k1]) | (refine wpC_split rfl rfl (fun h => ?_) (fun h => ?_) <;> (try simp -implicitDefEqProofs only [go_sem, Nat.reduceSub, Nat.reduceAdd, Nat.reduceLeDiff, Nat.reduceEqDiff, Nat.reduceBEq, Nat.reduceLT, h, k1])) | (refine plan_split rfl rfl (fun h => ?_) (fun h => ?_) <;> simp -implicitDefEqProofs only [go_sem, Nat.reduceSub, Nat.reduceAdd, Nat.reduceLeDiff, Nat.reduceEqDiff, Nat.reduceBEq, Nat.reduceLT, h, k1]) | (refine planD_split rfl rfl (fun h => ?_) (fun h => ?_) <;> simp -implicitDefEqProofs only [go_sem, Nat.reduceSub, Nat.reduceAdd, Nat.reduceLeDiff, Nat.reduceEqDiff, Nat.reduceBEq, Nat.reduceLT, h, k1]) | (refine go ?_; try simp -implicitDefEqProofs only [go_sem, Nat.reduceSub, Nat.reduceAdd, Nat.reduceLeDiff, Nat.reduceEqDiff, Nat.reduceBEq, Nat.reduceLT, k1]) | ((with_reducible refine wpC_id ?_); simp -implicitDefEqProofs only [go_sem, Nat.reduceSub, Nat.reduceAdd, Nat.reduceLeDiff, Nat.reduceEqDiff, Nat.reduceBEq, Nat.reduceLT, k1]) | ((with_reducible first | refine quiet_id ?_ | refine wrote_id ?_ | refine resQ_id ?_); simp -implicitDefEqProofs only [go_sem, Nat.reduceSub, Nat.reduceAdd, Nat.reduceLeDiff, Nat.reduceEqDiff, Nat.reduceBEq, Nat.reduceLT, k1]) | fail)
  all_goals (refine endB hle ?_; simp only [De.dE_eq, ← iEq_dE, ← sEq_dE, ← bEq_dE]; simp [*])

mutual
theorem sSameExpr_pure {O : Cfg} (a : Ex) (ha : a.Ok) (b : Ex) : PureCall O f_sSameExpr [.agg a.cells, .agg b.cells] (.bool (dE a b)) :=
  sSameExpr_step a b ha (fun x hx y => sSameExpr_pure x (ha.args x hx) y) (fun x hx y => ssameDecl_pure x (ha.decls x hx) y) (fun x hx y => ssameAlt_pure x (ha.alts x hx) y) (fun x hx y => ssameStmt_pure x (ha.stmts x hx) y)
termination_by SizeOf.sizeOf a
decreasing_by all_goals (cases a; simp only [Ex.args_mk, Ex.decls_mk, Ex.alts_mk, Ex.stmts_mk] at hx; have := List.sizeOf_lt_of_mem hx; simp; omega)
theorem ssameStmt_pure {O : Cfg} (a : St) (ha : a.Ok) (b : St) : PureCall O f_ssameStmt [.agg a.cells, .agg b.cells] (.bool (dE a b)) :=
  ssameStmt_step a b ha (fun y => sSameExpr_pure a.expr ha.expr y) (fun x hx y => ssameDecl_pure x (ha.decls x hx) y)
termination_by SizeOf.sizeOf a
decreasing_by
  · cases a; simp; omega
  · cases a; simp only [St.decls_mk] at hx; have := List.sizeOf_lt_of_mem hx; simp; omega
theorem ssameAlt_pure {O : Cfg} (a : Al) (ha : a.Ok) (b : Al) : PureCall O f_ssameAlt [.agg a.cells, .agg b.cells] (.bool (dE a b)) :=
  ssameAlt_step a b ha (fun x hx y => ssameGuard_pure x (ha.rhs x hx) y) (fun x hx y => ssameDecl_pure x (ha.wh x hx) y)
termination_by SizeOf.sizeOf a
decreasing_by all_goals (cases a; simp only [Al.rhs_mk, Al.wh_mk] at hx; have := List.sizeOf_lt_of_mem hx; simp; omega)
theorem ssameGuard_pure {O : Cfg} (a : Gu) (ha : a.Ok) (b : Gu) : PureCall O f_ssameAlt_1 [.agg a.cells, .agg b.cells] (.bool (dE a b)) :=
  ssameAlt_1_step a b ha (fun x hx y => sSameExpr_pure x (ha.cond x hx) y) (fun y => sSameExpr_pure a.thn ha.thn y)
termination_by SizeOf.sizeOf a
decreasing_by
  · cases a; simp only [Gu.cond_mk] at hx; have := List.sizeOf_lt_of_mem hx; simp; omega
  · cases a; simp; omega
theorem ssameDecl_pure {O : Cfg} (a : De) (ha : a.Ok) (b : De) : PureCall O f_ssameDecl [.agg a.cells, .agg b.cells] (.bool (dE a b)) :=
  ssameDecl_step a b ha (fun x hx y => ssameAlt_pure x (ha.alts x hx) y) (fun x hx y => ssameDecl_pure x (ha.decls x hx) y)
termination_by SizeOf.sizeOf a
decreasing_by all_goals (cases a; simp only [De.alts_mk, De.decls_mk] at hx; have := List.sizeOf_lt_of_mem hx; simp; omega)
end

theorem sSame_step {O : Cfg} (a b : Mo) (ha : a.Ok) : PureCall O f_sSame [.agg a.cells, .agg b.cells] (.bool (dE a b)) := by
  refine entryF h_sSame rfl fun H => ?_
  simp -implicitDefEqProofs only [go_sem, Nat.reduceSub, Nat.reduceAdd, Nat.reduceLeDiff, Nat.reduceEqDiff, Nat.reduceBEq, Nat.reduceLT, c_sSame]
  refine boxed_intro rfl fun i1 h1 => ?_; simp -implicitDefEqProofs only [go_sem, Nat.reduceSub, Nat.reduceAdd, Nat.reduceLeDiff, Nat.reduceEqDiff, Nat.reduceBEq, Nat.reduceLT]
  refine boxed_intro rfl fun i2 h2 => ?_; simp -implicitDefEqProofs only [go_sem, Nat.reduceSub, Nat.reduceAdd, Nat.reduceLeDiff, Nat.reduceEqDiff, Nat.reduceBEq, Nat.reduceLT]
  have k1 := upd_old (o' := .cells b.cells) (Hp.upd_same H i1 (.cells a.cells)) h2
  have hle := le_new (le_new (le_self H) h1 (.cells a.cells)) h2 (.cells b.cells)
  refine go ?_; simp -implicitDefEqProofs only [go_sem, Nat.reduceSub, Nat.reduceAdd, Nat.reduceLeDiff, Nat.reduceEqDiff, Nat.reduceBEq, Nat.reduceLT, k1]
  repeat' (first | ((with_reducible refine PureCall.step (eqString_pure _ _ ha.exports.1) ?_); simp -implicitDefEqProofs only [go_sem, Nat.reduceSub, Nat.reduceAdd, Nat.reduceLeDiff, Nat.reduceEqDiff, Nat.reduceBEq, Nat.reduceLT, k1]) | ((with_reducible refine PureCall.step (eqfImport_pure _ _ ha.importsL _ (fun x hx y => sSame_1_step x y (ha.imports x hx))) ?_); simp -implicitDefEqProofs only [go_sem, Nat.reduceSub, Nat.reduceAdd, Nat.reduceLeDiff, Nat.reduceEqDiff, Nat.reduceBEq, Nat.reduceLT, k1]) | ((with_reducible refine PureCall.step (eqfDecl_pure _ _ ha.declsL _ (fun x hx y => ssameDecl_pure x (ha.decls x hx) y)) ?_); simp -implicitDefEqProofs only [go_sem, Nat.reduceSub, Nat.reduceAdd, Nat.reduceLeDiff, Nat.reduceEqDiff, Nat.reduceBEq, Nat.reduceLT, k1]) | (refine wpC_split rfl rfl (fun h => ?_) (fun h => ?_) <;> (try simp -implicitDefEqProofs only [go_sem, Nat.reduceSub, Nat.reduceAdd, Nat.reduceLeDiff, Nat.reduceEqDiff, Nat.reduceBEq, Nat.reduceLT, h, k1])) | (refine plan_split rfl rfl (fun h => ?_) (fun h => ?_) <;> simp -implicitDefEqProofs only [go_sem, Nat.reduceSub, Nat.reduceAdd, Nat.reduceLeDiff, Nat.reduceEqDiff, Nat.reduceBEq, Nat.reduceLT, h, k1]) | (refine planD_split rfl rfl (fun h => ?_) (fun h => ?_) <;> simp -implicitDefEqProofs only [go_sem, Nat.reduceSub, Nat.reduceAdd, Nat.reduceLeDiff, Nat.reduceEqDiff, Nat.reduceBEq, Nat.reduceLT, h, k1]) | (refine go ?_; try simp -implicitDefEqProofs only [go_sem, Nat.reduceSub, Nat.reduceAdd, Nat.reduceLeDiff, Nat.reduceEqDiff, Nat.reduceBEq, Nat.reduceLT, k1]) | ((with_reducible refine wpC_id ?_); simp -implicitDefEqProofs only [go_sem, Nat.reduceSub, Nat.reduceAdd, Nat.reduceLeDiff, Nat.reduceEqDiff, Nat.reduceBEq, Nat.reduceLT, k1]) | ((with_reducible first | refine quiet_id ?_ | refine wrote_id ?_ | refine resQ_id ?_); simp -implicitDefEqProofs only [go_sem, Nat.reduceSub, Nat.reduceAdd, Nat.reduceLeDiff, Nat.reduceEqDiff, Nat.reduceBEq, Nat.reduceLT, k1]) | fail)
  all_goals (refine endB hle ?_; simp only [Mo.dE_eq, ← iEq_dE, ← sEq_dE, ← bEq_dE]; simp [*])

end Go.Proofs.YtmpoklkgdcofbaaGreatDoor

/- MADE BY PROGRAM (wip/tools/gsame.py): types, patterns, expressions, declarations compared: the reference. -/
set_option maxRecDepth 100000
set_option linter.unusedVariables false
set_option linter.unusedSimpArgs false
namespace Go.Proofs.YtmpoklkgdcofbaaGreatDoor
open Go.Eng

theorem rSameStr_pure {O : Cfg} (a b : List Str) (ha : a.length ≤ 140737488355328) : PureCall O f_rSameStrings [cS a, cS b] (.bool (dE a b)) := fun H => by
  rw [cS_rows, cS_rows]
  refine entry h_rSameStrings rfl ?_; simp -implicitDefEqProofs only [go_sem, Nat.reduceSub, Nat.reduceAdd, Nat.reduceLeDiff, Nat.reduceEqDiff, Nat.reduceBEq, Nat.reduceLT, c_rSameStrings]
  refine AC.cut (fun st => a.length = b.length ∧ st = ⟨mk 26 [(0, .sl (strRows a) .no), (1, .sl (strRows b) .no)], H, []⟩) ?_ ?_
  · repeat' (first | (refine wpC_split rfl rfl (fun h => ?_) (fun h => ?_) <;> (try simp -implicitDefEqProofs only [go_sem, Nat.reduceSub, Nat.reduceAdd, Nat.reduceLeDiff, Nat.reduceEqDiff, Nat.reduceBEq, Nat.reduceLT, h])) | (refine plan_split rfl rfl (fun h => ?_) (fun h => ?_) <;> simp -implicitDefEqProofs only [go_sem, Nat.reduceSub, Nat.reduceAdd, Nat.reduceLeDiff, Nat.reduceEqDiff, Nat.reduceBEq, Nat.reduceLT, h]) | (refine planD_split rfl rfl (fun h => ?_) (fun h => ?_) <;> simp -implicitDefEqProofs only [go_sem, Nat.reduceSub, Nat.reduceAdd, Nat.reduceLeDiff, Nat.reduceEqDiff, Nat.reduceBEq, Nat.reduceLT, h]) | (refine go ?_; try simp -implicitDefEqProofs only [go_sem, Nat.reduceSub, Nat.reduceAdd, Nat.reduceLeDiff, Nat.reduceEqDiff, Nat.reduceBEq, Nat.reduceLT]) | ((with_reducible refine wpC_id ?_); simp -implicitDefEqProofs only [go_sem, Nat.reduceSub, Nat.reduceAdd, Nat.reduceLeDiff, Nat.reduceEqDiff, Nat.reduceBEq, Nat.reduceLT]) | ((with_reducible first | refine quiet_id ?_ | refine wrote_id ?_ | refine resQ_id ?_); simp -implicitDefEqProofs only [go_sem, Nat.reduceSub, Nat.reduceAdd, Nat.reduceLeDiff, Nat.reduceEqDiff, Nat.reduceBEq, Nat.reduceLT]) | fail)
    · have h1 := iEq_false.1 (bNot_true.1 h)
      rw [rLen_str, rLen_str] at h1
      rw [dE_false.2]; intro e; rw [e] at h1; exact h1 rfl
    · have h1 := iEq_true.1 (bNot_false.1 h)
      rw [rLen_str, rLen_str] at h1
      omega
  · rintro _ ⟨hlen, rfl⟩
    refine go ?_; simp -implicitDefEqProofs only [go_sem, Nat.reduceSub, Nat.reduceAdd, Nat.reduceLeDiff, Nat.reduceEqDiff, Nat.reduceBEq, Nat.reduceLT]
    refine go ?_; simp -implicitDefEqProofs only [go_sem, Nat.reduceSub, Nat.reduceAdd, Nat.reduceLeDiff, Nat.reduceEqDiff, Nat.reduceBEq, Nat.reduceLT]
    rw [wpC_loop]
    refine AC.loop (fun n st => ∃ i : Nat, i + n = a.length ∧ a.take i = b.take i ∧ st = ⟨mk 26 [(0, .sl (strRows a) .no), (1, .sl (strRows b) .no), (12, .int .i64 (rLen (strRows a))), (13, .int .i64 i)], H, []⟩) a.length ⟨0, by omega, rfl, rfl⟩ ?_
    rintro n _ ⟨i, hi, hall, rfl⟩
    simp -implicitDefEqProofs only [go_sem, Nat.reduceSub, Nat.reduceAdd, Nat.reduceLeDiff, Nat.reduceEqDiff, Nat.reduceBEq, Nat.reduceLT, l_rSameStrings_0]
    refine go ?_; simp -implicitDefEqProofs only [go_sem, Nat.reduceSub, Nat.reduceAdd, Nat.reduceLeDiff, Nat.reduceEqDiff, Nat.reduceBEq, Nat.reduceLT]
    refine go ?_; simp -implicitDefEqProofs only [go_sem, Nat.reduceSub, Nat.reduceAdd, Nat.reduceLeDiff, Nat.reduceEqDiff, Nat.reduceBEq, Nat.reduceLT]
    refine wpC_split rfl rfl (fun h => ?_) (fun h => ?_) <;> simp -implicitDefEqProofs only [go_sem, Nat.reduceSub, Nat.reduceAdd, Nat.reduceLeDiff, Nat.reduceEqDiff, Nat.reduceBEq, Nat.reduceLT]
    · rw [iLt_true, rLen_str] at h
      obtain ⟨x, hx⟩ : ∃ x, a[i]? = some x := ⟨_, List.getElem?_eq_getElem (by omega)⟩
      obtain ⟨y, hy⟩ : ∃ y, b[i]? = some y := ⟨_, List.getElem?_eq_getElem (by omega)⟩
      have e : wAdd .i64 (i : Int) 1 = ((i + 1 : Nat) : Int) := by rw [wAdd_i64] <;> omega
      repeat' (first | (refine wpC_split rfl rfl (fun h => ?_) (fun h => ?_) <;> (try simp -implicitDefEqProofs only [go_sem, Nat.reduceSub, Nat.reduceAdd, Nat.reduceLeDiff, Nat.reduceEqDiff, Nat.reduceBEq, Nat.reduceLT, h, iaddrA_str hx, iaddrA_str hy])) | (refine plan_split rfl rfl (fun h => ?_) (fun h => ?_) <;> simp -implicitDefEqProofs only [go_sem, Nat.reduceSub, Nat.reduceAdd, Nat.reduceLeDiff, Nat.reduceEqDiff, Nat.reduceBEq, Nat.reduceLT, h, iaddrA_str hx, iaddrA_str hy]) | (refine planD_split rfl rfl (fun h => ?_) (fun h => ?_) <;> simp -implicitDefEqProofs only [go_sem, Nat.reduceSub, Nat.reduceAdd, Nat.reduceLeDiff, Nat.reduceEqDiff, Nat.reduceBEq, Nat.reduceLT, h, iaddrA_str hx, iaddrA_str hy]) | (refine go ?_; try simp -implicitDefEqProofs only [go_sem, Nat.reduceSub, Nat.reduceAdd, Nat.reduceLeDiff, Nat.reduceEqDiff, Nat.reduceBEq, Nat.reduceLT, iaddrA_str hx, iaddrA_str hy]) | ((with_reducible refine wpC_id ?_); simp -implicitDefEqProofs only [go_sem, Nat.reduceSub, Nat.reduceAdd, Nat.reduceLeDiff, Nat.reduceEqDiff, Nat.reduceBEq, Nat.reduceLT, iaddrA_str hx, iaddrA_str hy]) | ((with_reducible first | refine quiet_id ?_ | refine wrote_id ?_ | refine resQ_id ?_); simp -implicitDefEqProofs only [go_sem, Nat.reduceSub, Nat.reduceAdd, Nat.reduceLeDiff, Nat.reduceEqDiff, Nat.reduceBEq, Nat.reduceLT, iaddrA_str hx, iaddrA_str hy]) | fail)
      · have h1 := sEq_false.1 (bNot_true.1 h)
        rw [dE_false.2]
        intro e'; rw [e', hy] at hx
        exact h1 (Option.some.inj hx).symm
      · have h1 := sEq_true.1 (bNot_false.1 h)
        exact ⟨n - 1, by omega, i + 1, by omega, take_step hall hx hy h1, by rw [e]⟩
    · rw [iLt_false, rLen_str] at h
      have h1 : i = a.length := by omega
      subst h1
      have := take_eq_all hlen hall
      repeat' (first | (refine wpC_split rfl rfl (fun h => ?_) (fun h => ?_) <;> (try simp -implicitDefEqProofs only [go_sem, Nat.reduceSub, Nat.reduceAdd, Nat.reduceLeDiff, Nat.reduceEqDiff, Nat.reduceBEq, Nat.reduceLT, h])) | (refine plan_split rfl rfl (fun h => ?_) (fun h => ?_) <;> simp -implicitDefEqProofs only [go_sem, Nat.reduceSub, Nat.reduceAdd, Nat.reduceLeDiff, Nat.reduceEqDiff, Nat.reduceBEq, Nat.reduceLT, h]) | (refine planD_split rfl rfl (fun h => ?_) (fun h => ?_) <;> simp -implicitDefEqProofs only [go_sem, Nat.reduceSub, Nat.reduceAdd, Nat.reduceLeDiff, Nat.reduceEqDiff, Nat.reduceBEq, Nat.reduceLT, h]) | (refine go ?_; try simp -implicitDefEqProofs only [go_sem, Nat.reduceSub, Nat.reduceAdd, Nat.reduceLeDiff, Nat.reduceEqDiff, Nat.reduceBEq, Nat.reduceLT]) | ((with_reducible refine wpC_id ?_); simp -implicitDefEqProofs only [go_sem, Nat.reduceSub, Nat.reduceAdd, Nat.reduceLeDiff, Nat.reduceEqDiff, Nat.reduceBEq, Nat.reduceLT]) | ((with_reducible first | refine quiet_id ?_ | refine wrote_id ?_ | refine resQ_id ?_); simp -implicitDefEqProofs only [go_sem, Nat.reduceSub, Nat.reduceAdd, Nat.reduceLeDiff, Nat.reduceEqDiff, Nat.reduceBEq, Nat.reduceLT]) | fail)
      rw [dE_true.2 this]

theorem dSame_step {O : Cfg} (a b : Ty) (hr : PureCall O f_dSameAll [.sl (a.args.map Ty.cells) .no, .sl (b.args.map Ty.cells) .no] (.bool (dE a.args b.args))) : PureCall O f_dSame [.agg a.cells, .agg b.cells] (.bool (dE a b)) := by
  refine entryF h_dSame rfl fun H => ?_
  simp -implicitDefEqProofs only [go_sem, Nat.reduceSub, Nat.reduceAdd, Nat.reduceLeDiff, Nat.reduceEqDiff, Nat.reduceBEq, Nat.reduceLT, c_dSame]
  refine boxed_intro rfl fun i1 h1 => ?_; simp -implicitDefEqProofs only [go_sem, Nat.reduceSub, Nat.reduceAdd, Nat.reduceLeDiff, Nat.reduceEqDiff, Nat.reduceBEq, Nat.reduceLT]
  refine boxed_intro rfl fun i2 h2 => ?_; simp -implicitDefEqProofs only [go_sem, Nat.reduceSub, Nat.reduceAdd, Nat.reduceLeDiff, Nat.reduceEqDiff, Nat.reduceBEq, Nat.reduceLT]
  have k1 := upd_old (o' := .cells b.cells) (Hp.upd_same H i1 (.cells a.cells)) h2
  have hle := le_new (le_new (le_self H) h1 (.cells a.cells)) h2 (.cells b.cells)
  refine go ?_; simp -implicitDefEqProofs only [go_sem, Nat.reduceSub, Nat.reduceAdd, Nat.reduceLeDiff, Nat.reduceEqDiff, Nat.reduceBEq, Nat.reduceLT, k1]
  repeat' (first | ((with_reducible refine PureCall.step (hr) ?_); simp -implicitDefEqProofs only [go_sem, Nat.reduceSub, Nat.reduceAdd, Nat.reduceLeDiff, Nat.reduceEqDiff, Nat.reduceBEq, Nat.reduceLT, k1]) | (refine wpC_split rfl rfl (fun h => ?_) (fun h => ?_) <;> (try simp -implicitDefEqProofs only [go_sem, Nat.reduceSub, Nat.reduceAdd, Nat.reduceLeDiff, Nat.reduceEqDiff, Nat.reduceBEq, Nat.reduceLT, h, k1])) | (refine plan_split rfl rfl (fun h => ?_) (fun h => ?_) <;> simp -implicitDefEqProofs only [go_sem, Nat.reduceSub, Nat.reduceAdd, Nat.reduceLeDiff, Nat.reduceEqDiff, Nat.reduceBEq, Nat.reduceLT, h, k1]) | (refine planD_split rfl rfl (fun h => ?_) (fun h => ?_) <;> simp -implicitDefEqProofs only [go_sem, Nat.reduceSub, Nat.reduceAdd, Nat.reduceLeDiff, Nat.reduceEqDiff, Nat.reduceBEq, Nat.reduceLT, h, k1]) | (refine go ?_; try simp -implicitDefEqProofs only [go_sem, Nat.reduceSub, Nat.reduceAdd, Nat.reduceLeDiff, Nat.reduceEqDiff, Nat.reduceBEq, Nat.reduceLT, k1]) | ((with_reducible refine wpC_id ?_); simp -implicitDefEqProofs only [go_sem, Nat.reduceSub, Nat.reduceAdd, Nat.reduceLeDiff, Nat.reduceEqDiff, Nat.reduceBEq, Nat.reduceLT, k1]) | ((with_reducible first | refine quiet_id ?_ | refine wrote_id ?_ | refine resQ_id ?_); simp -implicitDefEqProofs only [go_sem, Nat.reduceSub, Nat.reduceAdd, Nat.reduceLeDiff, Nat.reduceEqDiff, Nat.reduceBEq, Nat.reduceLT, k1]) | fail)
  all_goals (refine endB hle ?_; simp only [Ty.dE_eq, ← iEq_dE, ← sEq_dE, ← bEq_dE]; simp [*])

theorem dSameAll_step {O : Cfg} (a b : List Ty) (ha : a.length ≤ 140737488355328) (hr : ∀ x ∈ a, ∀ y, PureCall O f_dSame [.agg x.cells, .agg y.cells] (.bool (dE x y))) : PureCall O f_dSameAll [.sl (a.map Ty.cells) .no, .sl (b.map Ty.cells) .no] (.bool (dE a b)) := fun H => by
  refine entry h_dSameAll rfl ?_; simp -implicitDefEqProofs only [go_sem, Nat.reduceSub, Nat.reduceAdd, Nat.reduceLeDiff, Nat.reduceEqDiff, Nat.reduceBEq, Nat.reduceLT, c_dSameAll]
  refine AC.cut (fun st => a.length = b.length ∧ st = ⟨mk 27 [(0, .sl (a.map Ty.cells) .no), (1, .sl (b.map Ty.cells) .no)], H, []⟩) ?_ ?_
  · repeat' (first | (refine wpC_split rfl rfl (fun h => ?_) (fun h => ?_) <;> (try simp -implicitDefEqProofs only [go_sem, Nat.reduceSub, Nat.reduceAdd, Nat.reduceLeDiff, Nat.reduceEqDiff, Nat.reduceBEq, Nat.reduceLT, h])) | (refine plan_split rfl rfl (fun h => ?_) (fun h => ?_) <;> simp -implicitDefEqProofs only [go_sem, Nat.reduceSub, Nat.reduceAdd, Nat.reduceLeDiff, Nat.reduceEqDiff, Nat.reduceBEq, Nat.reduceLT, h]) | (refine planD_split rfl rfl (fun h => ?_) (fun h => ?_) <;> simp -implicitDefEqProofs only [go_sem, Nat.reduceSub, Nat.reduceAdd, Nat.reduceLeDiff, Nat.reduceEqDiff, Nat.reduceBEq, Nat.reduceLT, h]) | (refine go ?_; try simp -implicitDefEqProofs only [go_sem, Nat.reduceSub, Nat.reduceAdd, Nat.reduceLeDiff, Nat.reduceEqDiff, Nat.reduceBEq, Nat.reduceLT]) | ((with_reducible refine wpC_id ?_); simp -implicitDefEqProofs only [go_sem, Nat.reduceSub, Nat.reduceAdd, Nat.reduceLeDiff, Nat.reduceEqDiff, Nat.reduceBEq, Nat.reduceLT]) | ((with_reducible first | refine quiet_id ?_ | refine wrote_id ?_ | refine resQ_id ?_); simp -implicitDefEqProofs only [go_sem, Nat.reduceSub, Nat.reduceAdd, Nat.reduceLeDiff, Nat.reduceEqDiff, Nat.reduceBEq, Nat.reduceLT]) | fail)
    · have h1 := iEq_false.1 (bNot_true.1 h)
      rw [rLen_eq, rLen_eq, List.length_map, List.length_map] at h1
      rw [dE_false.2]; intro e; rw [e] at h1; exact h1 rfl
    · have h1 := iEq_true.1 (bNot_false.1 h)
      rw [rLen_eq, rLen_eq, List.length_map, List.length_map] at h1
      omega
  · rintro _ ⟨hlen, rfl⟩
    refine go ?_; simp -implicitDefEqProofs only [go_sem, Nat.reduceSub, Nat.reduceAdd, Nat.reduceLeDiff, Nat.reduceEqDiff, Nat.reduceBEq, Nat.reduceLT]
    refine go ?_; simp -implicitDefEqProofs only [go_sem, Nat.reduceSub, Nat.reduceAdd, Nat.reduceLeDiff, Nat.reduceEqDiff, Nat.reduceBEq, Nat.reduceLT]
    rw [wpC_loop]
    refine AC.loop (fun n st => ∃ i : Nat, i + n = a.length ∧ a.take i = b.take i ∧ st = ⟨mk 27 [(0, .sl (a.map Ty.cells) .no), (1, .sl (b.map Ty.cells) .no), (12, .int .i64 (rLen (a.map Ty.cells))), (13, .int .i64 i)], H, []⟩) a.length ⟨0, by omega, rfl, rfl⟩ ?_
    rintro n _ ⟨i, hi, hall, rfl⟩
    simp -implicitDefEqProofs only [go_sem, Nat.reduceSub, Nat.reduceAdd, Nat.reduceLeDiff, Nat.reduceEqDiff, Nat.reduceBEq, Nat.reduceLT, l_dSameAll_0]
    refine go ?_; simp -implicitDefEqProofs only [go_sem, Nat.reduceSub, Nat.reduceAdd, Nat.reduceLeDiff, Nat.reduceEqDiff, Nat.reduceBEq, Nat.reduceLT]
    refine go ?_; simp -implicitDefEqProofs only [go_sem, Nat.reduceSub, Nat.reduceAdd, Nat.reduceLeDiff, Nat.reduceEqDiff, Nat.reduceBEq, Nat.reduceLT]
    refine wpC_split rfl rfl (fun h => ?_) (fun h => ?_) <;> simp -implicitDefEqProofs only [go_sem, Nat.reduceSub, Nat.reduceAdd, Nat.reduceLeDiff, Nat.reduceEqDiff, Nat.reduceBEq, Nat.reduceLT]
    · rw [iLt_true, rLen_eq, List.length_map] at h
      obtain ⟨x, hx⟩ : ∃ x, a[i]? = some x := ⟨_, List.getElem?_eq_getElem (by omega)⟩
      obtain ⟨y, hy⟩ : ∃ y, b[i]? = some y := ⟨_, List.getElem?_eq_getElem (by omega)⟩
      have e : wAdd .i64 (i : Int) 1 = ((i + 1 : Nat) : Int) := by rw [wAdd_i64] <;> omega
      have hxm := List.mem_of_getElem? hx
      repeat' (first | ((with_reducible refine PureCall.step (hr _ hxm _) ?_); simp -implicitDefEqProofs only [go_sem, Nat.reduceSub, Nat.reduceAdd, Nat.reduceLeDiff, Nat.reduceEqDiff, Nat.reduceBEq, Nat.reduceLT, Ty.iaddr hx, Ty.iaddr hy]) | (refine wpC_split rfl rfl (fun h => ?_) (fun h => ?_) <;> (try simp -implicitDefEqProofs only [go_sem, Nat.reduceSub, Nat.reduceAdd, Nat.reduceLeDiff, Nat.reduceEqDiff, Nat.reduceBEq, Nat.reduceLT, h, Ty.iaddr hx, Ty.iaddr hy])) | (refine plan_split rfl rfl (fun h => ?_) (fun h => ?_) <;> simp -implicitDefEqProofs only [go_sem, Nat.reduceSub, Nat.reduceAdd, Nat.reduceLeDiff, Nat.reduceEqDiff, Nat.reduceBEq, Nat.reduceLT, h, Ty.iaddr hx, Ty.iaddr hy]) | (refine planD_split rfl rfl (fun h => ?_) (fun h => ?_) <;> simp -implicitDefEqProofs only [go_sem, Nat.reduceSub, Nat.reduceAdd, Nat.reduceLeDiff, Nat.reduceEqDiff, Nat.reduceBEq, Nat.reduceLT, h, Ty.iaddr hx, Ty.iaddr hy]) | (refine go ?_; try simp -implicitDefEqProofs only [go_sem, Nat.reduceSub, Nat.reduceAdd, Nat.reduceLeDiff, Nat.reduceEqDiff, Nat.reduceBEq, Nat.reduceLT, Ty.iaddr hx, Ty.iaddr hy]) | ((with_reducible refine wpC_id ?_); simp -implicitDefEqProofs only [go_sem, Nat.reduceSub, Nat.reduceAdd, Nat.reduceLeDiff, Nat.reduceEqDiff, Nat.reduceBEq, Nat.reduceLT, Ty.iaddr hx, Ty.iaddr hy]) | ((with_reducible first | refine quiet_id ?_ | refine wrote_id ?_ | refine resQ_id ?_); simp -implicitDefEqProofs only [go_sem, Nat.reduceSub, Nat.reduceAdd, Nat.reduceLeDiff, Nat.reduceEqDiff, Nat.reduceBEq, Nat.reduceLT, Ty.iaddr hx, Ty.iaddr hy]) | fail)
      all_goals first
        | (rw [show dE a b = false from dE_list hx hy (by simp only [bNot_true, bNot_false, iEq_dE, sEq_dE, bEq_dE, bXor_t, bXor_f, lenE, lenD] at *; first | assumption | (simp [Ty.dE_eq, *]; done))])
        | (have h3 : dE x y = true := (by simp only [bNot_true, bNot_false, iEq_dE, sEq_dE, bEq_dE, bXor_t, bXor_f, lenE, lenD] at *; first | assumption | (simp [Ty.dE_eq, *]; done))
           exact ⟨n - 1, by omega, i + 1, by omega, take_step hall hx hy (dE_true.1 h3), by rw [e]⟩)
    · rw [iLt_false, rLen_eq, List.length_map] at h
      have h1 : i = a.length := by omega
      subst h1
      have := take_eq_all hlen hall
      repeat' (first | (refine wpC_split rfl rfl (fun h => ?_) (fun h => ?_) <;> (try simp -implicitDefEqProofs only [go_sem, Nat.reduceSub, Nat.reduceAdd, Nat.reduceLeDiff, Nat.reduceEqDiff, Nat.reduceBEq, Nat.reduceLT, h])) | (refine plan_split rfl rfl (fun h => ?_) (fun h => ?_) <;> simp -implicitDefEqProofs only [go_sem, Nat.reduceSub, Nat.reduceAdd, Nat.reduceLeDiff, Nat.reduceEqDiff, Nat.reduceBEq, Nat.reduceLT, h]) | (refine planD_split rfl rfl (fun h => ?_) (fun h => ?_) <;> simp -implicitDefEqProofs only [go_sem, Nat.reduceSub, Nat.reduceAdd, Nat.reduceLeDiff, Nat.reduceEqDiff, Nat.reduceBEq, Nat.reduceLT, h]) | (refine go ?_; try simp -implicitDefEqProofs only [go_sem, Nat.reduceSub, Nat.reduceAdd, Nat.reduceLeDiff, Nat.reduceEqDiff, Nat.reduceBEq, Nat.reduceLT]) | ((with_reducible refine wpC_id ?_); simp -implicitDefEqProofs only [go_sem, Nat.reduceSub, Nat.reduceAdd, Nat.reduceLeDiff, Nat.reduceEqDiff, Nat.reduceBEq, Nat.reduceLT]) | ((with_reducible first | refine quiet_id ?_ | refine wrote_id ?_ | refine resQ_id ?_); simp -implicitDefEqProofs only [go_sem, Nat.reduceSub, Nat.reduceAdd, Nat.reduceLeDiff, Nat.reduceEqDiff, Nat.reduceBEq, Nat.reduceLT]) | fail)
      rw [dE_true.2 this]

theorem dSame_pure {O : Cfg} {a : Ty} (ha : a.Ok) : ∀ b, PureCall O f_dSame [.agg a.cells, .agg b.cells] (.bool (dE a b)) := by
  induction ha with
  | mk hs hl _ ih => exact fun b => dSame_step _ b (dSameAll_step _ _ hl fun x hx y => ih x hx y)
theorem dSameAll_pure {O : Cfg} (a b : List Ty) (ha : a.length ≤ 140737488355328) (h : ∀ x ∈ a, x.Ok) : PureCall O f_dSameAll [.sl (a.map Ty.cells) .no, .sl (b.map Ty.cells) .no] (.bool (dE a b)) := dSameAll_step a b ha fun x hx y => dSame_pure (h x hx) y
theorem gSameType_pure {O : Cfg} {a : Ty} (ha : a.Ok) (b : Ty) : PureCall O f_gSameType [.agg a.cells, .agg b.cells] (.bool (dE a b)) := by
  refine entryF h_gSameType rfl fun H => ?_
  simp -implicitDefEqProofs only [go_sem, Nat.reduceSub, Nat.reduceAdd, Nat.reduceLeDiff, Nat.reduceEqDiff, Nat.reduceBEq, Nat.reduceLT, c_gSameType]
  refine boxed_intro rfl fun i1 h1 => ?_; simp -implicitDefEqProofs only [go_sem, Nat.reduceSub, Nat.reduceAdd, Nat.reduceLeDiff, Nat.reduceEqDiff, Nat.reduceBEq, Nat.reduceLT]
  refine boxed_intro rfl fun i2 h2 => ?_; simp -implicitDefEqProofs only [go_sem, Nat.reduceSub, Nat.reduceAdd, Nat.reduceLeDiff, Nat.reduceEqDiff, Nat.reduceBEq, Nat.reduceLT]
  have k1 := upd_old (o' := .cells b.cells) (Hp.upd_same H i1 (.cells a.cells)) h2
  have hle := le_new (le_new (le_self H) h1 (.cells a.cells)) h2 (.cells b.cells)
  refine go ?_; simp -implicitDefEqProofs only [go_sem, Nat.reduceSub, Nat.reduceAdd, Nat.reduceLeDiff, Nat.reduceEqDiff, Nat.reduceBEq, Nat.reduceLT, k1]
  repeat' (first | ((with_reducible refine PureCall.step (dSame_pure ha _) ?_); simp -implicitDefEqProofs only [go_sem, Nat.reduceSub, Nat.reduceAdd, Nat.reduceLeDiff, Nat.reduceEqDiff, Nat.reduceBEq, Nat.reduceLT, k1]) | (refine wpC_split rfl rfl (fun h => ?_) (fun h => ?_) <;> (try simp -implicitDefEqProofs only [go_sem, Nat.reduceSub, Nat.reduceAdd, Nat.reduceLeDiff, Nat.reduceEqDiff, Nat.reduceBEq, Nat.reduceLT, h, k1])) | (refine plan_split rfl rfl (fun h => ?_) (fun h => ?_) <;> simp -implicitDefEqProofs only [go_sem, Nat.reduceSub, Nat.reduceAdd, Nat.reduceLeDiff, Nat.reduceEqDiff, Nat.reduceBEq, Nat.reduceLT, h, k1]) | (refine planD_split rfl rfl (fun h => ?_) (fun h => ?_) <;> simp -implicitDefEqProofs only [go_sem, Nat.reduceSub, Nat.reduceAdd, Nat.reduceLeDiff, Nat.reduceEqDiff, Nat.reduceBEq, Nat.reduceLT, h, k1]) | (refine go ?_; try simp -implicitDefEqProofs only [go_sem, Nat.reduceSub, Nat.reduceAdd, Nat.reduceLeDiff, Nat.reduceEqDiff, Nat.reduceBEq, Nat.reduceLT, k1]) | ((with_reducible refine wpC_id ?_); simp -implicitDefEqProofs only [go_sem, Nat.reduceSub, Nat.reduceAdd, Nat.reduceLeDiff, Nat.reduceEqDiff, Nat.reduceBEq, Nat.reduceLT, k1]) | ((with_reducible first | refine quiet_id ?_ | refine wrote_id ?_ | refine resQ_id ?_); simp -implicitDefEqProofs only [go_sem, Nat.reduceSub, Nat.reduceAdd, Nat.reduceLeDiff, Nat.reduceEqDiff, Nat.reduceBEq, Nat.reduceLT, k1]) | fail)
  exact endB hle rfl

theorem gSamePat_step {O : Cfg} (a b : Pa) (hr : PureCall O f_gsamePats [.sl (a.args.map Pa.cells) .no, .sl (b.args.map Pa.cells) .no] (.bool (dE a.args b.args))) : PureCall O f_gSamePat [.agg a.cells, .agg b.cells] (.bool (dE a b)) := by
  refine entryF h_gSamePat rfl fun H => ?_
  simp -implicitDefEqProofs only [go_sem, Nat.reduceSub, Nat.reduceAdd, Nat.reduceLeDiff, Nat.reduceEqDiff, Nat.reduceBEq, Nat.reduceLT, c_gSamePat]
  refine boxed_intro rfl fun i1 h1 => ?_; simp -implicitDefEqProofs only [go_sem, Nat.reduceSub, Nat.reduceAdd, Nat.reduceLeDiff, Nat.reduceEqDiff, Nat.reduceBEq, Nat.reduceLT]
  refine boxed_intro rfl fun i2 h2 => ?_; simp -implicitDefEqProofs only [go_sem, Nat.reduceSub, Nat.reduceAdd, Nat.reduceLeDiff, Nat.reduceEqDiff, Nat.reduceBEq, Nat.reduceLT]
  have k1 := upd_old (o' := .cells b.cells) (Hp.upd_same H i1 (.cells a.cells)) h2
  have hle := le_new (le_new (le_self H) h1 (.cells a.cells)) h2 (.cells b.cells)
  refine go ?_; simp -implicitDefEqProofs only [go_sem, Nat.reduceSub, Nat.reduceAdd, Nat.reduceLeDiff, Nat.reduceEqDiff, Nat.reduceBEq, Nat.reduceLT, k1]
  repeat' (first | ((with_reducible refine PureCall.step (hr) ?_); simp -implicitDefEqProofs only [go_sem, Nat.reduceSub, Nat.reduceAdd, Nat.reduceLeDiff, Nat.reduceEqDiff, Nat.reduceBEq, Nat.reduceLT, k1]) | (refine wpC_split rfl rfl (fun h => ?_) (fun h => ?_) <;> (try simp -implicitDefEqProofs only [go_sem, Nat.reduceSub, Nat.reduceAdd, Nat.reduceLeDiff, Nat.reduceEqDiff, Nat.reduceBEq, Nat.reduceLT, h, k1])) | (refine plan_split rfl rfl (fun h => ?_) (fun h => ?_) <;> simp -implicitDefEqProofs only [go_sem, Nat.reduceSub, Nat.reduceAdd, Nat.reduceLeDiff, Nat.reduceEqDiff, Nat.reduceBEq, Nat.reduceLT, h, k1]) | (refine planD_split rfl rfl (fun h => ?_) (fun h => ?_) <;> simp -implicitDefEqProofs only [go_sem, Nat.reduceSub, Nat.reduceAdd, Nat.reduceLeDiff, Nat.reduceEqDiff, Nat.reduceBEq, Nat.reduceLT, h, k1]) | (refine go ?_; try simp -implicitDefEqProofs only [go_sem, Nat.reduceSub, Nat.reduceAdd, Nat.reduceLeDiff, Nat.reduceEqDiff, Nat.reduceBEq, Nat.reduceLT, k1]) | ((with_reducible refine wpC_id ?_); simp -implicitDefEqProofs only [go_sem, Nat.reduceSub, Nat.reduceAdd, Nat.reduceLeDiff, Nat.reduceEqDiff, Nat.reduceBEq, Nat.reduceLT, k1]) | ((with_reducible first | refine quiet_id ?_ | refine wrote_id ?_ | refine resQ_id ?_); simp -implicitDefEqProofs only [go_sem, Nat.reduceSub, Nat.reduceAdd, Nat.reduceLeDiff, Nat.reduceEqDiff, Nat.reduceBEq, Nat.reduceLT, k1]) | fail)
  all_goals (refine endB hle ?_; simp only [Pa.dE_eq, ← iEq_dE, ← sEq_dE, ← bEq_dE]; simp [*])

theorem gsamePats_step {O : Cfg} (a b : List Pa) (ha : a.length ≤ 140737488355328) (hr : ∀ x ∈ a, ∀ y, PureCall O f_gSamePat [.agg x.cells, .agg y.cells] (.bool (dE x y))) : PureCall O f_gsamePats [.sl (a.map Pa.cells) .no, .sl (b.map Pa.cells) .no] (.bool (dE a b)) := fun H => by
  refine entry h_gsamePats rfl ?_; simp -implicitDefEqProofs only [go_sem, Nat.reduceSub, Nat.reduceAdd, Nat.reduceLeDiff, Nat.reduceEqDiff, Nat.reduceBEq, Nat.reduceLT, c_gsamePats]
  refine AC.cut (fun st => a.length = b.length ∧ st = ⟨mk 27 [(0, .sl (a.map Pa.cells) .no), (1, .sl (b.map Pa.cells) .no)], H, []⟩) ?_ ?_
  · repeat' (first | (refine wpC_split rfl rfl (fun h => ?_) (fun h => ?_) <;> (try simp -implicitDefEqProofs only [go_sem, Nat.reduceSub, Nat.reduceAdd, Nat.reduceLeDiff, Nat.reduceEqDiff, Nat.reduceBEq, Nat.reduceLT, h])) | (refine plan_split rfl rfl (fun h => ?_) (fun h => ?_) <;> simp -implicitDefEqProofs only [go_sem, Nat.reduceSub, Nat.reduceAdd, Nat.reduceLeDiff, Nat.reduceEqDiff, Nat.reduceBEq, Nat.reduceLT, h]) | (refine planD_split rfl rfl (fun h => ?_) (fun h => ?_) <;> simp -implicitDefEqProofs only [go_sem, Nat.reduceSub, Nat.reduceAdd, Nat.reduceLeDiff, Nat.reduceEqDiff, Nat.reduceBEq, Nat.reduceLT, h]) | (refine go ?_; try simp -implicitDefEqProofs only [go_sem, Nat.reduceSub, Nat.reduceAdd, Nat.reduceLeDiff, Nat.reduceEqDiff, Nat.reduceBEq, Nat.reduceLT]) | ((with_reducible refine wpC_id ?_); simp -implicitDefEqProofs only [go_sem, Nat.reduceSub, Nat.reduceAdd, Nat.reduceLeDiff, Nat.reduceEqDiff, Nat.reduceBEq, Nat.reduceLT]) | ((with_reducible first | refine quiet_id ?_ | refine wrote_id ?_ | refine resQ_id ?_); simp -implicitDefEqProofs only [go_sem, Nat.reduceSub, Nat.reduceAdd, Nat.reduceLeDiff, Nat.reduceEqDiff, Nat.reduceBEq, Nat.reduceLT]) | fail)
    · have h1 := iEq_false.1 (bNot_true.1 h)
      rw [rLen_eq, rLen_eq, List.length_map, List.length_map] at h1
      rw [dE_false.2]; intro e; rw [e] at h1; exact h1 rfl
    · have h1 := iEq_true.1 (bNot_false.1 h)
      rw [rLen_eq, rLen_eq, List.length_map, List.length_map] at h1
      omega
  · rintro _ ⟨hlen, rfl⟩
    refine go ?_; simp -implicitDefEqProofs only [go_sem, Nat.reduceSub, Nat.reduceAdd, Nat.reduceLeDiff, Nat.reduceEqDiff, Nat.reduceBEq, Nat.reduceLT]
    refine go ?_; simp -implicitDefEqProofs only [go_sem, Nat.reduceSub, Nat.reduceAdd, Nat.reduceLeDiff, Nat.reduceEqDiff, Nat.reduceBEq, Nat.reduceLT]
    rw [wpC_loop]
    refine AC.loop (fun n st => ∃ i : Nat, i + n = a.length ∧ a.take i = b.take i ∧ st = ⟨mk 27 [(0, .sl (a.map Pa.cells) .no), (1, .sl (b.map Pa.cells) .no), (12, .int .i64 (rLen (a.map Pa.cells))), (13, .int .i64 i)], H, []⟩) a.length ⟨0, by omega, rfl, rfl⟩ ?_
    rintro n _ ⟨i, hi, hall, rfl⟩
    simp -implicitDefEqProofs only [go_sem, Nat.reduceSub, Nat.reduceAdd, Nat.reduceLeDiff, Nat.reduceEqDiff, Nat.reduceBEq, Nat.reduceLT, l_gsamePats_0]
    refine go ?_; simp -implicitDefEqProofs only [go_sem, Nat.reduceSub, Nat.reduceAdd, Nat.reduceLeDiff, Nat.reduceEqDiff, Nat.reduceBEq, Nat.reduceLT]
    refine go ?_; simp -implicitDefEqProofs only [go_sem, Nat.reduceSub, Nat.reduceAdd, Nat.reduceLeDiff, Nat.reduceEqDiff, Nat.reduceBEq, Nat.reduceLT]
    refine wpC_split rfl rfl (fun h => ?_) (fun h => ?_) <;> simp -implicitDefEqProofs only [go_sem, Nat.reduceSub, Nat.reduceAdd, Nat.reduceLeDiff, Nat.reduceEqDiff, Nat.reduceBEq, Nat.reduceLT]
    · rw [iLt_true, rLen_eq, List.length_map] at h
      obtain ⟨x, hx⟩ : ∃ x, a[i]? = some x := ⟨_, List.getElem?_eq_getElem (by omega)⟩
      obtain ⟨y, hy⟩ : ∃ y, b[i]? = some y := ⟨_, List.getElem?_eq_getElem (by omega)⟩
      have e : wAdd .i64 (i : Int) 1 = ((i + 1 : Nat) : Int) := by rw [wAdd_i64] <;> omega
      have hxm := List.mem_of_getElem? hx
      repeat' (first | ((with_reducible refine PureCall.step (hr _ hxm _) ?_); simp -implicitDefEqProofs only [go_sem, Nat.reduceSub, Nat.reduceAdd, Nat.reduceLeDiff, Nat.reduceEqDiff, Nat.reduceBEq, Nat.reduceLT, Pa.iaddr hx, Pa.iaddr hy]) | (refine wpC_split rfl rfl (fun h => ?_) (fun h => ?_) <;> (try simp -implicitDefEqProofs only [go_sem, Nat.reduceSub, Nat.reduceAdd, Nat.reduceLeDiff, Nat.reduceEqDiff, Nat.reduceBEq, Nat.reduceLT, h, Pa.iaddr hx, Pa.iaddr hy])) | (refine plan_split rfl rfl (fun h => ?_) (fun h => ?_) <;> simp -implicitDefEqProofs only [go_sem, Nat.reduceSub, Nat.reduceAdd, Nat.reduceLeDiff, Nat.reduceEqDiff, Nat.reduceBEq, Nat.reduceLT, h, Pa.iaddr hx, Pa.iaddr hy]) | (refine planD_split rfl rfl (fun h => ?_) (fun h => ?_) <;> simp -implicitDefEqProofs only [go_sem, Nat.reduceSub, Nat.reduceAdd, Nat.reduceLeDiff, Nat.reduceEqDiff, Nat.reduceBEq, Nat.reduceLT, h, Pa.iaddr hx, Pa.iaddr hy]) | (refine go ?_; try simp -implicitDefEqProofs only [go_sem, Nat.reduceSub, Nat.reduceAdd, Nat.reduceLeDiff, Nat.reduceEqDiff, Nat.reduceBEq, Nat.reduceLT, Pa.iaddr hx, Pa.iaddr hy]) | ((with_reducible refine wpC_id ?_); simp -implicitDefEqProofs only [go_sem, Nat.reduceSub, Nat.reduceAdd, Nat.reduceLeDiff, Nat.reduceEqDiff, Nat.reduceBEq, Nat.reduceLT, Pa.iaddr hx, Pa.iaddr hy]) | ((with_reducible first | refine quiet_id ?_ | refine wrote_id ?_ | refine resQ_id ?_); simp -implicitDefEqProofs only [go_sem, Nat.reduceSub, Nat.reduceAdd, Nat.reduceLeDiff, Nat.reduceEqDiff, Nat.reduceBEq, Nat.reduceLT, Pa.iaddr hx, Pa.iaddr hy]) | fail)
      all_goals first
        | (rw [show dE a b = false from dE_list hx hy (by simp only [bNot_true, bNot_false, iEq_dE, sEq_dE, bEq_dE, bXor_t, bXor_f, lenE, lenD] at *; first | assumption | (simp [Pa.dE_eq, *]; done))])
        | (have h3 : dE x y = true := (by simp only [bNot_true, bNot_false, iEq_dE, sEq_dE, bEq_dE, bXor_t, bXor_f, lenE, lenD] at *; first | assumption | (simp [Pa.dE_eq, *]; done))
           exact ⟨n - 1, by omega, i + 1, by omega, take_step hall hx hy (dE_true.1 h3), by rw [e]⟩)
    · rw [iLt_false, rLen_eq, List.length_map] at h
      have h1 : i = a.length := by omega
      subst h1
      have := take_eq_all hlen hall
      repeat' (first | (refine wpC_split rfl rfl (fun h => ?_) (fun h => ?_) <;> (try simp -implicitDefEqProofs only [go_sem, Nat.reduceSub, Nat.reduceAdd, Nat.reduceLeDiff, Nat.reduceEqDiff, Nat.reduceBEq, Nat.reduceLT, h])) | (refine plan_split rfl rfl (fun h => ?_) (fun h => ?_) <;> simp -implicitDefEqProofs only [go_sem, Nat.reduceSub, Nat.reduceAdd, Nat.reduceLeDiff, Nat.reduceEqDiff, Nat.reduceBEq, Nat.reduceLT, h]) | (refine planD_split rfl rfl (fun h => ?_) (fun h => ?_) <;> simp -implicitDefEqProofs only [go_sem, Nat.reduceSub, Nat.reduceAdd, Nat.reduceLeDiff, Nat.reduceEqDiff, Nat.reduceBEq, Nat.reduceLT, h]) | (refine go ?_; try simp -implicitDefEqProofs only [go_sem, Nat.reduceSub, Nat.reduceAdd, Nat.reduceLeDiff, Nat.reduceEqDiff, Nat.reduceBEq, Nat.reduceLT]) | ((with_reducible refine wpC_id ?_); simp -implicitDefEqProofs only [go_sem, Nat.reduceSub, Nat.reduceAdd, Nat.reduceLeDiff, Nat.reduceEqDiff, Nat.reduceBEq, Nat.reduceLT]) | ((with_reducible first | refine quiet_id ?_ | refine wrote_id ?_ | refine resQ_id ?_); simp -implicitDefEqProofs only [go_sem, Nat.reduceSub, Nat.reduceAdd, Nat.reduceLeDiff, Nat.reduceEqDiff, Nat.reduceBEq, Nat.reduceLT]) | fail)
      rw [dE_true.2 this]

theorem gSamePat_pure {O : Cfg} {a : Pa} (ha : a.Ok) : ∀ b, PureCall O f_gSamePat [.agg a.cells, .agg b.cells] (.bool (dE a b)) := by
  induction ha with
  | mk hs hl _ ih => exact fun b => gSamePat_step _ b (gsamePats_step _ _ hl fun x hx y => ih x hx y)
theorem gsamePats_pure {O : Cfg} (a b : List Pa) (ha : a.length ≤ 140737488355328) (h : ∀ x ∈ a, x.Ok) : PureCall O f_gsamePats [.sl (a.map Pa.cells) .no, .sl (b.map Pa.cells) .no] (.bool (dE a b)) := gsamePats_step a b ha fun x hx y => gSamePat_pure (h x hx) y

theorem gSameSigs_step {O : Cfg} (a b : List Sg) (ha : a.length ≤ 140737488355328) (hok : ∀ x ∈ a, x.Ok) : PureCall O f_gSameSigs [.sl (a.map Sg.cells) .no, .sl (b.map Sg.cells) .no] (.bool (dE a b)) := fun H => by
  refine entry h_gSameSigs rfl ?_; simp -implicitDefEqProofs only [go_sem, Nat.reduceSub, Nat.reduceAdd, Nat.reduceLeDiff, Nat.reduceEqDiff, Nat.reduceBEq, Nat.reduceLT, c_gSameSigs]
  refine AC.cut (fun st => a.length = b.length ∧ st = ⟨mk 42 [(0, .sl (a.map Sg.cells) .no), (1, .sl (b.map Sg.cells) .no)], H, []⟩) ?_ ?_
  · repeat' (first | (refine wpC_split rfl rfl (fun h => ?_) (fun h => ?_) <;> (try simp -implicitDefEqProofs only [go_sem, Nat.reduceSub, Nat.reduceAdd, Nat.reduceLeDiff, Nat.reduceEqDiff, Nat.reduceBEq, Nat.reduceLT, h])) | (refine plan_split rfl rfl (fun h => ?_) (fun h => ?_) <;> simp -implicitDefEqProofs only [go_sem, Nat.reduceSub, Nat.reduceAdd, Nat.reduceLeDiff, Nat.reduceEqDiff, Nat.reduceBEq, Nat.reduceLT, h]) | (refine planD_split rfl rfl (fun h => ?_) (fun h => ?_) <;> simp -implicitDefEqProofs only [go_sem, Nat.reduceSub, Nat.reduceAdd, Nat.reduceLeDiff, Nat.reduceEqDiff, Nat.reduceBEq, Nat.reduceLT, h]) | (refine go ?_; try simp -implicitDefEqProofs only [go_sem, Nat.reduceSub, Nat.reduceAdd, Nat.reduceLeDiff, Nat.reduceEqDiff, Nat.reduceBEq, Nat.reduceLT]) | ((with_reducible refine wpC_id ?_); simp -implicitDefEqProofs only [go_sem, Nat.reduceSub, Nat.reduceAdd, Nat.reduceLeDiff, Nat.reduceEqDiff, Nat.reduceBEq, Nat.reduceLT]) | ((with_reducible first | refine quiet_id ?_ | refine wrote_id ?_ | refine resQ_id ?_); simp -implicitDefEqProofs only [go_sem, Nat.reduceSub, Nat.reduceAdd, Nat.reduceLeDiff, Nat.reduceEqDiff, Nat.reduceBEq, Nat.reduceLT]) | fail)
    · have h1 := iEq_false.1 (bNot_true.1 h)
      rw [rLen_eq, rLen_eq, List.length_map, List.length_map] at h1
      rw [dE_false.2]; intro e; rw [e] at h1; exact h1 rfl
    · have h1 := iEq_true.1 (bNot_false.1 h)
      rw [rLen_eq, rLen_eq, List.length_map, List.length_map] at h1
      omega
  · rintro _ ⟨hlen, rfl⟩
    refine go ?_; simp -implicitDefEqProofs only [go_sem, Nat.reduceSub, Nat.reduceAdd, Nat.reduceLeDiff, Nat.reduceEqDiff, Nat.reduceBEq, Nat.reduceLT]
    refine go ?_; simp -implicitDefEqProofs only [go_sem, Nat.reduceSub, Nat.reduceAdd, Nat.reduceLeDiff, Nat.reduceEqDiff, Nat.reduceBEq, Nat.reduceLT]
    rw [wpC_loop]
    refine AC.loop (fun n st => ∃ i : Nat, i + n = a.length ∧ a.take i = b.take i ∧ st = ⟨mk 42 [(0, .sl (a.map Sg.cells) .no), (1, .sl (b.map Sg.cells) .no), (12, .int .i64 (rLen (a.map Sg.cells))), (13, .int .i64 i)], H, []⟩) a.length ⟨0, by omega, rfl, rfl⟩ ?_
    rintro n _ ⟨i, hi, hall, rfl⟩
    simp -implicitDefEqProofs only [go_sem, Nat.reduceSub, Nat.reduceAdd, Nat.reduceLeDiff, Nat.reduceEqDiff, Nat.reduceBEq, Nat.reduceLT, l_gSameSigs_0]
    refine go ?_; simp -implicitDefEqProofs only [go_sem, Nat.reduceSub, Nat.reduceAdd, Nat.reduceLeDiff, Nat.reduceEqDiff, Nat.reduceBEq, Nat.reduceLT]
    refine go ?_; simp -implicitDefEqProofs only [go_sem, Nat.reduceSub, Nat.reduceAdd, Nat.reduceLeDiff, Nat.reduceEqDiff, Nat.reduceBEq, Nat.reduceLT]
    refine wpC_split rfl rfl (fun h => ?_) (fun h => ?_) <;> simp -implicitDefEqProofs only [go_sem, Nat.reduceSub, Nat.reduceAdd, Nat.reduceLeDiff, Nat.reduceEqDiff, Nat.reduceBEq, Nat.reduceLT]
    · rw [iLt_true, rLen_eq, List.length_map] at h
      obtain ⟨x, hx⟩ : ∃ x, a[i]? = some x := ⟨_, List.getElem?_eq_getElem (by omega)⟩
      obtain ⟨y, hy⟩ : ∃ y, b[i]? = some y := ⟨_, List.getElem?_eq_getElem (by omega)⟩
      have e : wAdd .i64 (i : Int) 1 = ((i + 1 : Nat) : Int) := by rw [wAdd_i64] <;> omega
      have hxm := List.mem_of_getElem? hx
      repeat' (first | ((with_reducible refine PureCall.step (gSameType_pure (hok _ hxm).type _) ?_); simp -implicitDefEqProofs only [go_sem, Nat.reduceSub, Nat.reduceAdd, Nat.reduceLeDiff, Nat.reduceEqDiff, Nat.reduceBEq, Nat.reduceLT, Sg.iaddr hx, Sg.iaddr hy]) | (refine wpC_split rfl rfl (fun h => ?_) (fun h => ?_) <;> (try simp -implicitDefEqProofs only [go_sem, Nat.reduceSub, Nat.reduceAdd, Nat.reduceLeDiff, Nat.reduceEqDiff, Nat.reduceBEq, Nat.reduceLT, h, Sg.iaddr hx, Sg.iaddr hy])) | (refine plan_split rfl rfl (fun h => ?_) (fun h => ?_) <;> simp -implicitDefEqProofs only [go_sem, Nat.reduceSub, Nat.reduceAdd, Nat.reduceLeDiff, Nat.reduceEqDiff, Nat.reduceBEq, Nat.reduceLT, h, Sg.iaddr hx, Sg.iaddr hy]) | (refine planD_split rfl rfl (fun h => ?_) (fun h => ?_) <;> simp -implicitDefEqProofs only [go_sem, Nat.reduceSub, Nat.reduceAdd, Nat.reduceLeDiff, Nat.reduceEqDiff, Nat.reduceBEq, Nat.reduceLT, h, Sg.iaddr hx, Sg.iaddr hy]) | (refine go ?_; try simp -implicitDefEqProofs only [go_sem, Nat.reduceSub, Nat.reduceAdd, Nat.reduceLeDiff, Nat.reduceEqDiff, Nat.reduceBEq, Nat.reduceLT, Sg.iaddr hx, Sg.iaddr hy]) | ((with_reducible refine wpC_id ?_); simp -implicitDefEqProofs only [go_sem, Nat.reduceSub, Nat.reduceAdd, Nat.reduceLeDiff, Nat.reduceEqDiff, Nat.reduceBEq, Nat.reduceLT, Sg.iaddr hx, Sg.iaddr hy]) | ((with_reducible first | refine quiet_id ?_ | refine wrote_id ?_ | refine resQ_id ?_); simp -implicitDefEqProofs only [go_sem, Nat.reduceSub, Nat.reduceAdd, Nat.reduceLeDiff, Nat.reduceEqDiff, Nat.reduceBEq, Nat.reduceLT, Sg.iaddr hx, Sg.iaddr hy]) | fail)
      all_goals first
        | (rw [show dE a b = false from dE_list hx hy (by simp only [bNot_true, bNot_false, iEq_dE, sEq_dE, bEq_dE, bXor_t, bXor_f, lenE, lenD] at *; first | assumption | (simp [Sg.dE_eq, *]; done))])
        | (have h3 : dE x y = true := (by simp only [bNot_true, bNot_false, iEq_dE, sEq_dE, bEq_dE, bXor_t, bXor_f, lenE, lenD] at *; first | assumption | (simp [Sg.dE_eq, *]; done))
           exact ⟨n - 1, by omega, i + 1, by omega, take_step hall hx hy (dE_true.1 h3), by rw [e]⟩)
    · rw [iLt_false, rLen_eq, List.length_map] at h
      have h1 : i = a.length := by omega
      subst h1
      have := take_eq_all hlen hall
      repeat' (first | (refine wpC_split rfl rfl (fun h => ?_) (fun h => ?_) <;> (try simp -implicitDefEqProofs only [go_sem, Nat.reduceSub, Nat.reduceAdd, Nat.reduceLeDiff, Nat.reduceEqDiff, Nat.reduceBEq, Nat.reduceLT, h])) | (refine plan_split rfl rfl (fun h => ?_) (fun h => ?_) <;> simp -implicitDefEqProofs only [go_sem, Nat.reduceSub, Nat.reduceAdd, Nat.reduceLeDiff, Nat.reduceEqDiff, Nat.reduceBEq, Nat.reduceLT, h]) | (refine planD_split rfl rfl (fun h => ?_) (fun h => ?_) <;> simp -implicitDefEqProofs only [go_sem, Nat.reduceSub, Nat.reduceAdd, Nat.reduceLeDiff, Nat.reduceEqDiff, Nat.reduceBEq, Nat.reduceLT, h]) | (refine go ?_; try simp -implicitDefEqProofs only [go_sem, Nat.reduceSub, Nat.reduceAdd, Nat.reduceLeDiff, Nat.reduceEqDiff, Nat.reduceBEq, Nat.reduceLT]) | ((with_reducible refine wpC_id ?_); simp -implicitDefEqProofs only [go_sem, Nat.reduceSub, Nat.reduceAdd, Nat.reduceLeDiff, Nat.reduceEqDiff, Nat.reduceBEq, Nat.reduceLT]) | ((with_reducible first | refine quiet_id ?_ | refine wrote_id ?_ | refine resQ_id ?_); simp -implicitDefEqProofs only [go_sem, Nat.reduceSub, Nat.reduceAdd, Nat.reduceLeDiff, Nat.reduceEqDiff, Nat.reduceBEq, Nat.reduceLT]) | fail)
      rw [dE_true.2 this]

theorem gsameExprs_step {O : Cfg} (a b : List Ex) (ha : a.length ≤ 140737488355328) (hr : ∀ x ∈ a, ∀ y, PureCall O f_gSameExpr [.agg x.cells, .agg y.cells] (.bool (dE x y))) : PureCall O f_gsameExprs [.sl (a.map Ex.cells) .no, .sl (b.map Ex.cells) .no] (.bool (dE a b)) := fun H => by
  refine entry h_gsameExprs rfl ?_; simp -implicitDefEqProofs only [go_sem, Nat.reduceSub, Nat.reduceAdd, Nat.reduceLeDiff, Nat.reduceEqDiff, Nat.reduceBEq, Nat.reduceLT, c_gsameExprs]
  refine AC.cut (fun st => a.length = b.length ∧ st = ⟨mk 27 [(0, .sl (a.map Ex.cells) .no), (1, .sl (b.map Ex.cells) .no)], H, []⟩) ?_ ?_
  · repeat' (first | (refine wpC_split rfl rfl (fun h => ?_) (fun h => ?_) <;> (try simp -implicitDefEqProofs only [go_sem, Nat.reduceSub, Nat.reduceAdd, Nat.reduceLeDiff, Nat.reduceEqDiff, Nat.reduceBEq, Nat.reduceLT, h])) | (refine plan_split rfl rfl (fun h => ?_) (fun h => ?_) <;> simp -implicitDefEqProofs only [go_sem, Nat.reduceSub, Nat.reduceAdd, Nat.reduceLeDiff, Nat.reduceEqDiff, Nat.reduceBEq, Nat.reduceLT, h]) | (refine planD_split rfl rfl (fun h => ?_) (fun h => ?_) <;> simp -implicitDefEqProofs only [go_sem, Nat.reduceSub, Nat.reduceAdd, Nat.reduceLeDiff, Nat.reduceEqDiff, Nat.reduceBEq, Nat.reduceLT, h]) | (refine go ?_; try simp -implicitDefEqProofs only [go_sem, Nat.reduceSub, Nat.reduceAdd, Nat.reduceLeDiff, Nat.reduceEqDiff, Nat.reduceBEq, Nat.reduceLT]) | ((with_reducible refine wpC_id ?_); simp -implicitDefEqProofs only [go_sem, Nat.reduceSub, Nat.reduceAdd, Nat.reduceLeDiff, Nat.reduceEqDiff, Nat.reduceBEq, Nat.reduceLT]) | ((with_reducible first | refine quiet_id ?_ | refine wrote_id ?_ | refine resQ_id ?_); simp -implicitDefEqProofs only [go_sem, Nat.reduceSub, Nat.reduceAdd, Nat.reduceLeDiff, Nat.reduceEqDiff, Nat.reduceBEq, Nat.reduceLT]) | fail)
    · have h1 := iEq_false.1 (bNot_true.1 h)
      rw [rLen_eq, rLen_eq, List.length_map, List.length_map] at h1
      rw [dE_false.2]; intro e; rw [e] at h1; exact h1 rfl
    · have h1 := iEq_true.1 (bNot_false.1 h)
      rw [rLen_eq, rLen_eq, List.length_map, List.length_map] at h1
      omega
  · rintro _ ⟨hlen, rfl⟩
    refine go ?_; simp -implicitDefEqProofs only [go_sem, Nat.reduceSub, Nat.reduceAdd, Nat.reduceLeDiff, Nat.reduceEqDiff, Nat.reduceBEq, Nat.reduceLT]
    refine go ?_; simp -implicitDefEqProofs only [go_sem, Nat.reduceSub, Nat.reduceAdd, Nat.reduceLeDiff, Nat.reduceEqDiff, Nat.reduceBEq, Nat.reduceLT]
    rw [wpC_loop]
    refine AC.loop (fun n st => ∃ i : Nat, i + n = a.length ∧ a.take i = b.take i ∧ st = ⟨mk 27 [(0, .sl (a.map Ex.cells) .no), (1, .sl (b.map Ex.cells) .no), (12, .int .i64 (rLen (a.map Ex.cells))), (13, .int .i64 i)], H, []⟩) a.length ⟨0, by omega, rfl, rfl⟩ ?_
    rintro n _ ⟨i, hi, hall, rfl⟩
    simp -implicitDefEqProofs only [go_sem, Nat.reduceSub, Nat.reduceAdd, Nat.reduceLeDiff, Nat.reduceEqDiff, Nat.reduceBEq, Nat.reduceLT, l_gsameExprs_0]
    refine go ?_; simp -implicitDefEqProofs only [go_sem, Nat.reduceSub, Nat.reduceAdd, Nat.reduceLeDiff, Nat.reduceEqDiff, Nat.reduceBEq, Nat.reduceLT]
    refine go ?_; simp -implicitDefEqProofs only [go_sem, Nat.reduceSub, Nat.reduceAdd, Nat.reduceLeDiff, Nat.reduceEqDiff, Nat.reduceBEq, Nat.reduceLT]
    refine wpC_split rfl rfl (fun h => ?_) (fun h => ?_) <;> simp -implicitDefEqProofs only [go_sem, Nat.reduceSub, Nat.reduceAdd, Nat.reduceLeDiff, Nat.reduceEqDiff, Nat.reduceBEq, Nat.reduceLT]
    · rw [iLt_true, rLen_eq, List.length_map] at h
      obtain ⟨x, hx⟩ : ∃ x, a[i]? = some x := ⟨_, List.getElem?_eq_getElem (by omega)⟩
      obtain ⟨y, hy⟩ : ∃ y, b[i]? = some y := ⟨_, List.getElem?_eq_getElem (by omega)⟩
      have e : wAdd .i64 (i : Int) 1 = ((i + 1 : Nat) : Int) := by rw [wAdd_i64] <;> omega
      have hxm := List.mem_of_getElem? hx
      repeat' (first | ((with_reducible refine PureCall.step (hr _ hxm _) ?_); simp -implicitDefEqProofs only [go_sem, Nat.reduceSub, Nat.reduceAdd, Nat.reduceLeDiff, Nat.reduceEqDiff, Nat.reduceBEq, Nat.reduceLT, Ex.iaddr hx, Ex.iaddr hy]) | (refine wpC_split rfl rfl (fun h => ?_) (fun h => ?_) <;> (try simp -implicitDefEqProofs only [go_sem, Nat.reduceSub, Nat.reduceAdd, Nat.reduceLeDiff, Nat.reduceEqDiff, Nat.reduceBEq, Nat.reduceLT, h, Ex.iaddr hx, Ex.iaddr hy])) | (refine plan_split rfl rfl (fun h => ?_) (fun h => ?_) <;> simp -implicitDefEqProofs only [go_sem, Nat.reduceSub, Nat.reduceAdd, Nat.reduceLeDiff, Nat.reduceEqDiff, Nat.reduceBEq, Nat.reduceLT, h, Ex.iaddr hx, Ex.iaddr hy]) | (refine planD_split rfl rfl (fun h => ?_) (fun h => ?_) <;> simp -implicitDefEqProofs only [go_sem, Nat.reduceSub, Nat.reduceAdd, Nat.reduceLeDiff, Nat.reduceEqDiff, Nat.reduceBEq, Nat.reduceLT, h, Ex.iaddr hx, Ex.iaddr hy]) | (refine go ?_; try simp -implicitDefEqProofs only [go_sem, Nat.reduceSub, Nat.reduceAdd, Nat.reduceLeDiff, Nat.reduceEqDiff, Nat.reduceBEq, Nat.reduceLT, Ex.iaddr hx, Ex.iaddr hy]) | ((with_reducible refine wpC_id ?_); simp -implicitDefEqProofs only [go_sem, Nat.reduceSub, Nat.reduceAdd, Nat.reduceLeDiff, Nat.reduceEqDiff, Nat.reduceBEq, Nat.reduceLT, Ex.iaddr hx, Ex.iaddr hy]) | ((with_reducible first | refine quiet_id ?_ | refine wrote_id ?_ | refine resQ_id ?_); simp -implicitDefEqProofs only [go_sem, Nat.reduceSub, Nat.reduceAdd, Nat.reduceLeDiff, Nat.reduceEqDiff, Nat.reduceBEq, Nat.reduceLT, Ex.iaddr hx, Ex.iaddr hy]) | fail)
      all_goals first
        | (rw [show dE a b = false from dE_list hx hy (by simp only [bNot_true, bNot_false, iEq_dE, sEq_dE, bEq_dE, bXor_t, bXor_f, lenE, lenD] at *; first | assumption | (simp [Ex.dE_eq, *]; done))])
        | (have h3 : dE x y = true := (by simp only [bNot_true, bNot_false, iEq_dE, sEq_dE, bEq_dE, bXor_t, bXor_f, lenE, lenD] at *; first | assumption | (simp [Ex.dE_eq, *]; done))
           exact ⟨n - 1, by omega, i + 1, by omega, take_step hall hx hy (dE_true.1 h3), by rw [e]⟩)
    · rw [iLt_false, rLen_eq, List.length_map] at h
      have h1 : i = a.length := by omega
      subst h1
      have := take_eq_all hlen hall
      repeat' (first | (refine wpC_split rfl rfl (fun h => ?_) (fun h => ?_) <;> (try simp -implicitDefEqProofs only [go_sem, Nat.reduceSub, Nat.reduceAdd, Nat.reduceLeDiff, Nat.reduceEqDiff, Nat.reduceBEq, Nat.reduceLT, h])) | (refine plan_split rfl rfl (fun h => ?_) (fun h => ?_) <;> simp -implicitDefEqProofs only [go_sem, Nat.reduceSub, Nat.reduceAdd, Nat.reduceLeDiff, Nat.reduceEqDiff, Nat.reduceBEq, Nat.reduceLT, h]) | (refine planD_split rfl rfl (fun h => ?_) (fun h => ?_) <;> simp -implicitDefEqProofs only [go_sem, Nat.reduceSub, Nat.reduceAdd, Nat.reduceLeDiff, Nat.reduceEqDiff, Nat.reduceBEq, Nat.reduceLT, h]) | (refine go ?_; try simp -implicitDefEqProofs only [go_sem, Nat.reduceSub, Nat.reduceAdd, Nat.reduceLeDiff, Nat.reduceEqDiff, Nat.reduceBEq, Nat.reduceLT]) | ((with_reducible refine wpC_id ?_); simp -implicitDefEqProofs only [go_sem, Nat.reduceSub, Nat.reduceAdd, Nat.reduceLeDiff, Nat.reduceEqDiff, Nat.reduceBEq, Nat.reduceLT]) | ((with_reducible first | refine quiet_id ?_ | refine wrote_id ?_ | refine resQ_id ?_); simp -implicitDefEqProofs only [go_sem, Nat.reduceSub, Nat.reduceAdd, Nat.reduceLeDiff, Nat.reduceEqDiff, Nat.reduceBEq, Nat.reduceLT]) | fail)
      rw [dE_true.2 this]

theorem gSameDecls_step {O : Cfg} (a b : List De) (ha : a.length ≤ 140737488355328) (hr : ∀ x ∈ a, ∀ y, PureCall O f_gSameDecl [.agg x.cells, .agg y.cells] (.bool (dE x y))) : PureCall O f_gSameDecls [.sl (a.map De.cells) .no, .sl (b.map De.cells) .no] (.bool (dE a b)) := fun H => by
  refine entry h_gSameDecls rfl ?_; simp -implicitDefEqProofs only [go_sem, Nat.reduceSub, Nat.reduceAdd, Nat.reduceLeDiff, Nat.reduceEqDiff, Nat.reduceBEq, Nat.reduceLT, c_gSameDecls]
  refine AC.cut (fun st => a.length = b.length ∧ st = ⟨mk 27 [(0, .sl (a.map De.cells) .no), (1, .sl (b.map De.cells) .no)], H, []⟩) ?_ ?_
  · repeat' (first | (refine wpC_split rfl rfl (fun h => ?_) (fun h => ?_) <;> (try simp -implicitDefEqProofs only [go_sem, Nat.reduceSub, Nat.reduceAdd, Nat.reduceLeDiff, Nat.reduceEqDiff, Nat.reduceBEq, Nat.reduceLT, h])) | (refine plan_split rfl rfl (fun h => ?_) (fun h => ?_) <;> simp -implicitDefEqProofs only [go_sem, Nat.reduceSub, Nat.reduceAdd, Nat.reduceLeDiff, Nat.reduceEqDiff, Nat.reduceBEq, Nat.reduceLT, h]) | (refine planD_split rfl rfl (fun h => ?_) (fun h => ?_) <;> simp -implicitDefEqProofs only [go_sem, Nat.reduceSub, Nat.reduceAdd, Nat.reduceLeDiff, Nat.reduceEqDiff, Nat.reduceBEq, Nat.reduceLT, h]) | (refine go ?_; try simp -implicitDefEqProofs only [go_sem, Nat.reduceSub, Nat.reduceAdd, Nat.reduceLeDiff, Nat.reduceEqDiff, Nat.reduceBEq, Nat.reduceLT]) | ((with_reducible refine wpC_id ?_); simp -implicitDefEqProofs only [go_sem, Nat.reduceSub, Nat.reduceAdd, Nat.reduceLeDiff, Nat.reduceEqDiff, Nat.reduceBEq, Nat.reduceLT]) | ((with_reducible first | refine quiet_id ?_ | refine wrote_id ?_ | refine resQ_id ?_); simp -implicitDefEqProofs only [go_sem, Nat.reduceSub, Nat.reduceAdd, Nat.reduceLeDiff, Nat.reduceEqDiff, Nat.reduceBEq, Nat.reduceLT]) | fail)
    · have h1 := iEq_false.1 (bNot_true.1 h)
      rw [rLen_eq, rLen_eq, List.length_map, List.length_map] at h1
      rw [dE_false.2]; intro e; rw [e] at h1; exact h1 rfl
    · have h1 := iEq_true.1 (bNot_false.1 h)
      rw [rLen_eq, rLen_eq, List.length_map, List.length_map] at h1
      omega
  · rintro _ ⟨hlen, rfl⟩
    refine go ?_; simp -implicitDefEqProofs only [go_sem, Nat.reduceSub, Nat.reduceAdd, Nat.reduceLeDiff, Nat.reduceEqDiff, Nat.reduceBEq, Nat.reduceLT]
    refine go ?_; simp -implicitDefEqProofs only [go_sem, Nat.reduceSub, Nat.reduceAdd, Nat.reduceLeDiff, Nat.reduceEqDiff, Nat.reduceBEq, Nat.reduceLT]
    rw [wpC_loop]
    refine AC.loop (fun n st => ∃ i : Nat, i + n = a.length ∧ a.take i = b.take i ∧ st = ⟨mk 27 [(0, .sl (a.map De.cells) .no), (1, .sl (b.map De.cells) .no), (12, .int .i64 (rLen (a.map De.cells))), (13, .int .i64 i)], H, []⟩) a.length ⟨0, by omega, rfl, rfl⟩ ?_
    rintro n _ ⟨i, hi, hall, rfl⟩
    simp -implicitDefEqProofs only [go_sem, Nat.reduceSub, Nat.reduceAdd, Nat.reduceLeDiff, Nat.reduceEqDiff, Nat.reduceBEq, Nat.reduceLT, l_gSameDecls_0]
    refine go ?_; simp -implicitDefEqProofs only [go_sem, Nat.reduceSub, Nat.reduceAdd, Nat.reduceLeDiff, Nat.reduceEqDiff, Nat.reduceBEq, Nat.reduceLT]
    refine go ?_; simp -implicitDefEqProofs only [go_sem, Nat.reduceSub, Nat.reduceAdd, Nat.reduceLeDiff, Nat.reduceEqDiff, Nat.reduceBEq, Nat.reduceLT]
    refine wpC_split rfl rfl (fun h => ?_) (fun h => ?_) <;> simp -implicitDefEqProofs only [go_sem, Nat.reduceSub, Nat.reduceAdd, Nat.reduceLeDiff, Nat.reduceEqDiff, Nat.reduceBEq, Nat.reduceLT]
    · rw [iLt_true, rLen_eq, List.length_map] at h
      obtain ⟨x, hx⟩ : ∃ x, a[i]? = some x := ⟨_, List.getElem?_eq_getElem (by omega)⟩
      obtain ⟨y, hy⟩ : ∃ y, b[i]? = some y := ⟨_, List.getElem?_eq_getElem (by omega)⟩
      have e : wAdd .i64 (i : Int) 1 = ((i + 1 : Nat) : Int) := by rw [wAdd_i64] <;> omega
      have hxm := List.mem_of_getElem? hx
      repeat' (first | ((with_reducible refine PureCall.step (hr _ hxm _) ?_); simp -implicitDefEqProofs only [go_sem, Nat.reduceSub, Nat.reduceAdd, Nat.reduceLeDiff, Nat.reduceEqDiff, Nat.reduceBEq, Nat.reduceLT, De.iaddr hx, De.iaddr hy]) | (refine wpC_split rfl rfl (fun h => ?_) (fun h => ?_) <;> (try simp -implicitDefEqProofs only [go_sem, Nat.reduceSub, Nat.reduceAdd, Nat.reduceLeDiff, Nat.reduceEqDiff, Nat.reduceBEq, Nat.reduceLT, h, De.iaddr hx, De.iaddr hy])) | (refine plan_split rfl rfl (fun h => ?_) (fun h => ?_) <;> simp -implicitDefEqProofs only [go_sem, Nat.reduceSub, Nat.reduceAdd, Nat.reduceLeDiff, Nat.reduceEqDiff, Nat.reduceBEq, Nat.reduceLT, h, De.iaddr hx, De.iaddr hy]) | (refine planD_split rfl rfl (fun h => ?_) (fun h => ?_) <;> simp -implicitDefEqProofs only [go_sem, Nat.reduceSub, Nat.reduceAdd, Nat.reduceLeDiff, Nat.reduceEqDiff, Nat.reduceBEq, Nat.reduceLT, h, De.iaddr hx, De.iaddr hy]) | (refine go ?_; try simp -implicitDefEqProofs only [go_sem, Nat.reduceSub, Nat.reduceAdd, Nat.reduceLeDiff, Nat.reduceEqDiff, Nat.reduceBEq, Nat.reduceLT, De.iaddr hx, De.iaddr hy]) | ((with_reducible refine wpC_id ?_); simp -implicitDefEqProofs only [go_sem, Nat.reduceSub, Nat.reduceAdd, Nat.reduceLeDiff, Nat.reduceEqDiff, Nat.reduceBEq, Nat.reduceLT, De.iaddr hx, De.iaddr hy]) | ((with_reducible first | refine quiet_id ?_ | refine wrote_id ?_ | refine resQ_id ?_); simp -implicitDefEqProofs only [go_sem, Nat.reduceSub, Nat.reduceAdd, Nat.reduceLeDiff, Nat.reduceEqDiff, Nat.reduceBEq, Nat.reduceLT, De.iaddr hx, De.iaddr hy]) | fail)
      all_goals first
        | (rw [show dE a b = false from dE_list hx hy (by simp only [bNot_true, bNot_false, iEq_dE, sEq_dE, bEq_dE, bXor_t, bXor_f, lenE, lenD] at *; first | assumption | (simp [De.dE_eq, *]; done))])
        | (have h3 : dE x y = true := (by simp only [bNot_true, bNot_false, iEq_dE, sEq_dE, bEq_dE, bXor_t, bXor_f, lenE, lenD] at *; first | assumption | (simp [De.dE_eq, *]; done))
           exact ⟨n - 1, by omega, i + 1, by omega, take_step hall hx hy (dE_true.1 h3), by rw [e]⟩)
    · rw [iLt_false, rLen_eq, List.length_map] at h
      have h1 : i = a.length := by omega
      subst h1
      have := take_eq_all hlen hall
      repeat' (first | (refine wpC_split rfl rfl (fun h => ?_) (fun h => ?_) <;> (try simp -implicitDefEqProofs only [go_sem, Nat.reduceSub, Nat.reduceAdd, Nat.reduceLeDiff, Nat.reduceEqDiff, Nat.reduceBEq, Nat.reduceLT, h])) | (refine plan_split rfl rfl (fun h => ?_) (fun h => ?_) <;> simp -implicitDefEqProofs only [go_sem, Nat.reduceSub, Nat.reduceAdd, Nat.reduceLeDiff, Nat.reduceEqDiff, Nat.reduceBEq, Nat.reduceLT, h]) | (refine planD_split rfl rfl (fun h => ?_) (fun h => ?_) <;> simp -implicitDefEqProofs only [go_sem, Nat.reduceSub, Nat.reduceAdd, Nat.reduceLeDiff, Nat.reduceEqDiff, Nat.reduceBEq, Nat.reduceLT, h]) | (refine go ?_; try simp -implicitDefEqProofs only [go_sem, Nat.reduceSub, Nat.reduceAdd, Nat.reduceLeDiff, Nat.reduceEqDiff, Nat.reduceBEq, Nat.reduceLT]) | ((with_reducible refine wpC_id ?_); simp -implicitDefEqProofs only [go_sem, Nat.reduceSub, Nat.reduceAdd, Nat.reduceLeDiff, Nat.reduceEqDiff, Nat.reduceBEq, Nat.reduceLT]) | ((with_reducible first | refine quiet_id ?_ | refine wrote_id ?_ | refine resQ_id ?_); simp -implicitDefEqProofs only [go_sem, Nat.reduceSub, Nat.reduceAdd, Nat.reduceLeDiff, Nat.reduceEqDiff, Nat.reduceBEq, Nat.reduceLT]) | fail)
      rw [dE_true.2 this]

end Go.Proofs.YtmpoklkgdcofbaaGreatDoor

/- MADE BY PROGRAM (wip/tools/gsame.py): types, patterns, expressions, declarations compared: the reference, the greater ones. -/
set_option maxRecDepth 100000
set_option linter.unusedVariables false
set_option linter.unusedSimpArgs false
namespace Go.Proofs.YtmpoklkgdcofbaaGreatDoor
open Go.Eng

set_option maxHeartbeats 8000000 in
theorem gSame_step {O : Cfg} (a b : Mo) (ha : a.Ok) (e5 : PureCall O f_gSameDecls [.sl (a.decls.map De.cells) .no, .sl (b.decls.map De.cells) .no] (.bool (dE a.decls b.decls))) : PureCall O f_gSame [.agg a.cells, .agg b.cells] (.bool (dE a b)) := by
  refine entryF h_gSame rfl fun H => ?_
  simp -implicitDefEqProofs only [go_sem, Nat.reduceSub, Nat.reduceAdd, Nat.reduceLeDiff, Nat.reduceEqDiff, Nat.reduceBEq, Nat.reduceLT, c_gSame]
  refine boxed_intro rfl fun i1 h1 => ?_; simp -implicitDefEqProofs only [go_sem, Nat.reduceSub, Nat.reduceAdd, Nat.reduceLeDiff, Nat.reduceEqDiff, Nat.reduceBEq, Nat.reduceLT]
  refine boxed_intro rfl fun i2 h2 => ?_; simp -implicitDefEqProofs only [go_sem, Nat.reduceSub, Nat.reduceAdd, Nat.reduceLeDiff, Nat.reduceEqDiff, Nat.reduceBEq, Nat.reduceLT]
  have k1 := upd_old (o' := .cells b.cells) (Hp.upd_same H i1 (.cells a.cells)) h2
  have k2 := Hp.upd_same (H.upd i1 (.cells a.cells)) i2 (.cells b.cells)
  have hle := le_new (le_new (le_self H) h1 (.cells a.cells)) h2 (.cells b.cells)
  generalize hHh : (H.upd i1 (.cells a.cells)).upd i2 (.cells b.cells) = Hh at k1 k2 hle ⊢
  refine AC.cut (fun st => (dE a.name b.name && dE a.all b.all && dE a.exports b.exports && dE a.imports.length b.imports.length && dE a.decls b.decls) = true ∧ st = ⟨mk 79 [(2, .ref i1 0), (3, .ref i2 0)], Hh, []⟩) ?_ ?_
  · refine go ?_; simp -implicitDefEqProofs only [go_sem, Nat.reduceSub, Nat.reduceAdd, Nat.reduceLeDiff, Nat.reduceEqDiff, Nat.reduceBEq, Nat.reduceLT, k1, k2]
    repeat' (first | ((with_reducible refine PureCall.step (rSameStr_pure _ _ ha.exports.1) ?_); simp -implicitDefEqProofs only [go_sem, Nat.reduceSub, Nat.reduceAdd, Nat.reduceLeDiff, Nat.reduceEqDiff, Nat.reduceBEq, Nat.reduceLT, k1, k2]) | ((with_reducible refine PureCall.step (e5) ?_); simp -implicitDefEqProofs only [go_sem, Nat.reduceSub, Nat.reduceAdd, Nat.reduceLeDiff, Nat.reduceEqDiff, Nat.reduceBEq, Nat.reduceLT, k1, k2]) | (refine wpC_split rfl rfl (fun h => ?_) (fun h => ?_) <;> (try simp -implicitDefEqProofs only [go_sem, Nat.reduceSub, Nat.reduceAdd, Nat.reduceLeDiff, Nat.reduceEqDiff, Nat.reduceBEq, Nat.reduceLT, h, k1, k2])) | (refine plan_split rfl rfl (fun h => ?_) (fun h => ?_) <;> simp -implicitDefEqProofs only [go_sem, Nat.reduceSub, Nat.reduceAdd, Nat.reduceLeDiff, Nat.reduceEqDiff, Nat.reduceBEq, Nat.reduceLT, h, k1, k2]) | (refine planD_split rfl rfl (fun h => ?_) (fun h => ?_) <;> simp -implicitDefEqProofs only [go_sem, Nat.reduceSub, Nat.reduceAdd, Nat.reduceLeDiff, Nat.reduceEqDiff, Nat.reduceBEq, Nat.reduceLT, h, k1, k2]) | (refine go ?_; try simp -implicitDefEqProofs only [go_sem, Nat.reduceSub, Nat.reduceAdd, Nat.reduceLeDiff, Nat.reduceEqDiff, Nat.reduceBEq, Nat.reduceLT, k1, k2]) | ((with_reducible refine wpC_id ?_); simp -implicitDefEqProofs only [go_sem, Nat.reduceSub, Nat.reduceAdd, Nat.reduceLeDiff, Nat.reduceEqDiff, Nat.reduceBEq, Nat.reduceLT, k1, k2]) | ((with_reducible first | refine quiet_id ?_ | refine wrote_id ?_ | refine resQ_id ?_); simp -implicitDefEqProofs only [go_sem, Nat.reduceSub, Nat.reduceAdd, Nat.reduceLeDiff, Nat.reduceEqDiff, Nat.reduceBEq, Nat.reduceLT, k1, k2]) | fail)
    all_goals first
      | (refine endB hle ?_; symm; simp only [bNot_true, bNot_false, iEq_dE, sEq_dE, bEq_dE, bXor_t, bXor_f, lenE, lenD] at *; have hz2 := dE_len h; simp [Mo.dE_eq, *]; done)
      | (refine endB hle ?_; symm; simp only [bNot_true, bNot_false, iEq_dE, sEq_dE, bEq_dE, bXor_t, bXor_f, lenE, lenD] at *; simp [Mo.dE_eq, *]; done)
      | (simp only [bNot_true, bNot_false, iEq_dE, sEq_dE, bEq_dE, bXor_t, bXor_f, lenE, lenD] at *; simp [*]; done)
  rintro _ ⟨hM, rfl⟩
  simp only [Bool.and_eq_true] at hM
  have hb0 := le_self Hh
  have hb1 := k1
  have hb2 := k2
  refine go ?_; simp -implicitDefEqProofs only [go_sem, Nat.reduceSub, Nat.reduceAdd, Nat.reduceLeDiff, Nat.reduceEqDiff, Nat.reduceBEq, Nat.reduceLT, hb1, hb2]
  refine go ?_; simp -implicitDefEqProofs only [go_sem, Nat.reduceSub, Nat.reduceAdd, Nat.reduceLeDiff, Nat.reduceEqDiff, Nat.reduceBEq, Nat.reduceLT]
  rw [wpC_loop]
  refine AC.loop (fun n st => ∃ (i : Nat) (H' : Hp), i + n = a.imports.length ∧ a.imports.take i = b.imports.take i ∧ Hh.le H' ∧ st = ⟨mk 79 [(3, .ref i2 0), (46, .sl (a.imports.map Im.cells) .no), (47, .int .i64 (rLen (a.imports.map Im.cells))), (48, .int .i64 i)], H', []⟩) a.imports.length ⟨0, _, by omega, rfl, hb0, rfl⟩ ?_
  rintro n _ ⟨i, H', hi, hall, hle', rfl⟩
  simp -implicitDefEqProofs only [go_sem, Nat.reduceSub, Nat.reduceAdd, Nat.reduceLeDiff, Nat.reduceEqDiff, Nat.reduceBEq, Nat.reduceLT, l_gSame_0]
  refine go ?_; simp -implicitDefEqProofs only [go_sem, Nat.reduceSub, Nat.reduceAdd, Nat.reduceLeDiff, Nat.reduceEqDiff, Nat.reduceBEq, Nat.reduceLT]
  refine go ?_; simp -implicitDefEqProofs only [go_sem, Nat.reduceSub, Nat.reduceAdd, Nat.reduceLeDiff, Nat.reduceEqDiff, Nat.reduceBEq, Nat.reduceLT]
  refine wpC_split rfl rfl (fun h => ?_) (fun h => ?_) <;> simp -implicitDefEqProofs only [go_sem, Nat.reduceSub, Nat.reduceAdd, Nat.reduceLeDiff, Nat.reduceEqDiff, Nat.reduceBEq, Nat.reduceLT]
  · rw [iLt_true, rLen_eq, List.length_map] at h
    have hlen := dE_true.1 hM.1.2
    have hbd := ha.importsL
    obtain ⟨x, hx⟩ : ∃ x, a.imports[i]? = some x := ⟨_, List.getElem?_eq_getElem (by omega)⟩
    obtain ⟨y, hy⟩ : ∃ y, b.imports[i]? = some y := ⟨_, List.getElem?_eq_getElem (by omega)⟩
    have hxm := List.mem_of_getElem? hx
    have e : wAdd .i64 (i : Int) 1 = ((i + 1 : Nat) : Int) := by rw [wAdd_i64] <;> omega
    have j2 := hle' i2 _ k2
    refine go ?_; simp -implicitDefEqProofs only [go_sem, Nat.reduceSub, Nat.reduceAdd, Nat.reduceLeDiff, Nat.reduceEqDiff, Nat.reduceBEq, Nat.reduceLT, Im.iaddr hx]
    refine newCells_intro fun i3 h3 => ?_; simp -implicitDefEqProofs only [go_sem, Nat.reduceSub, Nat.reduceAdd, Nat.reduceLeDiff, Nat.reduceEqDiff, Nat.reduceBEq, Nat.reduceLT]
    have j3 := upd_old (o' := .cells x.cells) j2 h3
    have hle3 := le_new hle' h3 (.cells x.cells)
    have j4 := Hp.upd_same H' i3 (.cells x.cells)
    refine go ?_; simp -implicitDefEqProofs only [go_sem, Nat.reduceSub, Nat.reduceAdd, Nat.reduceLeDiff, Nat.reduceEqDiff, Nat.reduceBEq, Nat.reduceLT, j3, Im.iaddr hy]
    refine newCells_intro fun i4 h4 => ?_; simp -implicitDefEqProofs only [go_sem, Nat.reduceSub, Nat.reduceAdd, Nat.reduceLeDiff, Nat.reduceEqDiff, Nat.reduceBEq, Nat.reduceLT]
    have m3 := upd_old (o' := .cells y.cells) j3 h4
    have m4 := upd_old (o' := .cells y.cells) j4 h4
    have hle4 := le_new hle3 h4 (.cells y.cells)
    have m5 := Hp.upd_same (H'.upd i3 (.cells x.cells)) i4 (.cells y.cells)
    refine go ?_; simp -implicitDefEqProofs only [go_sem, Nat.reduceSub, Nat.reduceAdd, Nat.reduceLeDiff, Nat.reduceEqDiff, Nat.reduceBEq, Nat.reduceLT, m3, m4, m5, Im.iaddr hy]
    repeat' (first | ((with_reducible refine PureCall.step (rSameStr_pure _ _ (ha.imports _ hxm).names.1) ?_); simp -implicitDefEqProofs only [go_sem, Nat.reduceSub, Nat.reduceAdd, Nat.reduceLeDiff, Nat.reduceEqDiff, Nat.reduceBEq, Nat.reduceLT, m3, m4, m5, Im.iaddr hy]) | (refine wpC_split rfl rfl (fun h => ?_) (fun h => ?_) <;> (try simp -implicitDefEqProofs only [go_sem, Nat.reduceSub, Nat.reduceAdd, Nat.reduceLeDiff, Nat.reduceEqDiff, Nat.reduceBEq, Nat.reduceLT, h, m3, m4, m5, Im.iaddr hy])) | (refine plan_split rfl rfl (fun h => ?_) (fun h => ?_) <;> simp -implicitDefEqProofs only [go_sem, Nat.reduceSub, Nat.reduceAdd, Nat.reduceLeDiff, Nat.reduceEqDiff, Nat.reduceBEq, Nat.reduceLT, h, m3, m4, m5, Im.iaddr hy]) | (refine planD_split rfl rfl (fun h => ?_) (fun h => ?_) <;> simp -implicitDefEqProofs only [go_sem, Nat.reduceSub, Nat.reduceAdd, Nat.reduceLeDiff, Nat.reduceEqDiff, Nat.reduceBEq, Nat.reduceLT, h, m3, m4, m5, Im.iaddr hy]) | (refine go ?_; try simp -implicitDefEqProofs only [go_sem, Nat.reduceSub, Nat.reduceAdd, Nat.reduceLeDiff, Nat.reduceEqDiff, Nat.reduceBEq, Nat.reduceLT, m3, m4, m5, Im.iaddr hy]) | ((with_reducible refine wpC_id ?_); simp -implicitDefEqProofs only [go_sem, Nat.reduceSub, Nat.reduceAdd, Nat.reduceLeDiff, Nat.reduceEqDiff, Nat.reduceBEq, Nat.reduceLT, m3, m4, m5, Im.iaddr hy]) | ((with_reducible first | refine quiet_id ?_ | refine wrote_id ?_ | refine resQ_id ?_); simp -implicitDefEqProofs only [go_sem, Nat.reduceSub, Nat.reduceAdd, Nat.reduceLeDiff, Nat.reduceEqDiff, Nat.reduceBEq, Nat.reduceLT, m3, m4, m5, Im.iaddr hy]) | fail)
    all_goals first
      | (refine endB (le_tr hle hle4) ?_; symm; have hz : dE a.imports b.imports = false := (by refine dE_list hx hy ?_; simp only [bNot_true, bNot_false, iEq_dE, sEq_dE, bEq_dE, bXor_t, bXor_f, lenE, lenD] at *; first | assumption | (simp [Im.dE_eq, *]; done))
         simp [Mo.dE_eq, hz]; done)
      | (have hz : dE x y = true := (by simp only [bNot_true, bNot_false, iEq_dE, sEq_dE, bEq_dE, bXor_t, bXor_f, lenE, lenD] at *; first | assumption | (simp [Im.dE_eq, *]; done))
         exact ⟨n - 1, by omega, i + 1, _, by omega, take_step hall hx hy (dE_true.1 hz), hle4, by rw [e]⟩)
  · rw [iLt_false, rLen_eq, List.length_map] at h
    have hlen := dE_true.1 hM.1.2
    have h1 : i = a.imports.length := by omega
    subst h1
    have heq := take_eq_all hlen hall
    repeat' (first | (refine wpC_split rfl rfl (fun h => ?_) (fun h => ?_) <;> (try simp -implicitDefEqProofs only [go_sem, Nat.reduceSub, Nat.reduceAdd, Nat.reduceLeDiff, Nat.reduceEqDiff, Nat.reduceBEq, Nat.reduceLT, h])) | (refine plan_split rfl rfl (fun h => ?_) (fun h => ?_) <;> simp -implicitDefEqProofs only [go_sem, Nat.reduceSub, Nat.reduceAdd, Nat.reduceLeDiff, Nat.reduceEqDiff, Nat.reduceBEq, Nat.reduceLT, h]) | (refine planD_split rfl rfl (fun h => ?_) (fun h => ?_) <;> simp -implicitDefEqProofs only [go_sem, Nat.reduceSub, Nat.reduceAdd, Nat.reduceLeDiff, Nat.reduceEqDiff, Nat.reduceBEq, Nat.reduceLT, h]) | (refine go ?_; try simp -implicitDefEqProofs only [go_sem, Nat.reduceSub, Nat.reduceAdd, Nat.reduceLeDiff, Nat.reduceEqDiff, Nat.reduceBEq, Nat.reduceLT]) | ((with_reducible refine wpC_id ?_); simp -implicitDefEqProofs only [go_sem, Nat.reduceSub, Nat.reduceAdd, Nat.reduceLeDiff, Nat.reduceEqDiff, Nat.reduceBEq, Nat.reduceLT]) | ((with_reducible first | refine quiet_id ?_ | refine wrote_id ?_ | refine resQ_id ?_); simp -implicitDefEqProofs only [go_sem, Nat.reduceSub, Nat.reduceAdd, Nat.reduceLeDiff, Nat.reduceEqDiff, Nat.reduceBEq, Nat.reduceLT]) | fail)
    refine endB (le_tr hle hle') ?_
    simp only [bNot_true, bNot_false, iEq_dE, sEq_dE, bEq_dE, bXor_t, bXor_f, lenE, lenD, dE_true] at *
    simp [Mo.dE_eq, dE_true, *]

set_option maxHeartbeats 8000000 in
theorem gSameExpr_step {O : Cfg} (a b : Ex) (ha : a.Ok) (e1 : PureCall O f_gsameExprs [.sl (a.args.map Ex.cells) .no, .sl (b.args.map Ex.cells) .no] (.bool (dE a.args b.args))) (e5 : PureCall O f_gSameDecls [.sl (a.decls.map De.cells) .no, .sl (b.decls.map De.cells) .no] (.bool (dE a.decls b.decls))) (e6 : PureCall O f_gsameAlts [.sl (a.alts.map Al.cells) .no, .sl (b.alts.map Al.cells) .no] (.bool (dE a.alts b.alts))) (e7 : ∀ x ∈ a.stmts, ∀ y : St, PureCall O f_gSameExpr [.agg x.expr.cells, .agg y.expr.cells] (.bool (dE x.expr y.expr))) (e8 : ∀ x ∈ a.stmts, ∀ y : St, PureCall O f_gSameDecls [.sl (x.decls.map De.cells) .no, .sl (y.decls.map De.cells) .no] (.bool (dE x.decls y.decls))) : PureCall O f_gSameExpr [.agg a.cells, .agg b.cells] (.bool (dE a b)) := by
  refine entryF h_gSameExpr rfl fun H => ?_
  simp -implicitDefEqProofs only [go_sem, Nat.reduceSub, Nat.reduceAdd, Nat.reduceLeDiff, Nat.reduceEqDiff, Nat.reduceBEq, Nat.reduceLT, c_gSameExpr]
  refine boxed_intro rfl fun i1 h1 => ?_; simp -implicitDefEqProofs only [go_sem, Nat.reduceSub, Nat.reduceAdd, Nat.reduceLeDiff, Nat.reduceEqDiff, Nat.reduceBEq, Nat.reduceLT]
  refine boxed_intro rfl fun i2 h2 => ?_; simp -implicitDefEqProofs only [go_sem, Nat.reduceSub, Nat.reduceAdd, Nat.reduceLeDiff, Nat.reduceEqDiff, Nat.reduceBEq, Nat.reduceLT]
  have k1 := upd_old (o' := .cells b.cells) (Hp.upd_same H i1 (.cells a.cells)) h2
  have k2 := Hp.upd_same (H.upd i1 (.cells a.cells)) i2 (.cells b.cells)
  have hle := le_new (le_new (le_self H) h1 (.cells a.cells)) h2 (.cells b.cells)
  generalize hHh : (H.upd i1 (.cells a.cells)).upd i2 (.cells b.cells) = Hh at k1 k2 hle ⊢
  refine AC.cut (fun st => (dE a.op b.op && dE a.s b.s && dE a.n b.n && dE a.args b.args && dE a.types b.types && dE a.pats b.pats && dE a.fields b.fields && dE a.decls b.decls && dE a.alts b.alts && dE a.stmts.length b.stmts.length) = true ∧ st = ⟨mk 127 [(2, .ref i1 0), (3, .ref i2 0)], Hh, []⟩) ?_ ?_
  · refine go ?_; simp -implicitDefEqProofs only [go_sem, Nat.reduceSub, Nat.reduceAdd, Nat.reduceLeDiff, Nat.reduceEqDiff, Nat.reduceBEq, Nat.reduceLT, k1, k2]
    repeat' (first | ((with_reducible refine PureCall.step (e1) ?_); simp -implicitDefEqProofs only [go_sem, Nat.reduceSub, Nat.reduceAdd, Nat.reduceLeDiff, Nat.reduceEqDiff, Nat.reduceBEq, Nat.reduceLT, k1, k2]) | ((with_reducible refine PureCall.step (dSameAll_pure _ _ ha.typesL ha.types) ?_); simp -implicitDefEqProofs only [go_sem, Nat.reduceSub, Nat.reduceAdd, Nat.reduceLeDiff, Nat.reduceEqDiff, Nat.reduceBEq, Nat.reduceLT, k1, k2]) | ((with_reducible refine PureCall.step (gsamePats_pure _ _ ha.patsL ha.pats) ?_); simp -implicitDefEqProofs only [go_sem, Nat.reduceSub, Nat.reduceAdd, Nat.reduceLeDiff, Nat.reduceEqDiff, Nat.reduceBEq, Nat.reduceLT, k1, k2]) | ((with_reducible refine PureCall.step (rSameStr_pure _ _ ha.fields.1) ?_); simp -implicitDefEqProofs only [go_sem, Nat.reduceSub, Nat.reduceAdd, Nat.reduceLeDiff, Nat.reduceEqDiff, Nat.reduceBEq, Nat.reduceLT, k1, k2]) | ((with_reducible refine PureCall.step (e5) ?_); simp -implicitDefEqProofs only [go_sem, Nat.reduceSub, Nat.reduceAdd, Nat.reduceLeDiff, Nat.reduceEqDiff, Nat.reduceBEq, Nat.reduceLT, k1, k2]) | ((with_reducible refine PureCall.step (e6) ?_); simp -implicitDefEqProofs only [go_sem, Nat.reduceSub, Nat.reduceAdd, Nat.reduceLeDiff, Nat.reduceEqDiff, Nat.reduceBEq, Nat.reduceLT, k1, k2]) | (refine wpC_split rfl rfl (fun h => ?_) (fun h => ?_) <;> (try simp -implicitDefEqProofs only [go_sem, Nat.reduceSub, Nat.reduceAdd, Nat.reduceLeDiff, Nat.reduceEqDiff, Nat.reduceBEq, Nat.reduceLT, h, k1, k2])) | (refine plan_split rfl rfl (fun h => ?_) (fun h => ?_) <;> simp -implicitDefEqProofs only [go_sem, Nat.reduceSub, Nat.reduceAdd, Nat.reduceLeDiff, Nat.reduceEqDiff, Nat.reduceBEq, Nat.reduceLT, h, k1, k2]) | (refine planD_split rfl rfl (fun h => ?_) (fun h => ?_) <;> simp -implicitDefEqProofs only [go_sem, Nat.reduceSub, Nat.reduceAdd, Nat.reduceLeDiff, Nat.reduceEqDiff, Nat.reduceBEq, Nat.reduceLT, h, k1, k2]) | (refine go ?_; try simp -implicitDefEqProofs only [go_sem, Nat.reduceSub, Nat.reduceAdd, Nat.reduceLeDiff, Nat.reduceEqDiff, Nat.reduceBEq, Nat.reduceLT, k1, k2]) | ((with_reducible refine wpC_id ?_); simp -implicitDefEqProofs only [go_sem, Nat.reduceSub, Nat.reduceAdd, Nat.reduceLeDiff, Nat.reduceEqDiff, Nat.reduceBEq, Nat.reduceLT, k1, k2]) | ((with_reducible first | refine quiet_id ?_ | refine wrote_id ?_ | refine resQ_id ?_); simp -implicitDefEqProofs only [go_sem, Nat.reduceSub, Nat.reduceAdd, Nat.reduceLeDiff, Nat.reduceEqDiff, Nat.reduceBEq, Nat.reduceLT, k1, k2]) | fail)
    all_goals first
      | (refine endB hle ?_; symm; simp only [bNot_true, bNot_false, iEq_dE, sEq_dE, bEq_dE, bXor_t, bXor_f, lenE, lenD] at *; have hz2 := dE_len h; simp [Ex.dE_eq, *]; done)
      | (refine endB hle ?_; symm; simp only [bNot_true, bNot_false, iEq_dE, sEq_dE, bEq_dE, bXor_t, bXor_f, lenE, lenD] at *; simp [Ex.dE_eq, *]; done)
      | (simp only [bNot_true, bNot_false, iEq_dE, sEq_dE, bEq_dE, bXor_t, bXor_f, lenE, lenD] at *; simp [*]; done)
  rintro _ ⟨hM, rfl⟩
  simp only [Bool.and_eq_true] at hM
  have hb0 := le_self Hh
  have hb1 := k1
  have hb2 := k2
  refine go ?_; simp -implicitDefEqProofs only [go_sem, Nat.reduceSub, Nat.reduceAdd, Nat.reduceLeDiff, Nat.reduceEqDiff, Nat.reduceBEq, Nat.reduceLT, hb1, hb2]
  refine go ?_; simp -implicitDefEqProofs only [go_sem, Nat.reduceSub, Nat.reduceAdd, Nat.reduceLeDiff, Nat.reduceEqDiff, Nat.reduceBEq, Nat.reduceLT]
  rw [wpC_loop]
  refine AC.loop (fun n st => ∃ (i : Nat) (H' : Hp), i + n = a.stmts.length ∧ a.stmts.take i = b.stmts.take i ∧ Hh.le H' ∧ st = ⟨mk 127 [(3, .ref i2 0), (85, .sl (a.stmts.map St.cells) .no), (86, .int .i64 (rLen (a.stmts.map St.cells))), (87, .int .i64 i)], H', []⟩) a.stmts.length ⟨0, _, by omega, rfl, hb0, rfl⟩ ?_
  rintro n _ ⟨i, H', hi, hall, hle', rfl⟩
  simp -implicitDefEqProofs only [go_sem, Nat.reduceSub, Nat.reduceAdd, Nat.reduceLeDiff, Nat.reduceEqDiff, Nat.reduceBEq, Nat.reduceLT, l_gSameExpr_0]
  refine go ?_; simp -implicitDefEqProofs only [go_sem, Nat.reduceSub, Nat.reduceAdd, Nat.reduceLeDiff, Nat.reduceEqDiff, Nat.reduceBEq, Nat.reduceLT]
  refine go ?_; simp -implicitDefEqProofs only [go_sem, Nat.reduceSub, Nat.reduceAdd, Nat.reduceLeDiff, Nat.reduceEqDiff, Nat.reduceBEq, Nat.reduceLT]
  refine wpC_split rfl rfl (fun h => ?_) (fun h => ?_) <;> simp -implicitDefEqProofs only [go_sem, Nat.reduceSub, Nat.reduceAdd, Nat.reduceLeDiff, Nat.reduceEqDiff, Nat.reduceBEq, Nat.reduceLT]
  · rw [iLt_true, rLen_eq, List.length_map] at h
    have hlen := dE_true.1 hM.2
    have hbd := ha.stmtsL
    obtain ⟨x, hx⟩ : ∃ x, a.stmts[i]? = some x := ⟨_, List.getElem?_eq_getElem (by omega)⟩
    obtain ⟨y, hy⟩ : ∃ y, b.stmts[i]? = some y := ⟨_, List.getElem?_eq_getElem (by omega)⟩
    have hxm := List.mem_of_getElem? hx
    have e : wAdd .i64 (i : Int) 1 = ((i + 1 : Nat) : Int) := by rw [wAdd_i64] <;> omega
    have j2 := hle' i2 _ k2
    refine go ?_; simp -implicitDefEqProofs only [go_sem, Nat.reduceSub, Nat.reduceAdd, Nat.reduceLeDiff, Nat.reduceEqDiff, Nat.reduceBEq, Nat.reduceLT, St.iaddr hx]
    refine newCells_intro fun i3 h3 => ?_; simp -implicitDefEqProofs only [go_sem, Nat.reduceSub, Nat.reduceAdd, Nat.reduceLeDiff, Nat.reduceEqDiff, Nat.reduceBEq, Nat.reduceLT]
    have j3 := upd_old (o' := .cells x.cells) j2 h3
    have hle3 := le_new hle' h3 (.cells x.cells)
    have j4 := Hp.upd_same H' i3 (.cells x.cells)
    refine go ?_; simp -implicitDefEqProofs only [go_sem, Nat.reduceSub, Nat.reduceAdd, Nat.reduceLeDiff, Nat.reduceEqDiff, Nat.reduceBEq, Nat.reduceLT, j3, St.iaddr hy]
    refine newCells_intro fun i4 h4 => ?_; simp -implicitDefEqProofs only [go_sem, Nat.reduceSub, Nat.reduceAdd, Nat.reduceLeDiff, Nat.reduceEqDiff, Nat.reduceBEq, Nat.reduceLT]
    have m3 := upd_old (o' := .cells y.cells) j3 h4
    have m4 := upd_old (o' := .cells y.cells) j4 h4
    have hle4 := le_new hle3 h4 (.cells y.cells)
    have m5 := Hp.upd_same (H'.upd i3 (.cells x.cells)) i4 (.cells y.cells)
    refine go ?_; simp -implicitDefEqProofs only [go_sem, Nat.reduceSub, Nat.reduceAdd, Nat.reduceLeDiff, Nat.reduceEqDiff, Nat.reduceBEq, Nat.reduceLT, m3, m4, m5, St.iaddr hy]
    repeat' (first | ((with_reducible refine PureCall.step (gsamePats_pure _ _ (ha.stmts _ hxm).patL (ha.stmts _ hxm).pat) ?_); simp -implicitDefEqProofs only [go_sem, Nat.reduceSub, Nat.reduceAdd, Nat.reduceLeDiff, Nat.reduceEqDiff, Nat.reduceBEq, Nat.reduceLT, m3, m4, m5, St.iaddr hy]) | ((with_reducible refine PureCall.step (e7 _ hxm _) ?_); simp -implicitDefEqProofs only [go_sem, Nat.reduceSub, Nat.reduceAdd, Nat.reduceLeDiff, Nat.reduceEqDiff, Nat.reduceBEq, Nat.reduceLT, m3, m4, m5, St.iaddr hy]) | ((with_reducible refine PureCall.step (e8 _ hxm _) ?_); simp -implicitDefEqProofs only [go_sem, Nat.reduceSub, Nat.reduceAdd, Nat.reduceLeDiff, Nat.reduceEqDiff, Nat.reduceBEq, Nat.reduceLT, m3, m4, m5, St.iaddr hy]) | (refine wpC_split rfl rfl (fun h => ?_) (fun h => ?_) <;> (try simp -implicitDefEqProofs only [go_sem, Nat.reduceSub, Nat.reduceAdd, Nat.reduceLeDiff, Nat.reduceEqDiff, Nat.reduceBEq, Nat.reduceLT, h, m3, m4, m5, St.iaddr hy])) | (refine plan_split rfl rfl (fun h => ?_) (fun h => ?_) <;> simp -implicitDefEqProofs only [go_sem, Nat.reduceSub, Nat.reduceAdd, Nat.reduceLeDiff, Nat.reduceEqDiff, Nat.reduceBEq, Nat.reduceLT, h, m3, m4, m5, St.iaddr hy]) | (refine planD_split rfl rfl (fun h => ?_) (fun h => ?_) <;> simp -implicitDefEqProofs only [go_sem, Nat.reduceSub, Nat.reduceAdd, Nat.reduceLeDiff, Nat.reduceEqDiff, Nat.reduceBEq, Nat.reduceLT, h, m3, m4, m5, St.iaddr hy]) | (refine go ?_; try simp -implicitDefEqProofs only [go_sem, Nat.reduceSub, Nat.reduceAdd, Nat.reduceLeDiff, Nat.reduceEqDiff, Nat.reduceBEq, Nat.reduceLT, m3, m4, m5, St.iaddr hy]) | ((with_reducible refine wpC_id ?_); simp -implicitDefEqProofs only [go_sem, Nat.reduceSub, Nat.reduceAdd, Nat.reduceLeDiff, Nat.reduceEqDiff, Nat.reduceBEq, Nat.reduceLT, m3, m4, m5, St.iaddr hy]) | ((with_reducible first | refine quiet_id ?_ | refine wrote_id ?_ | refine resQ_id ?_); simp -implicitDefEqProofs only [go_sem, Nat.reduceSub, Nat.reduceAdd, Nat.reduceLeDiff, Nat.reduceEqDiff, Nat.reduceBEq, Nat.reduceLT, m3, m4, m5, St.iaddr hy]) | fail)
    all_goals first
      | (refine endB (le_tr hle hle4) ?_; symm; have hz : dE a.stmts b.stmts = false := (by refine dE_list hx hy ?_; simp only [bNot_true, bNot_false, iEq_dE, sEq_dE, bEq_dE, bXor_t, bXor_f, lenE, lenD] at *; first | assumption | (simp [St.dE_eq, *]; done))
         simp [Ex.dE_eq, hz]; done)
      | (have hz : dE x y = true := (by simp only [bNot_true, bNot_false, iEq_dE, sEq_dE, bEq_dE, bXor_t, bXor_f, lenE, lenD] at *; first | assumption | (simp [St.dE_eq, *]; done))
         exact ⟨n - 1, by omega, i + 1, _, by omega, take_step hall hx hy (dE_true.1 hz), hle4, by rw [e]⟩)
  · rw [iLt_false, rLen_eq, List.length_map] at h
    have hlen := dE_true.1 hM.2
    have h1 : i = a.stmts.length := by omega
    subst h1
    have heq := take_eq_all hlen hall
    repeat' (first | (refine wpC_split rfl rfl (fun h => ?_) (fun h => ?_) <;> (try simp -implicitDefEqProofs only [go_sem, Nat.reduceSub, Nat.reduceAdd, Nat.reduceLeDiff, Nat.reduceEqDiff, Nat.reduceBEq, Nat.reduceLT, h])) | (refine plan_split rfl rfl (fun h => ?_) (fun h => ?_) <;> simp -implicitDefEqProofs only [go_sem, Nat.reduceSub, Nat.reduceAdd, Nat.reduceLeDiff, Nat.reduceEqDiff, Nat.reduceBEq, Nat.reduceLT, h]) | (refine planD_split rfl rfl (fun h => ?_) (fun h => ?_) <;> simp -implicitDefEqProofs only [go_sem, Nat.reduceSub, Nat.reduceAdd, Nat.reduceLeDiff, Nat.reduceEqDiff, Nat.reduceBEq, Nat.reduceLT, h]) | (refine go ?_; try simp -implicitDefEqProofs only [go_sem, Nat.reduceSub, Nat.reduceAdd, Nat.reduceLeDiff, Nat.reduceEqDiff, Nat.reduceBEq, Nat.reduceLT]) | ((with_reducible refine wpC_id ?_); simp -implicitDefEqProofs only [go_sem, Nat.reduceSub, Nat.reduceAdd, Nat.reduceLeDiff, Nat.reduceEqDiff, Nat.reduceBEq, Nat.reduceLT]) | ((with_reducible first | refine quiet_id ?_ | refine wrote_id ?_ | refine resQ_id ?_); simp -implicitDefEqProofs only [go_sem, Nat.reduceSub, Nat.reduceAdd, Nat.reduceLeDiff, Nat.reduceEqDiff, Nat.reduceBEq, Nat.reduceLT]) | fail)
    refine endB (le_tr hle hle') ?_
    simp only [bNot_true, bNot_false, iEq_dE, sEq_dE, bEq_dE, bXor_t, bXor_f, lenE, lenD, dE_true] at *
    simp [Ex.dE_eq, dE_true, *]

set_option maxHeartbeats 8000000 in
theorem gSameDecl_step {O : Cfg} (a b : De) (ha : a.Ok) (e1 : PureCall O f_gsameAlts [.sl (a.alts.map Al.cells) .no, .sl (b.alts.map Al.cells) .no] (.bool (dE a.alts b.alts))) (e2 : PureCall O f_gSameDecls [.sl (a.decls.map De.cells) .no, .sl (b.decls.map De.cells) .no] (.bool (dE a.decls b.decls))) : PureCall O f_gSameDecl [.agg a.cells, .agg b.cells] (.bool (dE a b)) := by
  refine entryF h_gSameDecl rfl fun H => ?_
  simp -implicitDefEqProofs only [go_sem, Nat.reduceSub, Nat.reduceAdd, Nat.reduceLeDiff, Nat.reduceEqDiff, Nat.reduceBEq, Nat.reduceLT, c_gSameDecl]
  refine boxed_intro rfl fun i1 h1 => ?_; simp -implicitDefEqProofs only [go_sem, Nat.reduceSub, Nat.reduceAdd, Nat.reduceLeDiff, Nat.reduceEqDiff, Nat.reduceBEq, Nat.reduceLT]
  refine boxed_intro rfl fun i2 h2 => ?_; simp -implicitDefEqProofs only [go_sem, Nat.reduceSub, Nat.reduceAdd, Nat.reduceLeDiff, Nat.reduceEqDiff, Nat.reduceBEq, Nat.reduceLT]
  have k1 := upd_old (o' := .cells b.cells) (Hp.upd_same H i1 (.cells a.cells)) h2
  have k2 := Hp.upd_same (H.upd i1 (.cells a.cells)) i2 (.cells b.cells)
  have hle := le_new (le_new (le_self H) h1 (.cells a.cells)) h2 (.cells b.cells)
  generalize hHh : (H.upd i1 (.cells a.cells)).upd i2 (.cells b.cells) = Hh at k1 k2 hle ⊢
  refine AC.cut (fun st => (dE a.op b.op && dE a.name b.name && dE a.s b.s && dE a.n b.n && dE a.type b.type && dE a.derivs b.derivs && dE a.context b.context && dE a.alts b.alts && dE a.decls b.decls && dE a.sigs b.sigs) = true ∧ st = ⟨mk 255 [(2, .ref i1 0), (3, .ref i2 0)], Hh, []⟩) ?_ ?_
  · refine go ?_; simp -implicitDefEqProofs only [go_sem, Nat.reduceSub, Nat.reduceAdd, Nat.reduceLeDiff, Nat.reduceEqDiff, Nat.reduceBEq, Nat.reduceLT, k1, k2]
    repeat' (first | ((with_reducible refine PureCall.step (gSameType_pure ha.type _) ?_); simp -implicitDefEqProofs only [go_sem, Nat.reduceSub, Nat.reduceAdd, Nat.reduceLeDiff, Nat.reduceEqDiff, Nat.reduceBEq, Nat.reduceLT, k1, k2]) | ((with_reducible refine PureCall.step (rSameStr_pure _ _ ha.derivs.1) ?_); simp -implicitDefEqProofs only [go_sem, Nat.reduceSub, Nat.reduceAdd, Nat.reduceLeDiff, Nat.reduceEqDiff, Nat.reduceBEq, Nat.reduceLT, k1, k2]) | ((with_reducible refine PureCall.step (dSameAll_pure _ _ ha.contextL ha.context) ?_); simp -implicitDefEqProofs only [go_sem, Nat.reduceSub, Nat.reduceAdd, Nat.reduceLeDiff, Nat.reduceEqDiff, Nat.reduceBEq, Nat.reduceLT, k1, k2]) | ((with_reducible refine PureCall.step (e1) ?_); simp -implicitDefEqProofs only [go_sem, Nat.reduceSub, Nat.reduceAdd, Nat.reduceLeDiff, Nat.reduceEqDiff, Nat.reduceBEq, Nat.reduceLT, k1, k2]) | ((with_reducible refine PureCall.step (e2) ?_); simp -implicitDefEqProofs only [go_sem, Nat.reduceSub, Nat.reduceAdd, Nat.reduceLeDiff, Nat.reduceEqDiff, Nat.reduceBEq, Nat.reduceLT, k1, k2]) | ((with_reducible refine PureCall.step (gSameSigs_step _ _ ha.sigsL ha.sigs) ?_); simp -implicitDefEqProofs only [go_sem, Nat.reduceSub, Nat.reduceAdd, Nat.reduceLeDiff, Nat.reduceEqDiff, Nat.reduceBEq, Nat.reduceLT, k1, k2]) | (refine wpC_split rfl rfl (fun h => ?_) (fun h => ?_) <;> (try simp -implicitDefEqProofs only [go_sem, Nat.reduceSub, Nat.reduceAdd, Nat.reduceLeDiff, Nat.reduceEqDiff, Nat.reduceBEq, Nat.reduceLT, h, k1, k2])) | (refine plan_split rfl rfl (fun h => ?_) (fun h => ?_) <;> simp -implicitDefEqProofs only [go_sem, Nat.reduceSub, Nat.reduceAdd, Nat.reduceLeDiff, Nat.reduceEqDiff, Nat.reduceBEq, Nat.reduceLT, h, k1, k2]) | (refine planD_split rfl rfl (fun h => ?_) (fun h => ?_) <;> simp -implicitDefEqProofs only [go_sem, Nat.reduceSub, Nat.reduceAdd, Nat.reduceLeDiff, Nat.reduceEqDiff, Nat.reduceBEq, Nat.reduceLT, h, k1, k2]) | (refine go ?_; try simp -implicitDefEqProofs only [go_sem, Nat.reduceSub, Nat.reduceAdd, Nat.reduceLeDiff, Nat.reduceEqDiff, Nat.reduceBEq, Nat.reduceLT, k1, k2]) | ((with_reducible refine wpC_id ?_); simp -implicitDefEqProofs only [go_sem, Nat.reduceSub, Nat.reduceAdd, Nat.reduceLeDiff, Nat.reduceEqDiff, Nat.reduceBEq, Nat.reduceLT, k1, k2]) | ((with_reducible first | refine quiet_id ?_ | refine wrote_id ?_ | refine resQ_id ?_); simp -implicitDefEqProofs only [go_sem, Nat.reduceSub, Nat.reduceAdd, Nat.reduceLeDiff, Nat.reduceEqDiff, Nat.reduceBEq, Nat.reduceLT, k1, k2]) | fail)
    all_goals first
      | (refine endB hle ?_; symm; simp only [bNot_true, bNot_false, iEq_dE, sEq_dE, bEq_dE, bXor_t, bXor_f, lenE, lenD] at *; have hz2 := dE_len h; simp [De.dE_eq, *]; done)
      | (refine endB hle ?_; symm; simp only [bNot_true, bNot_false, iEq_dE, sEq_dE, bEq_dE, bXor_t, bXor_f, lenE, lenD] at *; simp [De.dE_eq, *]; done)
      | (simp only [bNot_true, bNot_false, iEq_dE, sEq_dE, bEq_dE, bXor_t, bXor_f, lenE, lenD] at *; simp [*]; done)
  rintro _ ⟨hM, rfl⟩
  simp only [Bool.and_eq_true] at hM
  refine AC.cut (fun st => (dE a.cons.length b.cons.length && dE a.eqs.length b.eqs.length && dE a.vars.length b.vars.length && dE a.deps.length b.deps.length) = true ∧ st = ⟨mk 255 [(2, .ref i1 0), (3, .ref i2 0)], Hh, []⟩) ?_ ?_
  · refine go ?_; simp -implicitDefEqProofs only [go_sem, Nat.reduceSub, Nat.reduceAdd, Nat.reduceLeDiff, Nat.reduceEqDiff, Nat.reduceBEq, Nat.reduceLT, k1, k2]
    repeat' (first | (refine wpC_split rfl rfl (fun h => ?_) (fun h => ?_) <;> (try simp -implicitDefEqProofs only [go_sem, Nat.reduceSub, Nat.reduceAdd, Nat.reduceLeDiff, Nat.reduceEqDiff, Nat.reduceBEq, Nat.reduceLT, h, k1, k2])) | (refine plan_split rfl rfl (fun h => ?_) (fun h => ?_) <;> simp -implicitDefEqProofs only [go_sem, Nat.reduceSub, Nat.reduceAdd, Nat.reduceLeDiff, Nat.reduceEqDiff, Nat.reduceBEq, Nat.reduceLT, h, k1, k2]) | (refine planD_split rfl rfl (fun h => ?_) (fun h => ?_) <;> simp -implicitDefEqProofs only [go_sem, Nat.reduceSub, Nat.reduceAdd, Nat.reduceLeDiff, Nat.reduceEqDiff, Nat.reduceBEq, Nat.reduceLT, h, k1, k2]) | (refine go ?_; try simp -implicitDefEqProofs only [go_sem, Nat.reduceSub, Nat.reduceAdd, Nat.reduceLeDiff, Nat.reduceEqDiff, Nat.reduceBEq, Nat.reduceLT, k1, k2]) | ((with_reducible refine wpC_id ?_); simp -implicitDefEqProofs only [go_sem, Nat.reduceSub, Nat.reduceAdd, Nat.reduceLeDiff, Nat.reduceEqDiff, Nat.reduceBEq, Nat.reduceLT, k1, k2]) | ((with_reducible first | refine quiet_id ?_ | refine wrote_id ?_ | refine resQ_id ?_); simp -implicitDefEqProofs only [go_sem, Nat.reduceSub, Nat.reduceAdd, Nat.reduceLeDiff, Nat.reduceEqDiff, Nat.reduceBEq, Nat.reduceLT, k1, k2]) | fail)
    all_goals first
      | (refine endB hle ?_; symm; simp only [bNot_true, bNot_false, iEq_dE, sEq_dE, bEq_dE, bXor_t, bXor_f, lenE, lenD] at *; have hz2 := dE_len h; simp [De.dE_eq, *]; done)
      | (refine endB hle ?_; symm; simp only [bNot_true, bNot_false, iEq_dE, sEq_dE, bEq_dE, bXor_t, bXor_f, lenE, lenD] at *; simp [De.dE_eq, *]; done)
      | (simp only [bNot_true, bNot_false, iEq_dE, sEq_dE, bEq_dE, bXor_t, bXor_f, lenE, lenD] at *; simp [*]; done)
  rintro _ ⟨hM2, rfl⟩
  simp only [Bool.and_eq_true] at hM2
  have hb0 := le_self Hh
  have hb1 := k1
  have hb2 := k2
  refine AC.cut (fun st => a.cons = b.cons ∧ ∃ H', Hh.le H' ∧ st = ⟨mk 255 [(2, .ref i1 0), (3, .ref i2 0), (122, .sl (a.cons.map Co.cells) .no), (123, .int .i64 (rLen (a.cons.map Co.cells))), (124, .int .i64 ((a.cons.length : Nat) : Int))], H', []⟩) ?_ ?_
  · refine go ?_; simp -implicitDefEqProofs only [go_sem, Nat.reduceSub, Nat.reduceAdd, Nat.reduceLeDiff, Nat.reduceEqDiff, Nat.reduceBEq, Nat.reduceLT, hb1, hb2]
    refine go ?_; simp -implicitDefEqProofs only [go_sem, Nat.reduceSub, Nat.reduceAdd, Nat.reduceLeDiff, Nat.reduceEqDiff, Nat.reduceBEq, Nat.reduceLT]
    rw [wpC_loop]
    refine AC.loop (fun n st => ∃ (i : Nat) (H' : Hp), i + n = a.cons.length ∧ a.cons.take i = b.cons.take i ∧ Hh.le H' ∧ st = ⟨mk 255 [(2, .ref i1 0), (3, .ref i2 0), (122, .sl (a.cons.map Co.cells) .no), (123, .int .i64 (rLen (a.cons.map Co.cells))), (124, .int .i64 i)], H', []⟩) a.cons.length ⟨0, _, by omega, rfl, hb0, rfl⟩ ?_
    rintro n _ ⟨i, H', hi, hall, hle', rfl⟩
    simp -implicitDefEqProofs only [go_sem, Nat.reduceSub, Nat.reduceAdd, Nat.reduceLeDiff, Nat.reduceEqDiff, Nat.reduceBEq, Nat.reduceLT, l_gSameDecl_0]
    refine go ?_; simp -implicitDefEqProofs only [go_sem, Nat.reduceSub, Nat.reduceAdd, Nat.reduceLeDiff, Nat.reduceEqDiff, Nat.reduceBEq, Nat.reduceLT]
    refine go ?_; simp -implicitDefEqProofs only [go_sem, Nat.reduceSub, Nat.reduceAdd, Nat.reduceLeDiff, Nat.reduceEqDiff, Nat.reduceBEq, Nat.reduceLT]
    refine wpC_split rfl rfl (fun h => ?_) (fun h => ?_) <;> simp -implicitDefEqProofs only [go_sem, Nat.reduceSub, Nat.reduceAdd, Nat.reduceLeDiff, Nat.reduceEqDiff, Nat.reduceBEq, Nat.reduceLT]
    · rw [iLt_true, rLen_eq, List.length_map] at h
      have hlen := dE_true.1 hM2.1.1.1
      have hbd := ha.consL
      obtain ⟨x, hx⟩ : ∃ x, a.cons[i]? = some x := ⟨_, List.getElem?_eq_getElem (by omega)⟩
      obtain ⟨y, hy⟩ : ∃ y, b.cons[i]? = some y := ⟨_, List.getElem?_eq_getElem (by omega)⟩
      have hxm := List.mem_of_getElem? hx
      have e : wAdd .i64 (i : Int) 1 = ((i + 1 : Nat) : Int) := by rw [wAdd_i64] <;> omega
      have j2 := hle' i2 _ k2
      refine go ?_; simp -implicitDefEqProofs only [go_sem, Nat.reduceSub, Nat.reduceAdd, Nat.reduceLeDiff, Nat.reduceEqDiff, Nat.reduceBEq, Nat.reduceLT, Co.iaddr hx]
      refine newCells_intro fun i3 h3 => ?_; simp -implicitDefEqProofs only [go_sem, Nat.reduceSub, Nat.reduceAdd, Nat.reduceLeDiff, Nat.reduceEqDiff, Nat.reduceBEq, Nat.reduceLT]
      have j3 := upd_old (o' := .cells x.cells) j2 h3
      have hle3 := le_new hle' h3 (.cells x.cells)
      have j4 := Hp.upd_same H' i3 (.cells x.cells)
      refine go ?_; simp -implicitDefEqProofs only [go_sem, Nat.reduceSub, Nat.reduceAdd, Nat.reduceLeDiff, Nat.reduceEqDiff, Nat.reduceBEq, Nat.reduceLT, j3, j4, Co.iaddr hy]
      repeat' (first | ((with_reducible refine PureCall.step (gSameType_pure (ha.cons _ hxm).type _) ?_); simp -implicitDefEqProofs only [go_sem, Nat.reduceSub, Nat.reduceAdd, Nat.reduceLeDiff, Nat.reduceEqDiff, Nat.reduceBEq, Nat.reduceLT, j3, j4, Co.iaddr hy]) | ((with_reducible refine PureCall.step (rSameStr_pure _ _ (ha.cons _ hxm).fields.1) ?_); simp -implicitDefEqProofs only [go_sem, Nat.reduceSub, Nat.reduceAdd, Nat.reduceLeDiff, Nat.reduceEqDiff, Nat.reduceBEq, Nat.reduceLT, j3, j4, Co.iaddr hy]) | (refine wpC_split rfl rfl (fun h => ?_) (fun h => ?_) <;> (try simp -implicitDefEqProofs only [go_sem, Nat.reduceSub, Nat.reduceAdd, Nat.reduceLeDiff, Nat.reduceEqDiff, Nat.reduceBEq, Nat.reduceLT, h, j3, j4, Co.iaddr hy])) | (refine plan_split rfl rfl (fun h => ?_) (fun h => ?_) <;> simp -implicitDefEqProofs only [go_sem, Nat.reduceSub, Nat.reduceAdd, Nat.reduceLeDiff, Nat.reduceEqDiff, Nat.reduceBEq, Nat.reduceLT, h, j3, j4, Co.iaddr hy]) | (refine planD_split rfl rfl (fun h => ?_) (fun h => ?_) <;> simp -implicitDefEqProofs only [go_sem, Nat.reduceSub, Nat.reduceAdd, Nat.reduceLeDiff, Nat.reduceEqDiff, Nat.reduceBEq, Nat.reduceLT, h, j3, j4, Co.iaddr hy]) | (refine go ?_; try simp -implicitDefEqProofs only [go_sem, Nat.reduceSub, Nat.reduceAdd, Nat.reduceLeDiff, Nat.reduceEqDiff, Nat.reduceBEq, Nat.reduceLT, j3, j4, Co.iaddr hy]) | ((with_reducible refine wpC_id ?_); simp -implicitDefEqProofs only [go_sem, Nat.reduceSub, Nat.reduceAdd, Nat.reduceLeDiff, Nat.reduceEqDiff, Nat.reduceBEq, Nat.reduceLT, j3, j4, Co.iaddr hy]) | ((with_reducible first | refine quiet_id ?_ | refine wrote_id ?_ | refine resQ_id ?_); simp -implicitDefEqProofs only [go_sem, Nat.reduceSub, Nat.reduceAdd, Nat.reduceLeDiff, Nat.reduceEqDiff, Nat.reduceBEq, Nat.reduceLT, j3, j4, Co.iaddr hy]) | fail)
      all_goals first
        | (refine endB (le_tr hle hle3) ?_; symm; have hz : dE a.cons b.cons = false := (by refine dE_list hx hy ?_; simp only [bNot_true, bNot_false, iEq_dE, sEq_dE, bEq_dE, bXor_t, bXor_f, lenE, lenD] at *; first | assumption | (simp [Co.dE_eq, *]; done))
           simp [De.dE_eq, hz]; done)
        | (have hz : dE x y = true := (by simp only [bNot_true, bNot_false, iEq_dE, sEq_dE, bEq_dE, bXor_t, bXor_f, lenE, lenD] at *; first | assumption | (simp [Co.dE_eq, *]; done))
           exact ⟨n - 1, by omega, i + 1, _, by omega, take_step hall hx hy (dE_true.1 hz), hle3, by rw [e]⟩)
    · rw [iLt_false, rLen_eq, List.length_map] at h
      have hlen := dE_true.1 hM2.1.1.1
      have h1 : i = a.cons.length := by omega
      subst h1
      have heq := take_eq_all hlen hall
      repeat' (first | (refine wpC_split rfl rfl (fun h => ?_) (fun h => ?_) <;> (try simp -implicitDefEqProofs only [go_sem, Nat.reduceSub, Nat.reduceAdd, Nat.reduceLeDiff, Nat.reduceEqDiff, Nat.reduceBEq, Nat.reduceLT, h])) | (refine plan_split rfl rfl (fun h => ?_) (fun h => ?_) <;> simp -implicitDefEqProofs only [go_sem, Nat.reduceSub, Nat.reduceAdd, Nat.reduceLeDiff, Nat.reduceEqDiff, Nat.reduceBEq, Nat.reduceLT, h]) | (refine planD_split rfl rfl (fun h => ?_) (fun h => ?_) <;> simp -implicitDefEqProofs only [go_sem, Nat.reduceSub, Nat.reduceAdd, Nat.reduceLeDiff, Nat.reduceEqDiff, Nat.reduceBEq, Nat.reduceLT, h]) | (refine go ?_; try simp -implicitDefEqProofs only [go_sem, Nat.reduceSub, Nat.reduceAdd, Nat.reduceLeDiff, Nat.reduceEqDiff, Nat.reduceBEq, Nat.reduceLT]) | ((with_reducible refine wpC_id ?_); simp -implicitDefEqProofs only [go_sem, Nat.reduceSub, Nat.reduceAdd, Nat.reduceLeDiff, Nat.reduceEqDiff, Nat.reduceBEq, Nat.reduceLT]) | ((with_reducible first | refine quiet_id ?_ | refine wrote_id ?_ | refine resQ_id ?_); simp -implicitDefEqProofs only [go_sem, Nat.reduceSub, Nat.reduceAdd, Nat.reduceLeDiff, Nat.reduceEqDiff, Nat.reduceBEq, Nat.reduceLT]) | fail)
      exact ⟨heq, _, hle', rfl⟩
  rintro _ ⟨heq0, H0, hb0, rfl⟩
  have hb1 := hb0 i1 _ k1
  have hb2 := hb0 i2 _ k2
  refine AC.cut (fun st => a.eqs = b.eqs ∧ ∃ H', Hh.le H' ∧ st = ⟨mk 255 [(2, .ref i1 0), (3, .ref i2 0), (164, .sl (a.eqs.map Eqn.cells) .no), (165, .int .i64 (rLen (a.eqs.map Eqn.cells))), (166, .int .i64 ((a.eqs.length : Nat) : Int))], H', []⟩) ?_ ?_
  · refine go ?_; simp -implicitDefEqProofs only [go_sem, Nat.reduceSub, Nat.reduceAdd, Nat.reduceLeDiff, Nat.reduceEqDiff, Nat.reduceBEq, Nat.reduceLT, hb1, hb2]
    refine go ?_; simp -implicitDefEqProofs only [go_sem, Nat.reduceSub, Nat.reduceAdd, Nat.reduceLeDiff, Nat.reduceEqDiff, Nat.reduceBEq, Nat.reduceLT]
    rw [wpC_loop]
    refine AC.loop (fun n st => ∃ (i : Nat) (H' : Hp), i + n = a.eqs.length ∧ a.eqs.take i = b.eqs.take i ∧ Hh.le H' ∧ st = ⟨mk 255 [(2, .ref i1 0), (3, .ref i2 0), (164, .sl (a.eqs.map Eqn.cells) .no), (165, .int .i64 (rLen (a.eqs.map Eqn.cells))), (166, .int .i64 i)], H', []⟩) a.eqs.length ⟨0, _, by omega, rfl, hb0, rfl⟩ ?_
    rintro n _ ⟨i, H', hi, hall, hle', rfl⟩
    simp -implicitDefEqProofs only [go_sem, Nat.reduceSub, Nat.reduceAdd, Nat.reduceLeDiff, Nat.reduceEqDiff, Nat.reduceBEq, Nat.reduceLT, l_gSameDecl_1]
    refine go ?_; simp -implicitDefEqProofs only [go_sem, Nat.reduceSub, Nat.reduceAdd, Nat.reduceLeDiff, Nat.reduceEqDiff, Nat.reduceBEq, Nat.reduceLT]
    refine go ?_; simp -implicitDefEqProofs only [go_sem, Nat.reduceSub, Nat.reduceAdd, Nat.reduceLeDiff, Nat.reduceEqDiff, Nat.reduceBEq, Nat.reduceLT]
    refine wpC_split rfl rfl (fun h => ?_) (fun h => ?_) <;> simp -implicitDefEqProofs only [go_sem, Nat.reduceSub, Nat.reduceAdd, Nat.reduceLeDiff, Nat.reduceEqDiff, Nat.reduceBEq, Nat.reduceLT]
    · rw [iLt_true, rLen_eq, List.length_map] at h
      have hlen := dE_true.1 hM2.1.1.2
      have hbd := ha.eqsL
      obtain ⟨x, hx⟩ : ∃ x, a.eqs[i]? = some x := ⟨_, List.getElem?_eq_getElem (by omega)⟩
      obtain ⟨y, hy⟩ : ∃ y, b.eqs[i]? = some y := ⟨_, List.getElem?_eq_getElem (by omega)⟩
      have hxm := List.mem_of_getElem? hx
      have e : wAdd .i64 (i : Int) 1 = ((i + 1 : Nat) : Int) := by rw [wAdd_i64] <;> omega
      have j2 := hle' i2 _ k2
      refine go ?_; simp -implicitDefEqProofs only [go_sem, Nat.reduceSub, Nat.reduceAdd, Nat.reduceLeDiff, Nat.reduceEqDiff, Nat.reduceBEq, Nat.reduceLT, Eqn.iaddr hx]
      refine newCells_intro fun i3 h3 => ?_; simp -implicitDefEqProofs only [go_sem, Nat.reduceSub, Nat.reduceAdd, Nat.reduceLeDiff, Nat.reduceEqDiff, Nat.reduceBEq, Nat.reduceLT]
      have j3 := upd_old (o' := .cells x.cells) j2 h3
      have hle3 := le_new hle' h3 (.cells x.cells)
      have j4 := Hp.upd_same H' i3 (.cells x.cells)
      refine go ?_; simp -implicitDefEqProofs only [go_sem, Nat.reduceSub, Nat.reduceAdd, Nat.reduceLeDiff, Nat.reduceEqDiff, Nat.reduceBEq, Nat.reduceLT, j3, j4, Eqn.iaddr hy]
      repeat' (first | ((with_reducible refine PureCall.step (gSameType_pure (ha.eqs _ hxm).left _) ?_); simp -implicitDefEqProofs only [go_sem, Nat.reduceSub, Nat.reduceAdd, Nat.reduceLeDiff, Nat.reduceEqDiff, Nat.reduceBEq, Nat.reduceLT, j3, j4, Eqn.iaddr hy]) | ((with_reducible refine PureCall.step (gSameType_pure (ha.eqs _ hxm).right _) ?_); simp -implicitDefEqProofs only [go_sem, Nat.reduceSub, Nat.reduceAdd, Nat.reduceLeDiff, Nat.reduceEqDiff, Nat.reduceBEq, Nat.reduceLT, j3, j4, Eqn.iaddr hy]) | (refine wpC_split rfl rfl (fun h => ?_) (fun h => ?_) <;> (try simp -implicitDefEqProofs only [go_sem, Nat.reduceSub, Nat.reduceAdd, Nat.reduceLeDiff, Nat.reduceEqDiff, Nat.reduceBEq, Nat.reduceLT, h, j3, j4, Eqn.iaddr hy])) | (refine plan_split rfl rfl (fun h => ?_) (fun h => ?_) <;> simp -implicitDefEqProofs only [go_sem, Nat.reduceSub, Nat.reduceAdd, Nat.reduceLeDiff, Nat.reduceEqDiff, Nat.reduceBEq, Nat.reduceLT, h, j3, j4, Eqn.iaddr hy]) | (refine planD_split rfl rfl (fun h => ?_) (fun h => ?_) <;> simp -implicitDefEqProofs only [go_sem, Nat.reduceSub, Nat.reduceAdd, Nat.reduceLeDiff, Nat.reduceEqDiff, Nat.reduceBEq, Nat.reduceLT, h, j3, j4, Eqn.iaddr hy]) | (refine go ?_; try simp -implicitDefEqProofs only [go_sem, Nat.reduceSub, Nat.reduceAdd, Nat.reduceLeDiff, Nat.reduceEqDiff, Nat.reduceBEq, Nat.reduceLT, j3, j4, Eqn.iaddr hy]) | ((with_reducible refine wpC_id ?_); simp -implicitDefEqProofs only [go_sem, Nat.reduceSub, Nat.reduceAdd, Nat.reduceLeDiff, Nat.reduceEqDiff, Nat.reduceBEq, Nat.reduceLT, j3, j4, Eqn.iaddr hy]) | ((with_reducible first | refine quiet_id ?_ | refine wrote_id ?_ | refine resQ_id ?_); simp -implicitDefEqProofs only [go_sem, Nat.reduceSub, Nat.reduceAdd, Nat.reduceLeDiff, Nat.reduceEqDiff, Nat.reduceBEq, Nat.reduceLT, j3, j4, Eqn.iaddr hy]) | fail)
      all_goals first
        | (refine endB (le_tr hle hle3) ?_; symm; have hz : dE a.eqs b.eqs = false := (by refine dE_list hx hy ?_; simp only [bNot_true, bNot_false, iEq_dE, sEq_dE, bEq_dE, bXor_t, bXor_f, lenE, lenD] at *; first | assumption | (simp [Eqn.dE_eq, *]; done))
           simp [De.dE_eq, hz]; done)
        | (have hz : dE x y = true := (by simp only [bNot_true, bNot_false, iEq_dE, sEq_dE, bEq_dE, bXor_t, bXor_f, lenE, lenD] at *; first | assumption | (simp [Eqn.dE_eq, *]; done))
           exact ⟨n - 1, by omega, i + 1, _, by omega, take_step hall hx hy (dE_true.1 hz), hle3, by rw [e]⟩)
    · rw [iLt_false, rLen_eq, List.length_map] at h
      have hlen := dE_true.1 hM2.1.1.2
      have h1 : i = a.eqs.length := by omega
      subst h1
      have heq := take_eq_all hlen hall
      repeat' (first | (refine wpC_split rfl rfl (fun h => ?_) (fun h => ?_) <;> (try simp -implicitDefEqProofs only [go_sem, Nat.reduceSub, Nat.reduceAdd, Nat.reduceLeDiff, Nat.reduceEqDiff, Nat.reduceBEq, Nat.reduceLT, h])) | (refine plan_split rfl rfl (fun h => ?_) (fun h => ?_) <;> simp -implicitDefEqProofs only [go_sem, Nat.reduceSub, Nat.reduceAdd, Nat.reduceLeDiff, Nat.reduceEqDiff, Nat.reduceBEq, Nat.reduceLT, h]) | (refine planD_split rfl rfl (fun h => ?_) (fun h => ?_) <;> simp -implicitDefEqProofs only [go_sem, Nat.reduceSub, Nat.reduceAdd, Nat.reduceLeDiff, Nat.reduceEqDiff, Nat.reduceBEq, Nat.reduceLT, h]) | (refine go ?_; try simp -implicitDefEqProofs only [go_sem, Nat.reduceSub, Nat.reduceAdd, Nat.reduceLeDiff, Nat.reduceEqDiff, Nat.reduceBEq, Nat.reduceLT]) | ((with_reducible refine wpC_id ?_); simp -implicitDefEqProofs only [go_sem, Nat.reduceSub, Nat.reduceAdd, Nat.reduceLeDiff, Nat.reduceEqDiff, Nat.reduceBEq, Nat.reduceLT]) | ((with_reducible first | refine quiet_id ?_ | refine wrote_id ?_ | refine resQ_id ?_); simp -implicitDefEqProofs only [go_sem, Nat.reduceSub, Nat.reduceAdd, Nat.reduceLeDiff, Nat.reduceEqDiff, Nat.reduceBEq, Nat.reduceLT]) | fail)
      exact ⟨heq, _, hle', rfl⟩
  rintro _ ⟨heq1, H1, hb0, rfl⟩
  have hb1 := hb0 i1 _ k1
  have hb2 := hb0 i2 _ k2
  refine AC.cut (fun st => a.vars = b.vars ∧ ∃ H', Hh.le H' ∧ st = ⟨mk 255 [(2, .ref i1 0), (3, .ref i2 0), (195, .sl (a.vars.map Bi.cells) .no), (196, .int .i64 (rLen (a.vars.map Bi.cells))), (197, .int .i64 ((a.vars.length : Nat) : Int))], H', []⟩) ?_ ?_
  · refine go ?_; simp -implicitDefEqProofs only [go_sem, Nat.reduceSub, Nat.reduceAdd, Nat.reduceLeDiff, Nat.reduceEqDiff, Nat.reduceBEq, Nat.reduceLT, hb1, hb2]
    refine go ?_; simp -implicitDefEqProofs only [go_sem, Nat.reduceSub, Nat.reduceAdd, Nat.reduceLeDiff, Nat.reduceEqDiff, Nat.reduceBEq, Nat.reduceLT]
    rw [wpC_loop]
    refine AC.loop (fun n st => ∃ (i : Nat) (H' : Hp), i + n = a.vars.length ∧ a.vars.take i = b.vars.take i ∧ Hh.le H' ∧ st = ⟨mk 255 [(2, .ref i1 0), (3, .ref i2 0), (195, .sl (a.vars.map Bi.cells) .no), (196, .int .i64 (rLen (a.vars.map Bi.cells))), (197, .int .i64 i)], H', []⟩) a.vars.length ⟨0, _, by omega, rfl, hb0, rfl⟩ ?_
    rintro n _ ⟨i, H', hi, hall, hle', rfl⟩
    simp -implicitDefEqProofs only [go_sem, Nat.reduceSub, Nat.reduceAdd, Nat.reduceLeDiff, Nat.reduceEqDiff, Nat.reduceBEq, Nat.reduceLT, l_gSameDecl_2]
    refine go ?_; simp -implicitDefEqProofs only [go_sem, Nat.reduceSub, Nat.reduceAdd, Nat.reduceLeDiff, Nat.reduceEqDiff, Nat.reduceBEq, Nat.reduceLT]
    refine go ?_; simp -implicitDefEqProofs only [go_sem, Nat.reduceSub, Nat.reduceAdd, Nat.reduceLeDiff, Nat.reduceEqDiff, Nat.reduceBEq, Nat.reduceLT]
    refine wpC_split rfl rfl (fun h => ?_) (fun h => ?_) <;> simp -implicitDefEqProofs only [go_sem, Nat.reduceSub, Nat.reduceAdd, Nat.reduceLeDiff, Nat.reduceEqDiff, Nat.reduceBEq, Nat.reduceLT]
    · rw [iLt_true, rLen_eq, List.length_map] at h
      have hlen := dE_true.1 hM2.1.2
      have hbd := ha.varsL
      obtain ⟨x, hx⟩ : ∃ x, a.vars[i]? = some x := ⟨_, List.getElem?_eq_getElem (by omega)⟩
      obtain ⟨y, hy⟩ : ∃ y, b.vars[i]? = some y := ⟨_, List.getElem?_eq_getElem (by omega)⟩
      have hxm := List.mem_of_getElem? hx
      have e : wAdd .i64 (i : Int) 1 = ((i + 1 : Nat) : Int) := by rw [wAdd_i64] <;> omega
      have j2 := hle' i2 _ k2
      refine go ?_; simp -implicitDefEqProofs only [go_sem, Nat.reduceSub, Nat.reduceAdd, Nat.reduceLeDiff, Nat.reduceEqDiff, Nat.reduceBEq, Nat.reduceLT, Bi.iaddr hx]
      refine newCells_intro fun i3 h3 => ?_; simp -implicitDefEqProofs only [go_sem, Nat.reduceSub, Nat.reduceAdd, Nat.reduceLeDiff, Nat.reduceEqDiff, Nat.reduceBEq, Nat.reduceLT]
      have j3 := upd_old (o' := .cells x.cells) j2 h3
      have hle3 := le_new hle' h3 (.cells x.cells)
      have j4 := Hp.upd_same H' i3 (.cells x.cells)
      refine go ?_; simp -implicitDefEqProofs only [go_sem, Nat.reduceSub, Nat.reduceAdd, Nat.reduceLeDiff, Nat.reduceEqDiff, Nat.reduceBEq, Nat.reduceLT, j3, j4, Bi.iaddr hy]
      repeat' (first | ((with_reducible refine PureCall.step (gSameType_pure (ha.vars _ hxm).kind _) ?_); simp -implicitDefEqProofs only [go_sem, Nat.reduceSub, Nat.reduceAdd, Nat.reduceLeDiff, Nat.reduceEqDiff, Nat.reduceBEq, Nat.reduceLT, j3, j4, Bi.iaddr hy]) | (refine wpC_split rfl rfl (fun h => ?_) (fun h => ?_) <;> (try simp -implicitDefEqProofs only [go_sem, Nat.reduceSub, Nat.reduceAdd, Nat.reduceLeDiff, Nat.reduceEqDiff, Nat.reduceBEq, Nat.reduceLT, h, j3, j4, Bi.iaddr hy])) | (refine plan_split rfl rfl (fun h => ?_) (fun h => ?_) <;> simp -implicitDefEqProofs only [go_sem, Nat.reduceSub, Nat.reduceAdd, Nat.reduceLeDiff, Nat.reduceEqDiff, Nat.reduceBEq, Nat.reduceLT, h, j3, j4, Bi.iaddr hy]) | (refine planD_split rfl rfl (fun h => ?_) (fun h => ?_) <;> simp -implicitDefEqProofs only [go_sem, Nat.reduceSub, Nat.reduceAdd, Nat.reduceLeDiff, Nat.reduceEqDiff, Nat.reduceBEq, Nat.reduceLT, h, j3, j4, Bi.iaddr hy]) | (refine go ?_; try simp -implicitDefEqProofs only [go_sem, Nat.reduceSub, Nat.reduceAdd, Nat.reduceLeDiff, Nat.reduceEqDiff, Nat.reduceBEq, Nat.reduceLT, j3, j4, Bi.iaddr hy]) | ((with_reducible refine wpC_id ?_); simp -implicitDefEqProofs only [go_sem, Nat.reduceSub, Nat.reduceAdd, Nat.reduceLeDiff, Nat.reduceEqDiff, Nat.reduceBEq, Nat.reduceLT, j3, j4, Bi.iaddr hy]) | ((with_reducible first | refine quiet_id ?_ | refine wrote_id ?_ | refine resQ_id ?_); simp -implicitDefEqProofs only [go_sem, Nat.reduceSub, Nat.reduceAdd, Nat.reduceLeDiff, Nat.reduceEqDiff, Nat.reduceBEq, Nat.reduceLT, j3, j4, Bi.iaddr hy]) | fail)
      all_goals first
        | (refine endB (le_tr hle hle3) ?_; symm; have hz : dE a.vars b.vars = false := (by refine dE_list hx hy ?_; simp only [bNot_true, bNot_false, iEq_dE, sEq_dE, bEq_dE, bXor_t, bXor_f, lenE, lenD] at *; first | assumption | (simp [Bi.dE_eq, *]; done))
           simp [De.dE_eq, hz]; done)
        | (have hz : dE x y = true := (by simp only [bNot_true, bNot_false, iEq_dE, sEq_dE, bEq_dE, bXor_t, bXor_f, lenE, lenD] at *; first | assumption | (simp [Bi.dE_eq, *]; done))
           exact ⟨n - 1, by omega, i + 1, _, by omega, take_step hall hx hy (dE_true.1 hz), hle3, by rw [e]⟩)
    · rw [iLt_false, rLen_eq, List.length_map] at h
      have hlen := dE_true.1 hM2.1.2
      have h1 : i = a.vars.length := by omega
      subst h1
      have heq := take_eq_all hlen hall
      repeat' (first | (refine wpC_split rfl rfl (fun h => ?_) (fun h => ?_) <;> (try simp -implicitDefEqProofs only [go_sem, Nat.reduceSub, Nat.reduceAdd, Nat.reduceLeDiff, Nat.reduceEqDiff, Nat.reduceBEq, Nat.reduceLT, h])) | (refine plan_split rfl rfl (fun h => ?_) (fun h => ?_) <;> simp -implicitDefEqProofs only [go_sem, Nat.reduceSub, Nat.reduceAdd, Nat.reduceLeDiff, Nat.reduceEqDiff, Nat.reduceBEq, Nat.reduceLT, h]) | (refine planD_split rfl rfl (fun h => ?_) (fun h => ?_) <;> simp -implicitDefEqProofs only [go_sem, Nat.reduceSub, Nat.reduceAdd, Nat.reduceLeDiff, Nat.reduceEqDiff, Nat.reduceBEq, Nat.reduceLT, h]) | (refine go ?_; try simp -implicitDefEqProofs only [go_sem, Nat.reduceSub, Nat.reduceAdd, Nat.reduceLeDiff, Nat.reduceEqDiff, Nat.reduceBEq, Nat.reduceLT]) | ((with_reducible refine wpC_id ?_); simp -implicitDefEqProofs only [go_sem, Nat.reduceSub, Nat.reduceAdd, Nat.reduceLeDiff, Nat.reduceEqDiff, Nat.reduceBEq, Nat.reduceLT]) | ((with_reducible first | refine quiet_id ?_ | refine wrote_id ?_ | refine resQ_id ?_); simp -implicitDefEqProofs only [go_sem, Nat.reduceSub, Nat.reduceAdd, Nat.reduceLeDiff, Nat.reduceEqDiff, Nat.reduceBEq, Nat.reduceLT]) | fail)
      exact ⟨heq, _, hle', rfl⟩
  rintro _ ⟨heq2, H2, hb0, rfl⟩
  have hb1 := hb0 i1 _ k1
  have hb2 := hb0 i2 _ k2
  refine go ?_; simp -implicitDefEqProofs only [go_sem, Nat.reduceSub, Nat.reduceAdd, Nat.reduceLeDiff, Nat.reduceEqDiff, Nat.reduceBEq, Nat.reduceLT, hb1, hb2]
  refine go ?_; simp -implicitDefEqProofs only [go_sem, Nat.reduceSub, Nat.reduceAdd, Nat.reduceLeDiff, Nat.reduceEqDiff, Nat.reduceBEq, Nat.reduceLT]
  rw [wpC_loop]
  refine AC.loop (fun n st => ∃ (i : Nat) (H' : Hp), i + n = a.deps.length ∧ a.deps.take i = b.deps.take i ∧ Hh.le H' ∧ st = ⟨mk 255 [(3, .ref i2 0), (225, .sl (a.deps.map Dp.cells) .no), (226, .int .i64 (rLen (a.deps.map Dp.cells))), (227, .int .i64 i)], H', []⟩) a.deps.length ⟨0, _, by omega, rfl, hb0, rfl⟩ ?_
  rintro n _ ⟨i, H', hi, hall, hle', rfl⟩
  simp -implicitDefEqProofs only [go_sem, Nat.reduceSub, Nat.reduceAdd, Nat.reduceLeDiff, Nat.reduceEqDiff, Nat.reduceBEq, Nat.reduceLT, l_gSameDecl_3]
  refine go ?_; simp -implicitDefEqProofs only [go_sem, Nat.reduceSub, Nat.reduceAdd, Nat.reduceLeDiff, Nat.reduceEqDiff, Nat.reduceBEq, Nat.reduceLT]
  refine go ?_; simp -implicitDefEqProofs only [go_sem, Nat.reduceSub, Nat.reduceAdd, Nat.reduceLeDiff, Nat.reduceEqDiff, Nat.reduceBEq, Nat.reduceLT]
  refine wpC_split rfl rfl (fun h => ?_) (fun h => ?_) <;> simp -implicitDefEqProofs only [go_sem, Nat.reduceSub, Nat.reduceAdd, Nat.reduceLeDiff, Nat.reduceEqDiff, Nat.reduceBEq, Nat.reduceLT]
  · rw [iLt_true, rLen_eq, List.length_map] at h
    have hlen := dE_true.1 hM2.2
    have hbd := ha.depsL
    obtain ⟨x, hx⟩ : ∃ x, a.deps[i]? = some x := ⟨_, List.getElem?_eq_getElem (by omega)⟩
    obtain ⟨y, hy⟩ : ∃ y, b.deps[i]? = some y := ⟨_, List.getElem?_eq_getElem (by omega)⟩
    have hxm := List.mem_of_getElem? hx
    have e : wAdd .i64 (i : Int) 1 = ((i + 1 : Nat) : Int) := by rw [wAdd_i64] <;> omega
    have j2 := hle' i2 _ k2
    refine go ?_; simp -implicitDefEqProofs only [go_sem, Nat.reduceSub, Nat.reduceAdd, Nat.reduceLeDiff, Nat.reduceEqDiff, Nat.reduceBEq, Nat.reduceLT, Dp.iaddr hx]
    refine newCells_intro fun i3 h3 => ?_; simp -implicitDefEqProofs only [go_sem, Nat.reduceSub, Nat.reduceAdd, Nat.reduceLeDiff, Nat.reduceEqDiff, Nat.reduceBEq, Nat.reduceLT]
    have j3 := upd_old (o' := .cells x.cells) j2 h3
    have hle3 := le_new hle' h3 (.cells x.cells)
    have j4 := Hp.upd_same H' i3 (.cells x.cells)
    refine go ?_; simp -implicitDefEqProofs only [go_sem, Nat.reduceSub, Nat.reduceAdd, Nat.reduceLeDiff, Nat.reduceEqDiff, Nat.reduceBEq, Nat.reduceLT, j3, j4, Dp.iaddr hy]
    repeat' (first | ((with_reducible refine PureCall.step (rSameStr_pure _ _ (ha.deps _ hxm).fr.1) ?_); simp -implicitDefEqProofs only [go_sem, Nat.reduceSub, Nat.reduceAdd, Nat.reduceLeDiff, Nat.reduceEqDiff, Nat.reduceBEq, Nat.reduceLT, j3, j4, Dp.iaddr hy]) | ((with_reducible refine PureCall.step (rSameStr_pure _ _ (ha.deps _ hxm).to.1) ?_); simp -implicitDefEqProofs only [go_sem, Nat.reduceSub, Nat.reduceAdd, Nat.reduceLeDiff, Nat.reduceEqDiff, Nat.reduceBEq, Nat.reduceLT, j3, j4, Dp.iaddr hy]) | (refine wpC_split rfl rfl (fun h => ?_) (fun h => ?_) <;> (try simp -implicitDefEqProofs only [go_sem, Nat.reduceSub, Nat.reduceAdd, Nat.reduceLeDiff, Nat.reduceEqDiff, Nat.reduceBEq, Nat.reduceLT, h, j3, j4, Dp.iaddr hy])) | (refine plan_split rfl rfl (fun h => ?_) (fun h => ?_) <;> simp -implicitDefEqProofs only [go_sem, Nat.reduceSub, Nat.reduceAdd, Nat.reduceLeDiff, Nat.reduceEqDiff, Nat.reduceBEq, Nat.reduceLT, h, j3, j4, Dp.iaddr hy]) | (refine planD_split rfl rfl (fun h => ?_) (fun h => ?_) <;> simp -implicitDefEqProofs only [go_sem, Nat.reduceSub, Nat.reduceAdd, Nat.reduceLeDiff, Nat.reduceEqDiff, Nat.reduceBEq, Nat.reduceLT, h, j3, j4, Dp.iaddr hy]) | (refine go ?_; try simp -implicitDefEqProofs only [go_sem, Nat.reduceSub, Nat.reduceAdd, Nat.reduceLeDiff, Nat.reduceEqDiff, Nat.reduceBEq, Nat.reduceLT, j3, j4, Dp.iaddr hy]) | ((with_reducible refine wpC_id ?_); simp -implicitDefEqProofs only [go_sem, Nat.reduceSub, Nat.reduceAdd, Nat.reduceLeDiff, Nat.reduceEqDiff, Nat.reduceBEq, Nat.reduceLT, j3, j4, Dp.iaddr hy]) | ((with_reducible first | refine quiet_id ?_ | refine wrote_id ?_ | refine resQ_id ?_); simp -implicitDefEqProofs only [go_sem, Nat.reduceSub, Nat.reduceAdd, Nat.reduceLeDiff, Nat.reduceEqDiff, Nat.reduceBEq, Nat.reduceLT, j3, j4, Dp.iaddr hy]) | fail)
    all_goals first
      | (refine endB (le_tr hle hle3) ?_; symm; have hz : dE a.deps b.deps = false := (by refine dE_list hx hy ?_; simp only [bNot_true, bNot_false, iEq_dE, sEq_dE, bEq_dE, bXor_t, bXor_f, lenE, lenD] at *; first | assumption | (simp [Dp.dE_eq, *]; done))
         simp [De.dE_eq, hz]; done)
      | (have hz : dE x y = true := (by simp only [bNot_true, bNot_false, iEq_dE, sEq_dE, bEq_dE, bXor_t, bXor_f, lenE, lenD] at *; first | assumption | (simp [Dp.dE_eq, *]; done))
         exact ⟨n - 1, by omega, i + 1, _, by omega, take_step hall hx hy (dE_true.1 hz), hle3, by rw [e]⟩)
  · rw [iLt_false, rLen_eq, List.length_map] at h
    have hlen := dE_true.1 hM2.2
    have h1 : i = a.deps.length := by omega
    subst h1
    have heq := take_eq_all hlen hall
    repeat' (first | (refine wpC_split rfl rfl (fun h => ?_) (fun h => ?_) <;> (try simp -implicitDefEqProofs only [go_sem, Nat.reduceSub, Nat.reduceAdd, Nat.reduceLeDiff, Nat.reduceEqDiff, Nat.reduceBEq, Nat.reduceLT, h])) | (refine plan_split rfl rfl (fun h => ?_) (fun h => ?_) <;> simp -implicitDefEqProofs only [go_sem, Nat.reduceSub, Nat.reduceAdd, Nat.reduceLeDiff, Nat.reduceEqDiff, Nat.reduceBEq, Nat.reduceLT, h]) | (refine planD_split rfl rfl (fun h => ?_) (fun h => ?_) <;> simp -implicitDefEqProofs only [go_sem, Nat.reduceSub, Nat.reduceAdd, Nat.reduceLeDiff, Nat.reduceEqDiff, Nat.reduceBEq, Nat.reduceLT, h]) | (refine go ?_; try simp -implicitDefEqProofs only [go_sem, Nat.reduceSub, Nat.reduceAdd, Nat.reduceLeDiff, Nat.reduceEqDiff, Nat.reduceBEq, Nat.reduceLT]) | ((with_reducible refine wpC_id ?_); simp -implicitDefEqProofs only [go_sem, Nat.reduceSub, Nat.reduceAdd, Nat.reduceLeDiff, Nat.reduceEqDiff, Nat.reduceBEq, Nat.reduceLT]) | ((with_reducible first | refine quiet_id ?_ | refine wrote_id ?_ | refine resQ_id ?_); simp -implicitDefEqProofs only [go_sem, Nat.reduceSub, Nat.reduceAdd, Nat.reduceLeDiff, Nat.reduceEqDiff, Nat.reduceBEq, Nat.reduceLT]) | fail)
    refine endB (le_tr hle hle') ?_
    simp only [bNot_true, bNot_false, iEq_dE, sEq_dE, bEq_dE, bXor_t, bXor_f, lenE, lenD, dE_true] at *
    simp [De.dE_eq, dE_true, *]

theorem gsameAlts_step {O : Cfg} (a b : List Al) (ha : a.length ≤ 140737488355328) (hok : ∀ x ∈ a, x.Ok) (e1 : ∀ x ∈ a, ∀ y : List De, PureCall O f_gSameDecls [.sl (x.wh.map De.cells) .no, .sl (y.map De.cells) .no] (.bool (dE x.wh y))) (e2 : ∀ x ∈ a, ∀ g ∈ x.rhs, ∀ y : List Ex, PureCall O f_gsameExprs [.sl (g.cond.map Ex.cells) .no, .sl (y.map Ex.cells) .no] (.bool (dE g.cond y)))
    (e3 : ∀ x ∈ a, ∀ g ∈ x.rhs, ∀ y : Ex, PureCall O f_gSameExpr [.agg g.thn.cells, .agg y.cells] (.bool (dE g.thn y))) : PureCall O f_gsameAlts [.sl (a.map Al.cells) .no, .sl (b.map Al.cells) .no] (.bool (dE a b)) := by
  refine entryF h_gsameAlts rfl fun H => ?_
  simp -implicitDefEqProofs only [go_sem, Nat.reduceSub, Nat.reduceAdd, Nat.reduceLeDiff, Nat.reduceEqDiff, Nat.reduceBEq, Nat.reduceLT, c_gsameAlts]
  refine AC.cut (fun st => a.length = b.length ∧ st = ⟨mk 81 [(0, .sl (a.map Al.cells) .no), (1, .sl (b.map Al.cells) .no)], H, []⟩) ?_ ?_
  · repeat' (first | (refine wpC_split rfl rfl (fun h => ?_) (fun h => ?_) <;> (try simp -implicitDefEqProofs only [go_sem, Nat.reduceSub, Nat.reduceAdd, Nat.reduceLeDiff, Nat.reduceEqDiff, Nat.reduceBEq, Nat.reduceLT, h])) | (refine plan_split rfl rfl (fun h => ?_) (fun h => ?_) <;> simp -implicitDefEqProofs only [go_sem, Nat.reduceSub, Nat.reduceAdd, Nat.reduceLeDiff, Nat.reduceEqDiff, Nat.reduceBEq, Nat.reduceLT, h]) | (refine planD_split rfl rfl (fun h => ?_) (fun h => ?_) <;> simp -implicitDefEqProofs only [go_sem, Nat.reduceSub, Nat.reduceAdd, Nat.reduceLeDiff, Nat.reduceEqDiff, Nat.reduceBEq, Nat.reduceLT, h]) | (refine go ?_; try simp -implicitDefEqProofs only [go_sem, Nat.reduceSub, Nat.reduceAdd, Nat.reduceLeDiff, Nat.reduceEqDiff, Nat.reduceBEq, Nat.reduceLT]) | ((with_reducible refine wpC_id ?_); simp -implicitDefEqProofs only [go_sem, Nat.reduceSub, Nat.reduceAdd, Nat.reduceLeDiff, Nat.reduceEqDiff, Nat.reduceBEq, Nat.reduceLT]) | ((with_reducible first | refine quiet_id ?_ | refine wrote_id ?_ | refine resQ_id ?_); simp -implicitDefEqProofs only [go_sem, Nat.reduceSub, Nat.reduceAdd, Nat.reduceLeDiff, Nat.reduceEqDiff, Nat.reduceBEq, Nat.reduceLT]) | fail)
    · have h1 := iEq_false.1 (bNot_true.1 h)
      rw [rLen_eq, rLen_eq, List.length_map, List.length_map] at h1
      refine endB (le_self _) ?_
      rw [dE_false.2]; intro e; rw [e] at h1; exact h1 rfl
    · have h1 := iEq_true.1 (bNot_false.1 h)
      rw [rLen_eq, rLen_eq, List.length_map, List.length_map] at h1
      omega
  rintro _ ⟨hlen, rfl⟩
  refine go ?_; simp -implicitDefEqProofs only [go_sem, Nat.reduceSub, Nat.reduceAdd, Nat.reduceLeDiff, Nat.reduceEqDiff, Nat.reduceBEq, Nat.reduceLT]
  refine go ?_; simp -implicitDefEqProofs only [go_sem, Nat.reduceSub, Nat.reduceAdd, Nat.reduceLeDiff, Nat.reduceEqDiff, Nat.reduceBEq, Nat.reduceLT]
  rw [wpC_loop]
  refine AC.loop (fun n st => ∃ (i : Nat) (H' : Hp), i + n = a.length ∧ a.take i = b.take i ∧ H.le H' ∧ st = ⟨mk 81 [(1, .sl (b.map Al.cells) .no), (15, .sl (a.map Al.cells) .no), (16, .int .i64 (rLen (a.map Al.cells))), (17, .int .i64 i)], H', []⟩) a.length ⟨0, H, by omega, rfl, le_self _, rfl⟩ ?_
  rintro n _ ⟨i, H', hi, hall, hle, rfl⟩
  simp -implicitDefEqProofs only [go_sem, Nat.reduceSub, Nat.reduceAdd, Nat.reduceLeDiff, Nat.reduceEqDiff, Nat.reduceBEq, Nat.reduceLT, l_gsameAlts_1]
  refine go ?_; simp -implicitDefEqProofs only [go_sem, Nat.reduceSub, Nat.reduceAdd, Nat.reduceLeDiff, Nat.reduceEqDiff, Nat.reduceBEq, Nat.reduceLT]
  refine go ?_; simp -implicitDefEqProofs only [go_sem, Nat.reduceSub, Nat.reduceAdd, Nat.reduceLeDiff, Nat.reduceEqDiff, Nat.reduceBEq, Nat.reduceLT]
  refine wpC_split rfl rfl (fun h => ?_) (fun h => ?_) <;> simp -implicitDefEqProofs only [go_sem, Nat.reduceSub, Nat.reduceAdd, Nat.reduceLeDiff, Nat.reduceEqDiff, Nat.reduceBEq, Nat.reduceLT]
  · rw [iLt_true, rLen_eq, List.length_map] at h
    obtain ⟨x, hx⟩ : ∃ x, a[i]? = some x := ⟨_, List.getElem?_eq_getElem (by omega)⟩
    obtain ⟨y, hy⟩ : ∃ y, b[i]? = some y := ⟨_, List.getElem?_eq_getElem (by omega)⟩
    have e : wAdd .i64 (i : Int) 1 = ((i + 1 : Nat) : Int) := by rw [wAdd_i64] <;> omega
    have hxm := List.mem_of_getElem? hx
    have hok1 := hok x hxm
    refine go ?_; simp -implicitDefEqProofs only [go_sem, Nat.reduceSub, Nat.reduceAdd, Nat.reduceLeDiff, Nat.reduceEqDiff, Nat.reduceBEq, Nat.reduceLT, Al.iaddr hx]
    refine newCells_intro fun i3 h3 => ?_; simp -implicitDefEqProofs only [go_sem, Nat.reduceSub, Nat.reduceAdd, Nat.reduceLeDiff, Nat.reduceEqDiff, Nat.reduceBEq, Nat.reduceLT]
    refine go ?_; simp -implicitDefEqProofs only [go_sem, Nat.reduceSub, Nat.reduceAdd, Nat.reduceLeDiff, Nat.reduceEqDiff, Nat.reduceBEq, Nat.reduceLT, Al.iaddr hy]
    refine newCells_intro fun i4 h4 => ?_; simp -implicitDefEqProofs only [go_sem, Nat.reduceSub, Nat.reduceAdd, Nat.reduceLeDiff, Nat.reduceEqDiff, Nat.reduceBEq, Nat.reduceLT]
    have m3 := upd_old (o' := .cells y.cells) (Hp.upd_same H' i3 (.cells x.cells)) h4
    have m4 := Hp.upd_same (H'.upd i3 (.cells x.cells)) i4 (.cells y.cells)
    have hle4 := le_new (le_new hle h3 (.cells x.cells)) h4 (.cells y.cells)
    generalize hH4 : (H'.upd i3 (.cells x.cells)).upd i4 (.cells y.cells) = H4 at m3 m4 hle4 ⊢
    have bad : dE x y = false → dE a b = false := fun hz => dE_list hx hy hz
    refine AC.cut (fun st => (dE x.pats y.pats && dE x.rhs.length y.rhs.length && dE x.wh y.wh) = true ∧ st = ⟨mk 81 [(1, .sl (b.map Al.cells) .no), (6, .ref i3 0), (7, .ref i4 0), (15, .sl (a.map Al.cells) .no), (16, .int .i64 (rLen (a.map Al.cells))), (17, .int .i64 i)], H4, []⟩) ?_ ?_
    · refine go ?_; simp -implicitDefEqProofs only [go_sem, Nat.reduceSub, Nat.reduceAdd, Nat.reduceLeDiff, Nat.reduceEqDiff, Nat.reduceBEq, Nat.reduceLT, m3, m4]
      repeat' (first | ((with_reducible refine PureCall.step (gsamePats_pure _ _ hok1.patsL hok1.pats) ?_); simp -implicitDefEqProofs only [go_sem, Nat.reduceSub, Nat.reduceAdd, Nat.reduceLeDiff, Nat.reduceEqDiff, Nat.reduceBEq, Nat.reduceLT, m3, m4]) | ((with_reducible refine PureCall.step (e1 _ hxm _) ?_); simp -implicitDefEqProofs only [go_sem, Nat.reduceSub, Nat.reduceAdd, Nat.reduceLeDiff, Nat.reduceEqDiff, Nat.reduceBEq, Nat.reduceLT, m3, m4]) | (refine wpC_split rfl rfl (fun h => ?_) (fun h => ?_) <;> (try simp -implicitDefEqProofs only [go_sem, Nat.reduceSub, Nat.reduceAdd, Nat.reduceLeDiff, Nat.reduceEqDiff, Nat.reduceBEq, Nat.reduceLT, h, m3, m4])) | (refine plan_split rfl rfl (fun h => ?_) (fun h => ?_) <;> simp -implicitDefEqProofs only [go_sem, Nat.reduceSub, Nat.reduceAdd, Nat.reduceLeDiff, Nat.reduceEqDiff, Nat.reduceBEq, Nat.reduceLT, h, m3, m4]) | (refine planD_split rfl rfl (fun h => ?_) (fun h => ?_) <;> simp -implicitDefEqProofs only [go_sem, Nat.reduceSub, Nat.reduceAdd, Nat.reduceLeDiff, Nat.reduceEqDiff, Nat.reduceBEq, Nat.reduceLT, h, m3, m4]) | (refine go ?_; try simp -implicitDefEqProofs only [go_sem, Nat.reduceSub, Nat.reduceAdd, Nat.reduceLeDiff, Nat.reduceEqDiff, Nat.reduceBEq, Nat.reduceLT, m3, m4]) | ((with_reducible refine wpC_id ?_); simp -implicitDefEqProofs only [go_sem, Nat.reduceSub, Nat.reduceAdd, Nat.reduceLeDiff, Nat.reduceEqDiff, Nat.reduceBEq, Nat.reduceLT, m3, m4]) | ((with_reducible first | refine quiet_id ?_ | refine wrote_id ?_ | refine resQ_id ?_); simp -implicitDefEqProofs only [go_sem, Nat.reduceSub, Nat.reduceAdd, Nat.reduceLeDiff, Nat.reduceEqDiff, Nat.reduceBEq, Nat.reduceLT, m3, m4]) | fail)
      all_goals first
        | (refine endB hle4 ?_; symm; apply bad; simp only [bNot_true, bNot_false, iEq_dE, sEq_dE, bEq_dE, bXor_t, bXor_f, lenE, lenD] at *; have hz2 := dE_len h; simp [Al.dE_eq, *]; done)
        | (refine endB hle4 ?_; symm; apply bad; simp only [bNot_true, bNot_false, iEq_dE, sEq_dE, bEq_dE, bXor_t, bXor_f, lenE, lenD] at *; simp [Al.dE_eq, *]; done)
        | (simp only [bNot_true, bNot_false, iEq_dE, sEq_dE, bEq_dE, bXor_t, bXor_f, lenE, lenD] at *; simp [*]; done)
    rintro _ ⟨hM, rfl⟩
    simp only [Bool.and_eq_true] at hM
    refine go ?_; simp -implicitDefEqProofs only [go_sem, Nat.reduceSub, Nat.reduceAdd, Nat.reduceLeDiff, Nat.reduceEqDiff, Nat.reduceBEq, Nat.reduceLT, m3, m4]
    refine go ?_; simp -implicitDefEqProofs only [go_sem, Nat.reduceSub, Nat.reduceAdd, Nat.reduceLeDiff, Nat.reduceEqDiff, Nat.reduceBEq, Nat.reduceLT]
    rw [wpC_loop]
    refine AC.loop (fun n' st => ∃ (k : Nat) (H5 : Hp), k + n' = x.rhs.length ∧ x.rhs.take k = y.rhs.take k ∧ H4.le H5 ∧ st = ⟨mk 81 [(1, .sl (b.map Al.cells) .no), (7, .ref i4 0), (15, .sl (a.map Al.cells) .no), (16, .int .i64 (rLen (a.map Al.cells))), (17, .int .i64 i), (50, .sl (x.rhs.map Gu.cells) .no), (51, .int .i64 (rLen (x.rhs.map Gu.cells))), (52, .int .i64 k)], H5, []⟩) x.rhs.length ⟨0, _, by omega, rfl, le_self _, rfl⟩ ?_
    rintro n' _ ⟨k, H5, hk, hall5, hle5, rfl⟩
    simp -implicitDefEqProofs only [go_sem, Nat.reduceSub, Nat.reduceAdd, Nat.reduceLeDiff, Nat.reduceEqDiff, Nat.reduceBEq, Nat.reduceLT, l_gsameAlts_0]
    refine go ?_; simp -implicitDefEqProofs only [go_sem, Nat.reduceSub, Nat.reduceAdd, Nat.reduceLeDiff, Nat.reduceEqDiff, Nat.reduceBEq, Nat.reduceLT]
    refine go ?_; simp -implicitDefEqProofs only [go_sem, Nat.reduceSub, Nat.reduceAdd, Nat.reduceLeDiff, Nat.reduceEqDiff, Nat.reduceBEq, Nat.reduceLT]
    refine wpC_split rfl rfl (fun h => ?_) (fun h => ?_) <;> simp -implicitDefEqProofs only [go_sem, Nat.reduceSub, Nat.reduceAdd, Nat.reduceLeDiff, Nat.reduceEqDiff, Nat.reduceBEq, Nat.reduceLT]
    · rw [iLt_true, rLen_eq, List.length_map] at h
      have hlen5 := dE_true.1 hM.1.2
      have hbd5 := hok1.rhsL
      obtain ⟨g, hg⟩ : ∃ g, x.rhs[k]? = some g := ⟨_, List.getElem?_eq_getElem (by omega)⟩
      obtain ⟨g', hg'⟩ : ∃ g', y.rhs[k]? = some g' := ⟨_, List.getElem?_eq_getElem (by omega)⟩
      have ek : wAdd .i64 (k : Int) 1 = ((k + 1 : Nat) : Int) := by rw [wAdd_i64] <;> omega
      have hgm := List.mem_of_getElem? hg
      have j4 := hle5 i4 _ m4
      refine go ?_; simp -implicitDefEqProofs only [go_sem, Nat.reduceSub, Nat.reduceAdd, Nat.reduceLeDiff, Nat.reduceEqDiff, Nat.reduceBEq, Nat.reduceLT, Gu.iaddr hg]
      refine newCells_intro fun i6 h6 => ?_; simp -implicitDefEqProofs only [go_sem, Nat.reduceSub, Nat.reduceAdd, Nat.reduceLeDiff, Nat.reduceEqDiff, Nat.reduceBEq, Nat.reduceLT]
      have m6 := upd_old (o' := .cells g.cells) j4 h6
      have m7 := Hp.upd_same H5 i6 (.cells g.cells)
      have hle6 := le_new hle5 h6 (.cells g.cells)
      refine go ?_; simp -implicitDefEqProofs only [go_sem, Nat.reduceSub, Nat.reduceAdd, Nat.reduceLeDiff, Nat.reduceEqDiff, Nat.reduceBEq, Nat.reduceLT, m6, m7, Gu.iaddr hg']
      repeat' (first | ((with_reducible refine PureCall.step (e2 _ hxm _ hgm _) ?_); simp -implicitDefEqProofs only [go_sem, Nat.reduceSub, Nat.reduceAdd, Nat.reduceLeDiff, Nat.reduceEqDiff, Nat.reduceBEq, Nat.reduceLT, m6, m7, Gu.iaddr hg']) | ((with_reducible refine PureCall.step (e3 _ hxm _ hgm _) ?_); simp -implicitDefEqProofs only [go_sem, Nat.reduceSub, Nat.reduceAdd, Nat.reduceLeDiff, Nat.reduceEqDiff, Nat.reduceBEq, Nat.reduceLT, m6, m7, Gu.iaddr hg']) | (refine wpC_split rfl rfl (fun h => ?_) (fun h => ?_) <;> (try simp -implicitDefEqProofs only [go_sem, Nat.reduceSub, Nat.reduceAdd, Nat.reduceLeDiff, Nat.reduceEqDiff, Nat.reduceBEq, Nat.reduceLT, h, m6, m7, Gu.iaddr hg'])) | (refine plan_split rfl rfl (fun h => ?_) (fun h => ?_) <;> simp -implicitDefEqProofs only [go_sem, Nat.reduceSub, Nat.reduceAdd, Nat.reduceLeDiff, Nat.reduceEqDiff, Nat.reduceBEq, Nat.reduceLT, h, m6, m7, Gu.iaddr hg']) | (refine planD_split rfl rfl (fun h => ?_) (fun h => ?_) <;> simp -implicitDefEqProofs only [go_sem, Nat.reduceSub, Nat.reduceAdd, Nat.reduceLeDiff, Nat.reduceEqDiff, Nat.reduceBEq, Nat.reduceLT, h, m6, m7, Gu.iaddr hg']) | (refine go ?_; try simp -implicitDefEqProofs only [go_sem, Nat.reduceSub, Nat.reduceAdd, Nat.reduceLeDiff, Nat.reduceEqDiff, Nat.reduceBEq, Nat.reduceLT, m6, m7, Gu.iaddr hg']) | ((with_reducible refine wpC_id ?_); simp -implicitDefEqProofs only [go_sem, Nat.reduceSub, Nat.reduceAdd, Nat.reduceLeDiff, Nat.reduceEqDiff, Nat.reduceBEq, Nat.reduceLT, m6, m7, Gu.iaddr hg']) | ((with_reducible first | refine quiet_id ?_ | refine wrote_id ?_ | refine resQ_id ?_); simp -implicitDefEqProofs only [go_sem, Nat.reduceSub, Nat.reduceAdd, Nat.reduceLeDiff, Nat.reduceEqDiff, Nat.reduceBEq, Nat.reduceLT, m6, m7, Gu.iaddr hg']) | fail)
      all_goals first
        | (refine endB (le_tr hle4 hle6) ?_; symm; apply bad; have hz : dE x.rhs y.rhs = false := (by refine dE_list hg hg' ?_; simp only [bNot_true, bNot_false, iEq_dE, sEq_dE, bEq_dE, bXor_t, bXor_f, lenE, lenD] at *; first | assumption | (simp [Gu.dE_eq, *]; done))
           simp [Al.dE_eq, hz]; done)
        | (have hz : dE g g' = true := (by simp only [bNot_true, bNot_false, iEq_dE, sEq_dE, bEq_dE, bXor_t, bXor_f, lenE, lenD] at *; first | assumption | (simp [Gu.dE_eq, *]; done))
           exact ⟨n' - 1, by omega, k + 1, _, by omega, take_step hall5 hg hg' (dE_true.1 hz), hle6, by rw [ek]⟩)
    · rw [iLt_false, rLen_eq, List.length_map] at h
      have hlen5 := dE_true.1 hM.1.2
      have h1 : k = x.rhs.length := by omega
      subst h1
      have heq := take_eq_all hlen5 hall5
      have hz : dE x y = true := by simp [Al.dE_eq, dE_true.1 hM.1.1, heq, dE_true.1 hM.2, dE_self]
      repeat' (first | (refine wpC_split rfl rfl (fun h => ?_) (fun h => ?_) <;> (try simp -implicitDefEqProofs only [go_sem, Nat.reduceSub, Nat.reduceAdd, Nat.reduceLeDiff, Nat.reduceEqDiff, Nat.reduceBEq, Nat.reduceLT, h])) | (refine plan_split rfl rfl (fun h => ?_) (fun h => ?_) <;> simp -implicitDefEqProofs only [go_sem, Nat.reduceSub, Nat.reduceAdd, Nat.reduceLeDiff, Nat.reduceEqDiff, Nat.reduceBEq, Nat.reduceLT, h]) | (refine planD_split rfl rfl (fun h => ?_) (fun h => ?_) <;> simp -implicitDefEqProofs only [go_sem, Nat.reduceSub, Nat.reduceAdd, Nat.reduceLeDiff, Nat.reduceEqDiff, Nat.reduceBEq, Nat.reduceLT, h]) | (refine go ?_; try simp -implicitDefEqProofs only [go_sem, Nat.reduceSub, Nat.reduceAdd, Nat.reduceLeDiff, Nat.reduceEqDiff, Nat.reduceBEq, Nat.reduceLT]) | ((with_reducible refine wpC_id ?_); simp -implicitDefEqProofs only [go_sem, Nat.reduceSub, Nat.reduceAdd, Nat.reduceLeDiff, Nat.reduceEqDiff, Nat.reduceBEq, Nat.reduceLT]) | ((with_reducible first | refine quiet_id ?_ | refine wrote_id ?_ | refine resQ_id ?_); simp -implicitDefEqProofs only [go_sem, Nat.reduceSub, Nat.reduceAdd, Nat.reduceLeDiff, Nat.reduceEqDiff, Nat.reduceBEq, Nat.reduceLT]) | fail)
      exact ⟨n - 1, by omega, i + 1, _, by omega, take_step hall hx hy (dE_true.1 hz), le_tr hle4 hle5, by rw [e]⟩
  · rw [iLt_false, rLen_eq, List.length_map] at h
    have h1 : i = a.length := by omega
    subst h1
    have := take_eq_all hlen hall
    repeat' (first | (refine wpC_split rfl rfl (fun h => ?_) (fun h => ?_) <;> (try simp -implicitDefEqProofs only [go_sem, Nat.reduceSub, Nat.reduceAdd, Nat.reduceLeDiff, Nat.reduceEqDiff, Nat.reduceBEq, Nat.reduceLT, h])) | (refine plan_split rfl rfl (fun h => ?_) (fun h => ?_) <;> simp -implicitDefEqProofs only [go_sem, Nat.reduceSub, Nat.reduceAdd, Nat.reduceLeDiff, Nat.reduceEqDiff, Nat.reduceBEq, Nat.reduceLT, h]) | (refine planD_split rfl rfl (fun h => ?_) (fun h => ?_) <;> simp -implicitDefEqProofs only [go_sem, Nat.reduceSub, Nat.reduceAdd, Nat.reduceLeDiff, Nat.reduceEqDiff, Nat.reduceBEq, Nat.reduceLT, h]) | (refine go ?_; try simp -implicitDefEqProofs only [go_sem, Nat.reduceSub, Nat.reduceAdd, Nat.reduceLeDiff, Nat.reduceEqDiff, Nat.reduceBEq, Nat.reduceLT]) | ((with_reducible refine wpC_id ?_); simp -implicitDefEqProofs only [go_sem, Nat.reduceSub, Nat.reduceAdd, Nat.reduceLeDiff, Nat.reduceEqDiff, Nat.reduceBEq, Nat.reduceLT]) | ((with_reducible first | refine quiet_id ?_ | refine wrote_id ?_ | refine resQ_id ?_); simp -implicitDefEqProofs only [go_sem, Nat.reduceSub, Nat.reduceAdd, Nat.reduceLeDiff, Nat.reduceEqDiff, Nat.reduceBEq, Nat.reduceLT]) | fail)
    exact endB hle (by rw [dE_true.2 this])

mutual
theorem gSameExpr_pure {O : Cfg} (a : Ex) (ha : a.Ok) (b : Ex) : PureCall O f_gSameExpr [.agg a.cells, .agg b.cells] (.bool (dE a b)) :=
  gSameExpr_step a b ha (gsameExprs_step _ _ ha.argsL fun x hx y => gSameExpr_pure x (ha.args x hx) y) (gSameDecls_step _ _ ha.declsL fun x hx y => gSameDecl_pure x (ha.decls x hx) y)
    (gsameAlts_step _ _ ha.altsL ha.alts (fun x hx y => gSameDecls_step _ _ (ha.alts x hx).whL fun d hd y => gSameDecl_pure d ((ha.alts x hx).wh d hd) y) (fun x hx g hg y => gsameExprs_step _ _ ((ha.alts x hx).rhs g hg).condL fun z hz y => gSameExpr_pure z (((ha.alts x hx).rhs g hg).cond z hz) y)
      (fun x hx g hg y => gSameExpr_pure g.thn ((ha.alts x hx).rhs g hg).thn y))
    (fun x hx y => gSameExpr_pure x.expr (ha.stmts x hx).expr y.expr) (fun x hx y => gSameDecls_step _ _ (ha.stmts x hx).declsL fun d hd y => gSameDecl_pure d ((ha.stmts x hx).decls d hd) y)
termination_by SizeOf.sizeOf a
decreasing_by all_goals (first | exact Ex.lt_args (by assumption) | exact Ex.lt_decls (by assumption) | exact De.lt_decls (by assumption) | exact Nat.lt_trans (Al.lt_wh (by assumption)) (Ex.lt_alts (by assumption)) | exact Nat.lt_trans (Al.lt_wh (by assumption)) (De.lt_alts (by assumption)) | exact Nat.lt_trans (Gu.lt_cond (by assumption)) (Nat.lt_trans (Al.lt_rhs (by assumption)) (Ex.lt_alts (by assumption))) | exact Nat.lt_trans (Gu.lt_cond (by assumption)) (Nat.lt_trans (Al.lt_rhs (by assumption)) (De.lt_alts (by assumption))) | exact Nat.lt_trans Gu.lt_thn (Nat.lt_trans (Al.lt_rhs (by assumption)) (Ex.lt_alts (by assumption))) | exact Nat.lt_trans Gu.lt_thn (Nat.lt_trans (Al.lt_rhs (by assumption)) (De.lt_alts (by assumption))) | exact Nat.lt_trans St.lt_expr (Ex.lt_stmts (by assumption)) | exact Nat.lt_trans (St.lt_decls (by assumption)) (Ex.lt_stmts (by assumption)))
theorem gSameDecl_pure {O : Cfg} (a : De) (ha : a.Ok) (b : De) : PureCall O f_gSameDecl [.agg a.cells, .agg b.cells] (.bool (dE a b)) :=
  gSameDecl_step a b ha
    (gsameAlts_step _ _ ha.altsL ha.alts (fun x hx y => gSameDecls_step _ _ (ha.alts x hx).whL fun d hd y => gSameDecl_pure d ((ha.alts x hx).wh d hd) y) (fun x hx g hg y => gsameExprs_step _ _ ((ha.alts x hx).rhs g hg).condL fun z hz y => gSameExpr_pure z (((ha.alts x hx).rhs g hg).cond z hz) y)
      (fun x hx g hg y => gSameExpr_pure g.thn ((ha.alts x hx).rhs g hg).thn y))
    (gSameDecls_step _ _ ha.declsL fun x hx y => gSameDecl_pure x (ha.decls x hx) y)
termination_by SizeOf.sizeOf a
decreasing_by all_goals (first | exact Ex.lt_args (by assumption) | exact Ex.lt_decls (by assumption) | exact De.lt_decls (by assumption) | exact Nat.lt_trans (Al.lt_wh (by assumption)) (Ex.lt_alts (by assumption)) | exact Nat.lt_trans (Al.lt_wh (by assumption)) (De.lt_alts (by assumption)) | exact Nat.lt_trans (Gu.lt_cond (by assumption)) (Nat.lt_trans (Al.lt_rhs (by assumption)) (Ex.lt_alts (by assumption))) | exact Nat.lt_trans (Gu.lt_cond (by assumption)) (Nat.lt_trans (Al.lt_rhs (by assumption)) (De.lt_alts (by assumption))) | exact Nat.lt_trans Gu.lt_thn (Nat.lt_trans (Al.lt_rhs (by assumption)) (Ex.lt_alts (by assumption))) | exact Nat.lt_trans Gu.lt_thn (Nat.lt_trans (Al.lt_rhs (by assumption)) (De.lt_alts (by assumption))) | exact Nat.lt_trans St.lt_expr (Ex.lt_stmts (by assumption)) | exact Nat.lt_trans (St.lt_decls (by assumption)) (Ex.lt_stmts (by assumption)))
end
theorem gSame_pure {O : Cfg} (a : Mo) (ha : a.Ok) (b : Mo) : PureCall O f_gSame [.agg a.cells, .agg b.cells] (.bool (dE a b)) := gSame_step a b ha (gSameDecls_step _ _ ha.declsL fun x hx y => gSameDecl_pure x (ha.decls x hx) y)

end Go.Proofs.YtmpoklkgdcofbaaGreatDoor

