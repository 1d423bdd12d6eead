/- Lists compared by a function; types and patterns compared. -/
import Derived.Test.YtmpoklkgdcofbaaGreatDoorG13G2G2
import Derived.Test.YtmpoklkgdcofbaaGreatDoorG14L5L10
import Derived.Test.YtmpoklkgdcofbaaGreatDoorG11E44T2
set_option maxRecDepth 100000
set_option linter.unusedVariables false
set_option linter.unusedSimpArgs false
namespace Go.Proofs.YtmpoklkgdcofbaaGreatDoor
open Go.Eng

theorem eqString_pure {O : Cfg} (a b : List Str) (ha : a.length ≤ 140737488355328) : PureCall O f_eqString [cS a, cS b] (.bool (dE a b)) := fun H => by
  rw [cS_rows, cS_rows]
  refine entry h_eqString rfl ?_; simp -implicitDefEqProofs only [go_sem, Nat.reduceSub, Nat.reduceAdd, Nat.reduceLeDiff, Nat.reduceEqDiff, Nat.reduceBEq, Nat.reduceLT, c_eqString]
  refine AC.cut (fun st => a.length = b.length ∧ st = ⟨mk 26 [(0, .sl (strRows a) .no), (1, .sl (strRows b) .no)], H, []⟩) ?_ ?_
  · repeat' (first | (refine wpC_split rfl rfl (fun h => ?_) (fun h => ?_) <;> (try simp -implicitDefEqProofs only [go_sem, Nat.reduceSub, Nat.reduceAdd, Nat.reduceLeDiff, Nat.reduceEqDiff, Nat.reduceBEq, Nat.reduceLT, h])) | (refine plan_split rfl rfl (fun h => ?_) (fun h => ?_) <;> simp -implicitDefEqProofs only [go_sem, Nat.reduceSub, Nat.reduceAdd, Nat.reduceLeDiff, Nat.reduceEqDiff, Nat.reduceBEq, Nat.reduceLT, h]) | (refine planD_split rfl rfl (fun h => ?_) (fun h => ?_) <;> simp -implicitDefEqProofs only [go_sem, Nat.reduceSub, Nat.reduceAdd, Nat.reduceLeDiff, Nat.reduceEqDiff, Nat.reduceBEq, Nat.reduceLT, h]) | (refine go ?_; try simp -implicitDefEqProofs only [go_sem, Nat.reduceSub, Nat.reduceAdd, Nat.reduceLeDiff, Nat.reduceEqDiff, Nat.reduceBEq, Nat.reduceLT]) | ((with_reducible refine wpC_id ?_); simp -implicitDefEqProofs only [go_sem, Nat.reduceSub, Nat.reduceAdd, Nat.reduceLeDiff, Nat.reduceEqDiff, Nat.reduceBEq, Nat.reduceLT]) | ((with_reducible first | refine quiet_id ?_ | refine wrote_id ?_ | refine resQ_id ?_); simp -implicitDefEqProofs only [go_sem, Nat.reduceSub, Nat.reduceAdd, Nat.reduceLeDiff, Nat.reduceEqDiff, Nat.reduceBEq, Nat.reduceLT]) | fail)
    · have h1 := iEq_false.1 (bNot_true.1 h)
      rw [rLen_str, rLen_str] at h1
      rw [dE_false.2]; intro e; rw [e] at h1; exact h1 rfl
    · have h1 := iEq_true.1 (bNot_false.1 h)
      rw [rLen_str, rLen_str] at h1
      omega
  · rintro _ ⟨hlen, rfl⟩
    refine go ?_; simp -implicitDefEqProofs only [go_sem, Nat.reduceSub, Nat.reduceAdd, Nat.reduceLeDiff, Nat.reduceEqDiff, Nat.reduceBEq, Nat.reduceLT]
    refine go ?_; simp -implicitDefEqProofs only [go_sem, Nat.reduceSub, Nat.reduceAdd, Nat.reduceLeDiff, Nat.reduceEqDiff, Nat.reduceBEq, Nat.reduceLT]
    rw [wpC_loop]
    refine AC.loop (fun n st => ∃ i : Nat, i + n = a.length ∧ a.take i = b.take i ∧ st = ⟨mk 26 [(0, .sl (strRows a) .no), (1, .sl (strRows b) .no), (12, .int .i64 (rLen (strRows a))), (13, .int .i64 i)], H, []⟩) a.length ⟨0, by omega, rfl, rfl⟩ ?_
    rintro n _ ⟨i, hi, hall, rfl⟩
    simp -implicitDefEqProofs only [go_sem, Nat.reduceSub, Nat.reduceAdd, Nat.reduceLeDiff, Nat.reduceEqDiff, Nat.reduceBEq, Nat.reduceLT, l_eqString_0]
    refine go ?_; simp -implicitDefEqProofs only [go_sem, Nat.reduceSub, Nat.reduceAdd, Nat.reduceLeDiff, Nat.reduceEqDiff, Nat.reduceBEq, Nat.reduceLT]
    refine go ?_; simp -implicitDefEqProofs only [go_sem, Nat.reduceSub, Nat.reduceAdd, Nat.reduceLeDiff, Nat.reduceEqDiff, Nat.reduceBEq, Nat.reduceLT]
    refine wpC_split rfl rfl (fun h => ?_) (fun h => ?_) <;> simp -implicitDefEqProofs only [go_sem, Nat.reduceSub, Nat.reduceAdd, Nat.reduceLeDiff, Nat.reduceEqDiff, Nat.reduceBEq, Nat.reduceLT]
    · rw [iLt_true, rLen_str] at h
      obtain ⟨x, hx⟩ : ∃ x, a[i]? = some x := ⟨_, List.getElem?_eq_getElem (by omega)⟩
      obtain ⟨y, hy⟩ : ∃ y, b[i]? = some y := ⟨_, List.getElem?_eq_getElem (by omega)⟩
      have e : wAdd .i64 (i : Int) 1 = ((i + 1 : Nat) : Int) := by rw [wAdd_i64] <;> omega
      repeat' (first | (refine wpC_split rfl rfl (fun h => ?_) (fun h => ?_) <;> (try simp -implicitDefEqProofs only [go_sem, Nat.reduceSub, Nat.reduceAdd, Nat.reduceLeDiff, Nat.reduceEqDiff, Nat.reduceBEq, Nat.reduceLT, h, iaddrA_str hx, iaddrA_str hy])) | (refine plan_split rfl rfl (fun h => ?_) (fun h => ?_) <;> simp -implicitDefEqProofs only [go_sem, Nat.reduceSub, Nat.reduceAdd, Nat.reduceLeDiff, Nat.reduceEqDiff, Nat.reduceBEq, Nat.reduceLT, h, iaddrA_str hx, iaddrA_str hy]) | (refine planD_split rfl rfl (fun h => ?_) (fun h => ?_) <;> simp -implicitDefEqProofs only [go_sem, Nat.reduceSub, Nat.reduceAdd, Nat.reduceLeDiff, Nat.reduceEqDiff, Nat.reduceBEq, Nat.reduceLT, h, iaddrA_str hx, iaddrA_str hy]) | (refine go ?_; try simp -implicitDefEqProofs only [go_sem, Nat.reduceSub, Nat.reduceAdd, Nat.reduceLeDiff, Nat.reduceEqDiff, Nat.reduceBEq, Nat.reduceLT, iaddrA_str hx, iaddrA_str hy]) | ((with_reducible refine wpC_id ?_); simp -implicitDefEqProofs only [go_sem, Nat.reduceSub, Nat.reduceAdd, Nat.reduceLeDiff, Nat.reduceEqDiff, Nat.reduceBEq, Nat.reduceLT, iaddrA_str hx, iaddrA_str hy]) | ((with_reducible first | refine quiet_id ?_ | refine wrote_id ?_ | refine resQ_id ?_); simp -implicitDefEqProofs only [go_sem, Nat.reduceSub, Nat.reduceAdd, Nat.reduceLeDiff, Nat.reduceEqDiff, Nat.reduceBEq, Nat.reduceLT, iaddrA_str hx, iaddrA_str hy]) | fail)
      · have h1 := sEq_false.1 (bNot_true.1 h)
        rw [dE_false.2]
        intro e'; rw [e', hy] at hx
        exact h1 (Option.some.inj hx).symm
      · have h1 := sEq_true.1 (bNot_false.1 h)
        exact ⟨n - 1, by omega, i + 1, by omega, take_step hall hx hy h1, by rw [e]⟩
    · rw [iLt_false, rLen_str] at h
      have h1 : i = a.length := by omega
      subst h1
      have := take_eq_all hlen hall
      repeat' (first | (refine wpC_split rfl rfl (fun h => ?_) (fun h => ?_) <;> (try simp -implicitDefEqProofs only [go_sem, Nat.reduceSub, Nat.reduceAdd, Nat.reduceLeDiff, Nat.reduceEqDiff, Nat.reduceBEq, Nat.reduceLT, h])) | (refine plan_split rfl rfl (fun h => ?_) (fun h => ?_) <;> simp -implicitDefEqProofs only [go_sem, Nat.reduceSub, Nat.reduceAdd, Nat.reduceLeDiff, Nat.reduceEqDiff, Nat.reduceBEq, Nat.reduceLT, h]) | (refine planD_split rfl rfl (fun h => ?_) (fun h => ?_) <;> simp -implicitDefEqProofs only [go_sem, Nat.reduceSub, Nat.reduceAdd, Nat.reduceLeDiff, Nat.reduceEqDiff, Nat.reduceBEq, Nat.reduceLT, h]) | (refine go ?_; try simp -implicitDefEqProofs only [go_sem, Nat.reduceSub, Nat.reduceAdd, Nat.reduceLeDiff, Nat.reduceEqDiff, Nat.reduceBEq, Nat.reduceLT]) | ((with_reducible refine wpC_id ?_); simp -implicitDefEqProofs only [go_sem, Nat.reduceSub, Nat.reduceAdd, Nat.reduceLeDiff, Nat.reduceEqDiff, Nat.reduceBEq, Nat.reduceLT]) | ((with_reducible first | refine quiet_id ?_ | refine wrote_id ?_ | refine resQ_id ?_); simp -implicitDefEqProofs only [go_sem, Nat.reduceSub, Nat.reduceAdd, Nat.reduceLeDiff, Nat.reduceEqDiff, Nat.reduceBEq, Nat.reduceLT]) | fail)
      rw [dE_true.2 this]

end Go.Proofs.YtmpoklkgdcofbaaGreatDoor

/- MADE BY PROGRAM (wip/tools/eqf.py): slices.EqualFunc at each type of element. -/
set_option maxRecDepth 100000
set_option linter.unusedVariables false
set_option linter.unusedSimpArgs false
namespace Go.Proofs.YtmpoklkgdcofbaaGreatDoor
open Go.Eng

theorem eqfType_pure {O : Cfg} (a b : List Ty) (ha : a.length ≤ 140737488355328) (g : FuncId) (hg : ∀ x ∈ a, ∀ y, PureCall O g [.agg x.cells, .agg y.cells] (.bool (dE x y))) :
    PureCall O f_eqfType [.sl (a.map Ty.cells) .no, .sl (b.map Ty.cells) .no, .func (.func g) [] []] (.bool (dE a b)) := by
  refine entryF h_eqfType rfl fun H => ?_
  simp -implicitDefEqProofs only [go_sem, Nat.reduceSub, Nat.reduceAdd, Nat.reduceLeDiff, Nat.reduceEqDiff, Nat.reduceBEq, Nat.reduceLT, c_eqfType]
  refine AC.cut (fun st => a.length = b.length ∧ st = ⟨mk 32 [(0, .sl (a.map Ty.cells) .no), (1, .sl (b.map Ty.cells) .no), (2, .func (.func g) [] [])], H, []⟩) ?_ ?_
  · repeat' (first | (refine wpC_split rfl rfl (fun h => ?_) (fun h => ?_) <;> (try simp -implicitDefEqProofs only [go_sem, Nat.reduceSub, Nat.reduceAdd, Nat.reduceLeDiff, Nat.reduceEqDiff, Nat.reduceBEq, Nat.reduceLT, h])) | (refine plan_split rfl rfl (fun h => ?_) (fun h => ?_) <;> simp -implicitDefEqProofs only [go_sem, Nat.reduceSub, Nat.reduceAdd, Nat.reduceLeDiff, Nat.reduceEqDiff, Nat.reduceBEq, Nat.reduceLT, h]) | (refine planD_split rfl rfl (fun h => ?_) (fun h => ?_) <;> simp -implicitDefEqProofs only [go_sem, Nat.reduceSub, Nat.reduceAdd, Nat.reduceLeDiff, Nat.reduceEqDiff, Nat.reduceBEq, Nat.reduceLT, h]) | (refine go ?_; try simp -implicitDefEqProofs only [go_sem, Nat.reduceSub, Nat.reduceAdd, Nat.reduceLeDiff, Nat.reduceEqDiff, Nat.reduceBEq, Nat.reduceLT]) | ((with_reducible refine wpC_id ?_); simp -implicitDefEqProofs only [go_sem, Nat.reduceSub, Nat.reduceAdd, Nat.reduceLeDiff, Nat.reduceEqDiff, Nat.reduceBEq, Nat.reduceLT]) | ((with_reducible first | refine quiet_id ?_ | refine wrote_id ?_ | refine resQ_id ?_); simp -implicitDefEqProofs only [go_sem, Nat.reduceSub, Nat.reduceAdd, Nat.reduceLeDiff, Nat.reduceEqDiff, Nat.reduceBEq, Nat.reduceLT]) | fail)
    · have h1 := iEq_false.1 (bNot_true.1 h)
      rw [rLen_eq, rLen_eq, List.length_map, List.length_map] at h1
      refine endB (le_self _) ?_
      rw [dE_false.2]; intro e; rw [e] at h1; exact h1 rfl
    · have h1 := iEq_true.1 (bNot_false.1 h)
      rw [rLen_eq, rLen_eq, List.length_map, List.length_map] at h1
      omega
  · rintro _ ⟨hlen, rfl⟩
    refine go ?_; simp -implicitDefEqProofs only [go_sem, Nat.reduceSub, Nat.reduceAdd, Nat.reduceLeDiff, Nat.reduceEqDiff, Nat.reduceBEq, Nat.reduceLT]
    refine go ?_; simp -implicitDefEqProofs only [go_sem, Nat.reduceSub, Nat.reduceAdd, Nat.reduceLeDiff, Nat.reduceEqDiff, Nat.reduceBEq, Nat.reduceLT]
    rw [wpC_loop]
    refine AC.loop (fun n st => ∃ (i : Nat) (H' : Hp), i + n = a.length ∧ a.take i = b.take i ∧ H.le H' ∧ st = ⟨mk 32 [(1, .sl (b.map Ty.cells) .no), (2, .func (.func g) [] []), (15, .sl (a.map Ty.cells) .no), (16, .int .i64 (rLen (a.map Ty.cells))), (17, .int .i64 i)], H', []⟩) a.length ⟨0, H, by omega, rfl, le_self _, rfl⟩ ?_
    rintro n _ ⟨i, H', hi, hall, hle, rfl⟩
    simp -implicitDefEqProofs only [go_sem, Nat.reduceSub, Nat.reduceAdd, Nat.reduceLeDiff, Nat.reduceEqDiff, Nat.reduceBEq, Nat.reduceLT, l_eqfType_0]
    refine go ?_; simp -implicitDefEqProofs only [go_sem, Nat.reduceSub, Nat.reduceAdd, Nat.reduceLeDiff, Nat.reduceEqDiff, Nat.reduceBEq, Nat.reduceLT]
    refine go ?_; simp -implicitDefEqProofs only [go_sem, Nat.reduceSub, Nat.reduceAdd, Nat.reduceLeDiff, Nat.reduceEqDiff, Nat.reduceBEq, Nat.reduceLT]
    refine wpC_split rfl rfl (fun h => ?_) (fun h => ?_) <;> simp -implicitDefEqProofs only [go_sem, Nat.reduceSub, Nat.reduceAdd, Nat.reduceLeDiff, Nat.reduceEqDiff, Nat.reduceBEq, Nat.reduceLT]
    · rw [iLt_true, rLen_eq, List.length_map] at h
      obtain ⟨x, hx⟩ : ∃ x, a[i]? = some x := ⟨_, List.getElem?_eq_getElem (by omega)⟩
      obtain ⟨y, hy⟩ : ∃ y, b[i]? = some y := ⟨_, List.getElem?_eq_getElem (by omega)⟩
      have e : wAdd .i64 (i : Int) 1 = ((i + 1 : Nat) : Int) := by rw [wAdd_i64] <;> omega
      refine go ?_; simp -implicitDefEqProofs only [go_sem, Nat.reduceSub, Nat.reduceAdd, Nat.reduceLeDiff, Nat.reduceEqDiff, Nat.reduceBEq, Nat.reduceLT, Ty.iaddr hx]
      refine newCells_intro fun i1 h1 => ?_; simp -implicitDefEqProofs only [go_sem, Nat.reduceSub, Nat.reduceAdd, Nat.reduceLeDiff, Nat.reduceEqDiff, Nat.reduceBEq, Nat.reduceLT]
      refine go ?_; simp -implicitDefEqProofs only [go_sem, Nat.reduceSub, Nat.reduceAdd, Nat.reduceLeDiff, Nat.reduceEqDiff, Nat.reduceBEq, Nat.reduceLT, Ty.iaddr hy]
      refine newCells_intro fun i2 h2 => ?_; simp -implicitDefEqProofs only [go_sem, Nat.reduceSub, Nat.reduceAdd, Nat.reduceLeDiff, Nat.reduceEqDiff, Nat.reduceBEq, Nat.reduceLT]
      have k1 := upd_old (o' := .cells y.cells) (Hp.upd_same H' i1 (.cells x.cells)) h2
      refine go ?_; simp -implicitDefEqProofs only [go_sem, Nat.reduceSub, Nat.reduceAdd, Nat.reduceLeDiff, Nat.reduceEqDiff, Nat.reduceBEq, Nat.reduceLT, k1, Ty.take_all]
      refine PureCall.step (hg x (List.mem_of_getElem? hx) y) ?_; simp -implicitDefEqProofs only [go_sem, Nat.reduceSub, Nat.reduceAdd, Nat.reduceLeDiff, Nat.reduceEqDiff, Nat.reduceBEq, Nat.reduceLT]
      have hle2 := le_new (le_new hle h1 (.cells x.cells)) h2 (.cells y.cells)
      repeat' (first | (refine wpC_split rfl rfl (fun h => ?_) (fun h => ?_) <;> (try simp -implicitDefEqProofs only [go_sem, Nat.reduceSub, Nat.reduceAdd, Nat.reduceLeDiff, Nat.reduceEqDiff, Nat.reduceBEq, Nat.reduceLT, h])) | (refine plan_split rfl rfl (fun h => ?_) (fun h => ?_) <;> simp -implicitDefEqProofs only [go_sem, Nat.reduceSub, Nat.reduceAdd, Nat.reduceLeDiff, Nat.reduceEqDiff, Nat.reduceBEq, Nat.reduceLT, h]) | (refine planD_split rfl rfl (fun h => ?_) (fun h => ?_) <;> simp -implicitDefEqProofs only [go_sem, Nat.reduceSub, Nat.reduceAdd, Nat.reduceLeDiff, Nat.reduceEqDiff, Nat.reduceBEq, Nat.reduceLT, h]) | (refine go ?_; try simp -implicitDefEqProofs only [go_sem, Nat.reduceSub, Nat.reduceAdd, Nat.reduceLeDiff, Nat.reduceEqDiff, Nat.reduceBEq, Nat.reduceLT]) | ((with_reducible refine wpC_id ?_); simp -implicitDefEqProofs only [go_sem, Nat.reduceSub, Nat.reduceAdd, Nat.reduceLeDiff, Nat.reduceEqDiff, Nat.reduceBEq, Nat.reduceLT]) | ((with_reducible first | refine quiet_id ?_ | refine wrote_id ?_ | refine resQ_id ?_); simp -implicitDefEqProofs only [go_sem, Nat.reduceSub, Nat.reduceAdd, Nat.reduceLeDiff, Nat.reduceEqDiff, Nat.reduceBEq, Nat.reduceLT]) | fail)
      · have h3 := bNot_true.1 h
        refine endB hle2 ?_
        rw [dE_false.2]
        intro e'; rw [e', hy] at hx
        exact absurd (Option.some.inj hx).symm (dE_false.1 h3)
      · have h3 := dE_true.1 (bNot_false.1 h)
        exact ⟨n - 1, by omega, i + 1, _, by omega, take_step hall hx hy h3, hle2, by rw [e]⟩
    · rw [iLt_false, rLen_eq, List.length_map] at h
      have h1 : i = a.length := by omega
      subst h1
      have := take_eq_all hlen hall
      repeat' (first | (refine wpC_split rfl rfl (fun h => ?_) (fun h => ?_) <;> (try simp -implicitDefEqProofs only [go_sem, Nat.reduceSub, Nat.reduceAdd, Nat.reduceLeDiff, Nat.reduceEqDiff, Nat.reduceBEq, Nat.reduceLT, h])) | (refine plan_split rfl rfl (fun h => ?_) (fun h => ?_) <;> simp -implicitDefEqProofs only [go_sem, Nat.reduceSub, Nat.reduceAdd, Nat.reduceLeDiff, Nat.reduceEqDiff, Nat.reduceBEq, Nat.reduceLT, h]) | (refine planD_split rfl rfl (fun h => ?_) (fun h => ?_) <;> simp -implicitDefEqProofs only [go_sem, Nat.reduceSub, Nat.reduceAdd, Nat.reduceLeDiff, Nat.reduceEqDiff, Nat.reduceBEq, Nat.reduceLT, h]) | (refine go ?_; try simp -implicitDefEqProofs only [go_sem, Nat.reduceSub, Nat.reduceAdd, Nat.reduceLeDiff, Nat.reduceEqDiff, Nat.reduceBEq, Nat.reduceLT]) | ((with_reducible refine wpC_id ?_); simp -implicitDefEqProofs only [go_sem, Nat.reduceSub, Nat.reduceAdd, Nat.reduceLeDiff, Nat.reduceEqDiff, Nat.reduceBEq, Nat.reduceLT]) | ((with_reducible first | refine quiet_id ?_ | refine wrote_id ?_ | refine resQ_id ?_); simp -implicitDefEqProofs only [go_sem, Nat.reduceSub, Nat.reduceAdd, Nat.reduceLeDiff, Nat.reduceEqDiff, Nat.reduceBEq, Nat.reduceLT]) | fail)
      exact endB hle (by rw [dE_true.2 this])

theorem eqfPat_pure {O : Cfg} (a b : List Pa) (ha : a.length ≤ 140737488355328) (g : FuncId) (hg : ∀ x ∈ a, ∀ y, PureCall O g [.agg x.cells, .agg y.cells] (.bool (dE x y))) :
    PureCall O f_eqfPat [.sl (a.map Pa.cells) .no, .sl (b.map Pa.cells) .no, .func (.func g) [] []] (.bool (dE a b)) := by
  refine entryF h_eqfPat rfl fun H => ?_
  simp -implicitDefEqProofs only [go_sem, Nat.reduceSub, Nat.reduceAdd, Nat.reduceLeDiff, Nat.reduceEqDiff, Nat.reduceBEq, Nat.reduceLT, c_eqfPat]
  refine AC.cut (fun st => a.length = b.length ∧ st = ⟨mk 32 [(0, .sl (a.map Pa.cells) .no), (1, .sl (b.map Pa.cells) .no), (2, .func (.func g) [] [])], H, []⟩) ?_ ?_
  · repeat' (first | (refine wpC_split rfl rfl (fun h => ?_) (fun h => ?_) <;> (try simp -implicitDefEqProofs only [go_sem, Nat.reduceSub, Nat.reduceAdd, Nat.reduceLeDiff, Nat.reduceEqDiff, Nat.reduceBEq, Nat.reduceLT, h])) | (refine plan_split rfl rfl (fun h => ?_) (fun h => ?_) <;> simp -implicitDefEqProofs only [go_sem, Nat.reduceSub, Nat.reduceAdd, Nat.reduceLeDiff, Nat.reduceEqDiff, Nat.reduceBEq, Nat.reduceLT, h]) | (refine planD_split rfl rfl (fun h => ?_) (fun h => ?_) <;> simp -implicitDefEqProofs only [go_sem, Nat.reduceSub, Nat.reduceAdd, Nat.reduceLeDiff, Nat.reduceEqDiff, Nat.reduceBEq, Nat.reduceLT, h]) | (refine go ?_; try simp -implicitDefEqProofs only [go_sem, Nat.reduceSub, Nat.reduceAdd, Nat.reduceLeDiff, Nat.reduceEqDiff, Nat.reduceBEq, Nat.reduceLT]) | ((with_reducible refine wpC_id ?_); simp -implicitDefEqProofs only [go_sem, Nat.reduceSub, Nat.reduceAdd, Nat.reduceLeDiff, Nat.reduceEqDiff, Nat.reduceBEq, Nat.reduceLT]) | ((with_reducible first | refine quiet_id ?_ | refine wrote_id ?_ | refine resQ_id ?_); simp -implicitDefEqProofs only [go_sem, Nat.reduceSub, Nat.reduceAdd, Nat.reduceLeDiff, Nat.reduceEqDiff, Nat.reduceBEq, Nat.reduceLT]) | fail)
    · have h1 := iEq_false.1 (bNot_true.1 h)
      rw [rLen_eq, rLen_eq, List.length_map, List.length_map] at h1
      refine endB (le_self _) ?_
      rw [dE_false.2]; intro e; rw [e] at h1; exact h1 rfl
    · have h1 := iEq_true.1 (bNot_false.1 h)
      rw [rLen_eq, rLen_eq, List.length_map, List.length_map] at h1
      omega
  · rintro _ ⟨hlen, rfl⟩
    refine go ?_; simp -implicitDefEqProofs only [go_sem, Nat.reduceSub, Nat.reduceAdd, Nat.reduceLeDiff, Nat.reduceEqDiff, Nat.reduceBEq, Nat.reduceLT]
    refine go ?_; simp -implicitDefEqProofs only [go_sem, Nat.reduceSub, Nat.reduceAdd, Nat.reduceLeDiff, Nat.reduceEqDiff, Nat.reduceBEq, Nat.reduceLT]
    rw [wpC_loop]
    refine AC.loop (fun n st => ∃ (i : Nat) (H' : Hp), i + n = a.length ∧ a.take i = b.take i ∧ H.le H' ∧ st = ⟨mk 32 [(1, .sl (b.map Pa.cells) .no), (2, .func (.func g) [] []), (15, .sl (a.map Pa.cells) .no), (16, .int .i64 (rLen (a.map Pa.cells))), (17, .int .i64 i)], H', []⟩) a.length ⟨0, H, by omega, rfl, le_self _, rfl⟩ ?_
    rintro n _ ⟨i, H', hi, hall, hle, rfl⟩
    simp -implicitDefEqProofs only [go_sem, Nat.reduceSub, Nat.reduceAdd, Nat.reduceLeDiff, Nat.reduceEqDiff, Nat.reduceBEq, Nat.reduceLT, l_eqfPat_0]
    refine go ?_; simp -implicitDefEqProofs only [go_sem, Nat.reduceSub, Nat.reduceAdd, Nat.reduceLeDiff, Nat.reduceEqDiff, Nat.reduceBEq, Nat.reduceLT]
    refine go ?_; simp -implicitDefEqProofs only [go_sem, Nat.reduceSub, Nat.reduceAdd, Nat.reduceLeDiff, Nat.reduceEqDiff, Nat.reduceBEq, Nat.reduceLT]
    refine wpC_split rfl rfl (fun h => ?_) (fun h => ?_) <;> simp -implicitDefEqProofs only [go_sem, Nat.reduceSub, Nat.reduceAdd, Nat.reduceLeDiff, Nat.reduceEqDiff, Nat.reduceBEq, Nat.reduceLT]
    · rw [iLt_true, rLen_eq, List.length_map] at h
      obtain ⟨x, hx⟩ : ∃ x, a[i]? = some x := ⟨_, List.getElem?_eq_getElem (by omega)⟩
      obtain ⟨y, hy⟩ : ∃ y, b[i]? = some y := ⟨_, List.getElem?_eq_getElem (by omega)⟩
      have e : wAdd .i64 (i : Int) 1 = ((i + 1 : Nat) : Int) := by rw [wAdd_i64] <;> omega
      refine go ?_; simp -implicitDefEqProofs only [go_sem, Nat.reduceSub, Nat.reduceAdd, Nat.reduceLeDiff, Nat.reduceEqDiff, Nat.reduceBEq, Nat.reduceLT, Pa.iaddr hx]
      refine newCells_intro fun i1 h1 => ?_; simp -implicitDefEqProofs only [go_sem, Nat.reduceSub, Nat.reduceAdd, Nat.reduceLeDiff, Nat.reduceEqDiff, Nat.reduceBEq, Nat.reduceLT]
      refine go ?_; simp -implicitDefEqProofs only [go_sem, Nat.reduceSub, Nat.reduceAdd, Nat.reduceLeDiff, Nat.reduceEqDiff, Nat.reduceBEq, Nat.reduceLT, Pa.iaddr hy]
      refine newCells_intro fun i2 h2 => ?_; simp -implicitDefEqProofs only [go_sem, Nat.reduceSub, Nat.reduceAdd, Nat.reduceLeDiff, Nat.reduceEqDiff, Nat.reduceBEq, Nat.reduceLT]
      have k1 := upd_old (o' := .cells y.cells) (Hp.upd_same H' i1 (.cells x.cells)) h2
      refine go ?_; simp -implicitDefEqProofs only [go_sem, Nat.reduceSub, Nat.reduceAdd, Nat.reduceLeDiff, Nat.reduceEqDiff, Nat.reduceBEq, Nat.reduceLT, k1, Pa.take_all]
      refine PureCall.step (hg x (List.mem_of_getElem? hx) y) ?_; simp -implicitDefEqProofs only [go_sem, Nat.reduceSub, Nat.reduceAdd, Nat.reduceLeDiff, Nat.reduceEqDiff, Nat.reduceBEq, Nat.reduceLT]
      have hle2 := le_new (le_new hle h1 (.cells x.cells)) h2 (.cells y.cells)
      repeat' (first | (refine wpC_split rfl rfl (fun h => ?_) (fun h => ?_) <;> (try simp -implicitDefEqProofs only [go_sem, Nat.reduceSub, Nat.reduceAdd, Nat.reduceLeDiff, Nat.reduceEqDiff, Nat.reduceBEq, Nat.reduceLT, h])) | (refine plan_split rfl rfl (fun h => ?_) (fun h => ?_) <;> simp -implicitDefEqProofs only [go_sem, Nat.reduceSub, Nat.reduceAdd, Nat.reduceLeDiff, Nat.reduceEqDiff, Nat.reduceBEq, Nat.reduceLT, h]) | (refine planD_split rfl rfl (fun h => ?_) (fun h => ?_) <;> simp -implicitDefEqProofs only [go_sem, Nat.reduceSub, Nat.reduceAdd, Nat.reduceLeDiff, Nat.reduceEqDiff, Nat.reduceBEq, Nat.reduceLT, h]) | (refine go ?_; try simp -implicitDefEqProofs only [go_sem, Nat.reduceSub, Nat.reduceAdd, Nat.reduceLeDiff, Nat.reduceEqDiff, Nat.reduceBEq, Nat.reduceLT]) | ((with_reducible refine wpC_id ?_); simp -implicitDefEqProofs only [go_sem, Nat.reduceSub, Nat.reduceAdd, Nat.reduceLeDiff, Nat.reduceEqDiff, Nat.reduceBEq, Nat.reduceLT]) | ((with_reducible first | refine quiet_id ?_ | refine wrote_id ?_ | refine resQ_id ?_); simp -implicitDefEqProofs only [go_sem, Nat.reduceSub, Nat.reduceAdd, Nat.reduceLeDiff, Nat.reduceEqDiff, Nat.reduceBEq, Nat.reduceLT]) | fail)
      · have h3 := bNot_true.1 h
        refine endB hle2 ?_
        rw [dE_false.2]
        intro e'; rw [e', hy] at hx
        exact absurd (Option.some.inj hx).symm (dE_false.1 h3)
      · have h3 := dE_true.1 (bNot_false.1 h)
        exact ⟨n - 1, by omega, i + 1, _, by omega, take_step hall hx hy h3, hle2, by rw [e]⟩
    · rw [iLt_false, rLen_eq, List.length_map] at h
      have h1 : i = a.length := by omega
      subst h1
      have := take_eq_all hlen hall
      repeat' (first | (refine wpC_split rfl rfl (fun h => ?_) (fun h => ?_) <;> (try simp -implicitDefEqProofs only [go_sem, Nat.reduceSub, Nat.reduceAdd, Nat.reduceLeDiff, Nat.reduceEqDiff, Nat.reduceBEq, Nat.reduceLT, h])) | (refine plan_split rfl rfl (fun h => ?_) (fun h => ?_) <;> simp -implicitDefEqProofs only [go_sem, Nat.reduceSub, Nat.reduceAdd, Nat.reduceLeDiff, Nat.reduceEqDiff, Nat.reduceBEq, Nat.reduceLT, h]) | (refine planD_split rfl rfl (fun h => ?_) (fun h => ?_) <;> simp -implicitDefEqProofs only [go_sem, Nat.reduceSub, Nat.reduceAdd, Nat.reduceLeDiff, Nat.reduceEqDiff, Nat.reduceBEq, Nat.reduceLT, h]) | (refine go ?_; try simp -implicitDefEqProofs only [go_sem, Nat.reduceSub, Nat.reduceAdd, Nat.reduceLeDiff, Nat.reduceEqDiff, Nat.reduceBEq, Nat.reduceLT]) | ((with_reducible refine wpC_id ?_); simp -implicitDefEqProofs only [go_sem, Nat.reduceSub, Nat.reduceAdd, Nat.reduceLeDiff, Nat.reduceEqDiff, Nat.reduceBEq, Nat.reduceLT]) | ((with_reducible first | refine quiet_id ?_ | refine wrote_id ?_ | refine resQ_id ?_); simp -implicitDefEqProofs only [go_sem, Nat.reduceSub, Nat.reduceAdd, Nat.reduceLeDiff, Nat.reduceEqDiff, Nat.reduceBEq, Nat.reduceLT]) | fail)
      exact endB hle (by rw [dE_true.2 this])

theorem eqfExpr_pure {O : Cfg} (a b : List Ex) (ha : a.length ≤ 140737488355328) (g : FuncId) (hg : ∀ x ∈ a, ∀ y, PureCall O g [.agg x.cells, .agg y.cells] (.bool (dE x y))) :
    PureCall O f_eqfExpr [.sl (a.map Ex.cells) .no, .sl (b.map Ex.cells) .no, .func (.func g) [] []] (.bool (dE a b)) := by
  refine entryF h_eqfExpr rfl fun H => ?_
  simp -implicitDefEqProofs only [go_sem, Nat.reduceSub, Nat.reduceAdd, Nat.reduceLeDiff, Nat.reduceEqDiff, Nat.reduceBEq, Nat.reduceLT, c_eqfExpr]
  refine AC.cut (fun st => a.length = b.length ∧ st = ⟨mk 32 [(0, .sl (a.map Ex.cells) .no), (1, .sl (b.map Ex.cells) .no), (2, .func (.func g) [] [])], H, []⟩) ?_ ?_
  · repeat' (first | (refine wpC_split rfl rfl (fun h => ?_) (fun h => ?_) <;> (try simp -implicitDefEqProofs only [go_sem, Nat.reduceSub, Nat.reduceAdd, Nat.reduceLeDiff, Nat.reduceEqDiff, Nat.reduceBEq, Nat.reduceLT, h])) | (refine plan_split rfl rfl (fun h => ?_) (fun h => ?_) <;> simp -implicitDefEqProofs only [go_sem, Nat.reduceSub, Nat.reduceAdd, Nat.reduceLeDiff, Nat.reduceEqDiff, Nat.reduceBEq, Nat.reduceLT, h]) | (refine planD_split rfl rfl (fun h => ?_) (fun h => ?_) <;> simp -implicitDefEqProofs only [go_sem, Nat.reduceSub, Nat.reduceAdd, Nat.reduceLeDiff, Nat.reduceEqDiff, Nat.reduceBEq, Nat.reduceLT, h]) | (refine go ?_; try simp -implicitDefEqProofs only [go_sem, Nat.reduceSub, Nat.reduceAdd, Nat.reduceLeDiff, Nat.reduceEqDiff, Nat.reduceBEq, Nat.reduceLT]) | ((with_reducible refine wpC_id ?_); simp -implicitDefEqProofs only [go_sem, Nat.reduceSub, Nat.reduceAdd, Nat.reduceLeDiff, Nat.reduceEqDiff, Nat.reduceBEq, Nat.reduceLT]) | ((with_reducible first | refine quiet_id ?_ | refine wrote_id ?_ | refine resQ_id ?_); simp -implicitDefEqProofs only [go_sem, Nat.reduceSub, Nat.reduceAdd, Nat.reduceLeDiff, Nat.reduceEqDiff, Nat.reduceBEq, Nat.reduceLT]) | fail)
    · have h1 := iEq_false.1 (bNot_true.1 h)
      rw [rLen_eq, rLen_eq, List.length_map, List.length_map] at h1
      refine endB (le_self _) ?_
      rw [dE_false.2]; intro e; rw [e] at h1; exact h1 rfl
    · have h1 := iEq_true.1 (bNot_false.1 h)
      rw [rLen_eq, rLen_eq, List.length_map, List.length_map] at h1
      omega
  · rintro _ ⟨hlen, rfl⟩
    refine go ?_; simp -implicitDefEqProofs only [go_sem, Nat.reduceSub, Nat.reduceAdd, Nat.reduceLeDiff, Nat.reduceEqDiff, Nat.reduceBEq, Nat.reduceLT]
    refine go ?_; simp -implicitDefEqProofs only [go_sem, Nat.reduceSub, Nat.reduceAdd, Nat.reduceLeDiff, Nat.reduceEqDiff, Nat.reduceBEq, Nat.reduceLT]
    rw [wpC_loop]
    refine AC.loop (fun n st => ∃ (i : Nat) (H' : Hp), i + n = a.length ∧ a.take i = b.take i ∧ H.le H' ∧ st = ⟨mk 32 [(1, .sl (b.map Ex.cells) .no), (2, .func (.func g) [] []), (15, .sl (a.map Ex.cells) .no), (16, .int .i64 (rLen (a.map Ex.cells))), (17, .int .i64 i)], H', []⟩) a.length ⟨0, H, by omega, rfl, le_self _, rfl⟩ ?_
    rintro n _ ⟨i, H', hi, hall, hle, rfl⟩
    simp -implicitDefEqProofs only [go_sem, Nat.reduceSub, Nat.reduceAdd, Nat.reduceLeDiff, Nat.reduceEqDiff, Nat.reduceBEq, Nat.reduceLT, l_eqfExpr_0]
    refine go ?_; simp -implicitDefEqProofs only [go_sem, Nat.reduceSub, Nat.reduceAdd, Nat.reduceLeDiff, Nat.reduceEqDiff, Nat.reduceBEq, Nat.reduceLT]
    refine go ?_; simp -implicitDefEqProofs only [go_sem, Nat.reduceSub, Nat.reduceAdd, Nat.reduceLeDiff, Nat.reduceEqDiff, Nat.reduceBEq, Nat.reduceLT]
    refine wpC_split rfl rfl (fun h => ?_) (fun h => ?_) <;> simp -implicitDefEqProofs only [go_sem, Nat.reduceSub, Nat.reduceAdd, Nat.reduceLeDiff, Nat.reduceEqDiff, Nat.reduceBEq, Nat.reduceLT]
    · rw [iLt_true, rLen_eq, List.length_map] at h
      obtain ⟨x, hx⟩ : ∃ x, a[i]? = some x := ⟨_, List.getElem?_eq_getElem (by omega)⟩
      obtain ⟨y, hy⟩ : ∃ y, b[i]? = some y := ⟨_, List.getElem?_eq_getElem (by omega)⟩
      have e : wAdd .i64 (i : Int) 1 = ((i + 1 : Nat) : Int) := by rw [wAdd_i64] <;> omega
      refine go ?_; simp -implicitDefEqProofs only [go_sem, Nat.reduceSub, Nat.reduceAdd, Nat.reduceLeDiff, Nat.reduceEqDiff, Nat.reduceBEq, Nat.reduceLT, Ex.iaddr hx]
      refine newCells_intro fun i1 h1 => ?_; simp -implicitDefEqProofs only [go_sem, Nat.reduceSub, Nat.reduceAdd, Nat.reduceLeDiff, Nat.reduceEqDiff, Nat.reduceBEq, Nat.reduceLT]
      refine go ?_; simp -implicitDefEqProofs only [go_sem, Nat.reduceSub, Nat.reduceAdd, Nat.reduceLeDiff, Nat.reduceEqDiff, Nat.reduceBEq, Nat.reduceLT, Ex.iaddr hy]
      refine newCells_intro fun i2 h2 => ?_; simp -implicitDefEqProofs only [go_sem, Nat.reduceSub, Nat.reduceAdd, Nat.reduceLeDiff, Nat.reduceEqDiff, Nat.reduceBEq, Nat.reduceLT]
      have k1 := upd_old (o' := .cells y.cells) (Hp.upd_same H' i1 (.cells x.cells)) h2
      refine go ?_; simp -implicitDefEqProofs only [go_sem, Nat.reduceSub, Nat.reduceAdd, Nat.reduceLeDiff, Nat.reduceEqDiff, Nat.reduceBEq, Nat.reduceLT, k1, Ex.take_all]
      refine PureCall.step (hg x (List.mem_of_getElem? hx) y) ?_; simp -implicitDefEqProofs only [go_sem, Nat.reduceSub, Nat.reduceAdd, Nat.reduceLeDiff, Nat.reduceEqDiff, Nat.reduceBEq, Nat.reduceLT]
      have hle2 := le_new (le_new hle h1 (.cells x.cells)) h2 (.cells y.cells)
      repeat' (first | (refine wpC_split rfl rfl (fun h => ?_) (fun h => ?_) <;> (try simp -implicitDefEqProofs only [go_sem, Nat.reduceSub, Nat.reduceAdd, Nat.reduceLeDiff, Nat.reduceEqDiff, Nat.reduceBEq, Nat.reduceLT, h])) | (refine plan_split rfl rfl (fun h => ?_) (fun h => ?_) <;> simp -implicitDefEqProofs only [go_sem, Nat.reduceSub, Nat.reduceAdd, Nat.reduceLeDiff, Nat.reduceEqDiff, Nat.reduceBEq, Nat.reduceLT, h]) | (refine planD_split rfl rfl (fun h => ?_) (fun h => ?_) <;> simp -implicitDefEqProofs only [go_sem, Nat.reduceSub, Nat.reduceAdd, Nat.reduceLeDiff, Nat.reduceEqDiff, Nat.reduceBEq, Nat.reduceLT, h]) | (refine go ?_; try simp -implicitDefEqProofs only [go_sem, Nat.reduceSub, Nat.reduceAdd, Nat.reduceLeDiff, Nat.reduceEqDiff, Nat.reduceBEq, Nat.reduceLT]) | ((with_reducible refine wpC_id ?_); simp -implicitDefEqProofs only [go_sem, Nat.reduceSub, Nat.reduceAdd, Nat.reduceLeDiff, Nat.reduceEqDiff, Nat.reduceBEq, Nat.reduceLT]) | ((with_reducible first | refine quiet_id ?_ | refine wrote_id ?_ | refine resQ_id ?_); simp -implicitDefEqProofs only [go_sem, Nat.reduceSub, Nat.reduceAdd, Nat.reduceLeDiff, Nat.reduceEqDiff, Nat.reduceBEq, Nat.reduceLT]) | fail)
      · have h3 := bNot_true.1 h
        refine endB hle2 ?_
        rw [dE_false.2]
        intro e'; rw [e', hy] at hx
        exact absurd (Option.some.inj hx).symm (dE_false.1 h3)
      · have h3 := dE_true.1 (bNot_false.1 h)
        exact ⟨n - 1, by omega, i + 1, _, by omega, take_step hall hx hy h3, hle2, by rw [e]⟩
    · rw [iLt_false, rLen_eq, List.length_map] at h
      have h1 : i = a.length := by omega
      subst h1
      have := take_eq_all hlen hall
      repeat' (first | (refine wpC_split rfl rfl (fun h => ?_) (fun h => ?_) <;> (try simp -implicitDefEqProofs only [go_sem, Nat.reduceSub, Nat.reduceAdd, Nat.reduceLeDiff, Nat.reduceEqDiff, Nat.reduceBEq, Nat.reduceLT, h])) | (refine plan_split rfl rfl (fun h => ?_) (fun h => ?_) <;> simp -implicitDefEqProofs only [go_sem, Nat.reduceSub, Nat.reduceAdd, Nat.reduceLeDiff, Nat.reduceEqDiff, Nat.reduceBEq, Nat.reduceLT, h]) | (refine planD_split rfl rfl (fun h => ?_) (fun h => ?_) <;> simp -implicitDefEqProofs only [go_sem, Nat.reduceSub, Nat.reduceAdd, Nat.reduceLeDiff, Nat.reduceEqDiff, Nat.reduceBEq, Nat.reduceLT, h]) | (refine go ?_; try simp -implicitDefEqProofs only [go_sem, Nat.reduceSub, Nat.reduceAdd, Nat.reduceLeDiff, Nat.reduceEqDiff, Nat.reduceBEq, Nat.reduceLT]) | ((with_reducible refine wpC_id ?_); simp -implicitDefEqProofs only [go_sem, Nat.reduceSub, Nat.reduceAdd, Nat.reduceLeDiff, Nat.reduceEqDiff, Nat.reduceBEq, Nat.reduceLT]) | ((with_reducible first | refine quiet_id ?_ | refine wrote_id ?_ | refine resQ_id ?_); simp -implicitDefEqProofs only [go_sem, Nat.reduceSub, Nat.reduceAdd, Nat.reduceLeDiff, Nat.reduceEqDiff, Nat.reduceBEq, Nat.reduceLT]) | fail)
      exact endB hle (by rw [dE_true.2 this])

theorem eqfStmt_pure {O : Cfg} (a b : List St) (ha : a.length ≤ 140737488355328) (g : FuncId) (hg : ∀ x ∈ a, ∀ y, PureCall O g [.agg x.cells, .agg y.cells] (.bool (dE x y))) :
    PureCall O f_eqfStmt [.sl (a.map St.cells) .no, .sl (b.map St.cells) .no, .func (.func g) [] []] (.bool (dE a b)) := by
  refine entryF h_eqfStmt rfl fun H => ?_
  simp -implicitDefEqProofs only [go_sem, Nat.reduceSub, Nat.reduceAdd, Nat.reduceLeDiff, Nat.reduceEqDiff, Nat.reduceBEq, Nat.reduceLT, c_eqfStmt]
  refine AC.cut (fun st => a.length = b.length ∧ st = ⟨mk 32 [(0, .sl (a.map St.cells) .no), (1, .sl (b.map St.cells) .no), (2, .func (.func g) [] [])], H, []⟩) ?_ ?_
  · repeat' (first | (refine wpC_split rfl rfl (fun h => ?_) (fun h => ?_) <;> (try simp -implicitDefEqProofs only [go_sem, Nat.reduceSub, Nat.reduceAdd, Nat.reduceLeDiff, Nat.reduceEqDiff, Nat.reduceBEq, Nat.reduceLT, h])) | (refine plan_split rfl rfl (fun h => ?_) (fun h => ?_) <;> simp -implicitDefEqProofs only [go_sem, Nat.reduceSub, Nat.reduceAdd, Nat.reduceLeDiff, Nat.reduceEqDiff, Nat.reduceBEq, Nat.reduceLT, h]) | (refine planD_split rfl rfl (fun h => ?_) (fun h => ?_) <;> simp -implicitDefEqProofs only [go_sem, Nat.reduceSub, Nat.reduceAdd, Nat.reduceLeDiff, Nat.reduceEqDiff, Nat.reduceBEq, Nat.reduceLT, h]) | (refine go ?_; try simp -implicitDefEqProofs only [go_sem, Nat.reduceSub, Nat.reduceAdd, Nat.reduceLeDiff, Nat.reduceEqDiff, Nat.reduceBEq, Nat.reduceLT]) | ((with_reducible refine wpC_id ?_); simp -implicitDefEqProofs only [go_sem, Nat.reduceSub, Nat.reduceAdd, Nat.reduceLeDiff, Nat.reduceEqDiff, Nat.reduceBEq, Nat.reduceLT]) | ((with_reducible first | refine quiet_id ?_ | refine wrote_id ?_ | refine resQ_id ?_); simp -implicitDefEqProofs only [go_sem, Nat.reduceSub, Nat.reduceAdd, Nat.reduceLeDiff, Nat.reduceEqDiff, Nat.reduceBEq, Nat.reduceLT]) | fail)
    · have h1 := iEq_false.1 (bNot_true.1 h)
      rw [rLen_eq, rLen_eq, List.length_map, List.length_map] at h1
      refine endB (le_self _) ?_
      rw [dE_false.2]; intro e; rw [e] at h1; exact h1 rfl
    · have h1 := iEq_true.1 (bNot_false.1 h)
      rw [rLen_eq, rLen_eq, List.length_map, List.length_map] at h1
      omega
  · rintro _ ⟨hlen, rfl⟩
    refine go ?_; simp -implicitDefEqProofs only [go_sem, Nat.reduceSub, Nat.reduceAdd, Nat.reduceLeDiff, Nat.reduceEqDiff, Nat.reduceBEq, Nat.reduceLT]
    refine go ?_; simp -implicitDefEqProofs only [go_sem, Nat.reduceSub, Nat.reduceAdd, Nat.reduceLeDiff, Nat.reduceEqDiff, Nat.reduceBEq, Nat.reduceLT]
    rw [wpC_loop]
    refine AC.loop (fun n st => ∃ (i : Nat) (H' : Hp), i + n = a.length ∧ a.take i = b.take i ∧ H.le H' ∧ st = ⟨mk 32 [(1, .sl (b.map St.cells) .no), (2, .func (.func g) [] []), (15, .sl (a.map St.cells) .no), (16, .int .i64 (rLen (a.map St.cells))), (17, .int .i64 i)], H', []⟩) a.length ⟨0, H, by omega, rfl, le_self _, rfl⟩ ?_
    rintro n _ ⟨i, H', hi, hall, hle, rfl⟩
    simp -implicitDefEqProofs only [go_sem, Nat.reduceSub, Nat.reduceAdd, Nat.reduceLeDiff, Nat.reduceEqDiff, Nat.reduceBEq, Nat.reduceLT, l_eqfStmt_0]
    refine go ?_; simp -implicitDefEqProofs only [go_sem, Nat.reduceSub, Nat.reduceAdd, Nat.reduceLeDiff, Nat.reduceEqDiff, Nat.reduceBEq, Nat.reduceLT]
    refine go ?_; simp -implicitDefEqProofs only [go_sem, Nat.reduceSub, Nat.reduceAdd, Nat.reduceLeDiff, Nat.reduceEqDiff, Nat.reduceBEq, Nat.reduceLT]
    refine wpC_split rfl rfl (fun h => ?_) (fun h => ?_) <;> simp -implicitDefEqProofs only [go_sem, Nat.reduceSub, Nat.reduceAdd, Nat.reduceLeDiff, Nat.reduceEqDiff, Nat.reduceBEq, Nat.reduceLT]
    · rw [iLt_true, rLen_eq, List.length_map] at h
      obtain ⟨x, hx⟩ : ∃ x, a[i]? = some x := ⟨_, List.getElem?_eq_getElem (by omega)⟩
      obtain ⟨y, hy⟩ : ∃ y, b[i]? = some y := ⟨_, List.getElem?_eq_getElem (by omega)⟩
      have e : wAdd .i64 (i : Int) 1 = ((i + 1 : Nat) : Int) := by rw [wAdd_i64] <;> omega
      refine go ?_; simp -implicitDefEqProofs only [go_sem, Nat.reduceSub, Nat.reduceAdd, Nat.reduceLeDiff, Nat.reduceEqDiff, Nat.reduceBEq, Nat.reduceLT, St.iaddr hx]
      refine newCells_intro fun i1 h1 => ?_; simp -implicitDefEqProofs only [go_sem, Nat.reduceSub, Nat.reduceAdd, Nat.reduceLeDiff, Nat.reduceEqDiff, Nat.reduceBEq, Nat.reduceLT]
      refine go ?_; simp -implicitDefEqProofs only [go_sem, Nat.reduceSub, Nat.reduceAdd, Nat.reduceLeDiff, Nat.reduceEqDiff, Nat.reduceBEq, Nat.reduceLT, St.iaddr hy]
      refine newCells_intro fun i2 h2 => ?_; simp -implicitDefEqProofs only [go_sem, Nat.reduceSub, Nat.reduceAdd, Nat.reduceLeDiff, Nat.reduceEqDiff, Nat.reduceBEq, Nat.reduceLT]
      have k1 := upd_old (o' := .cells y.cells) (Hp.upd_same H' i1 (.cells x.cells)) h2
      refine go ?_; simp -implicitDefEqProofs only [go_sem, Nat.reduceSub, Nat.reduceAdd, Nat.reduceLeDiff, Nat.reduceEqDiff, Nat.reduceBEq, Nat.reduceLT, k1, St.take_all]
      refine PureCall.step (hg x (List.mem_of_getElem? hx) y) ?_; simp -implicitDefEqProofs only [go_sem, Nat.reduceSub, Nat.reduceAdd, Nat.reduceLeDiff, Nat.reduceEqDiff, Nat.reduceBEq, Nat.reduceLT]
      have hle2 := le_new (le_new hle h1 (.cells x.cells)) h2 (.cells y.cells)
      repeat' (first | (refine wpC_split rfl rfl (fun h => ?_) (fun h => ?_) <;> (try simp -implicitDefEqProofs only [go_sem, Nat.reduceSub, Nat.reduceAdd, Nat.reduceLeDiff, Nat.reduceEqDiff, Nat.reduceBEq, Nat.reduceLT, h])) | (refine plan_split rfl rfl (fun h => ?_) (fun h => ?_) <;> simp -implicitDefEqProofs only [go_sem, Nat.reduceSub, Nat.reduceAdd, Nat.reduceLeDiff, Nat.reduceEqDiff, Nat.reduceBEq, Nat.reduceLT, h]) | (refine planD_split rfl rfl (fun h => ?_) (fun h => ?_) <;> simp -implicitDefEqProofs only [go_sem, Nat.reduceSub, Nat.reduceAdd, Nat.reduceLeDiff, Nat.reduceEqDiff, Nat.reduceBEq, Nat.reduceLT, h]) | (refine go ?_; try simp -implicitDefEqProofs only [go_sem, Nat.reduceSub, Nat.reduceAdd, Nat.reduceLeDiff, Nat.reduceEqDiff, Nat.reduceBEq, Nat.reduceLT]) | ((with_reducible refine wpC_id ?_); simp -implicitDefEqProofs only [go_sem, Nat.reduceSub, Nat.reduceAdd, Nat.reduceLeDiff, Nat.reduceEqDiff, Nat.reduceBEq, Nat.reduceLT]) | ((with_reducible first | refine quiet_id ?_ | refine wrote_id ?_ | refine resQ_id ?_); simp -implicitDefEqProofs only [go_sem, Nat.reduceSub, Nat.reduceAdd, Nat.reduceLeDiff, Nat.reduceEqDiff, Nat.reduceBEq, Nat.reduceLT]) | fail)
      · have h3 := bNot_true.1 h
        refine endB hle2 ?_
        rw [dE_false.2]
        intro e'; rw [e', hy] at hx
        exact absurd (Option.some.inj hx).symm (dE_false.1 h3)
      · have h3 := dE_true.1 (bNot_false.1 h)
        exact ⟨n - 1, by omega, i + 1, _, by omega, take_step hall hx hy h3, hle2, by rw [e]⟩
    · rw [iLt_false, rLen_eq, List.length_map] at h
      have h1 : i = a.length := by omega
      subst h1
      have := take_eq_all hlen hall
      repeat' (first | (refine wpC_split rfl rfl (fun h => ?_) (fun h => ?_) <;> (try simp -implicitDefEqProofs only [go_sem, Nat.reduceSub, Nat.reduceAdd, Nat.reduceLeDiff, Nat.reduceEqDiff, Nat.reduceBEq, Nat.reduceLT, h])) | (refine plan_split rfl rfl (fun h => ?_) (fun h => ?_) <;> simp -implicitDefEqProofs only [go_sem, Nat.reduceSub, Nat.reduceAdd, Nat.reduceLeDiff, Nat.reduceEqDiff, Nat.reduceBEq, Nat.reduceLT, h]) | (refine planD_split rfl rfl (fun h => ?_) (fun h => ?_) <;> simp -implicitDefEqProofs only [go_sem, Nat.reduceSub, Nat.reduceAdd, Nat.reduceLeDiff, Nat.reduceEqDiff, Nat.reduceBEq, Nat.reduceLT, h]) | (refine go ?_; try simp -implicitDefEqProofs only [go_sem, Nat.reduceSub, Nat.reduceAdd, Nat.reduceLeDiff, Nat.reduceEqDiff, Nat.reduceBEq, Nat.reduceLT]) | ((with_reducible refine wpC_id ?_); simp -implicitDefEqProofs only [go_sem, Nat.reduceSub, Nat.reduceAdd, Nat.reduceLeDiff, Nat.reduceEqDiff, Nat.reduceBEq, Nat.reduceLT]) | ((with_reducible first | refine quiet_id ?_ | refine wrote_id ?_ | refine resQ_id ?_); simp -implicitDefEqProofs only [go_sem, Nat.reduceSub, Nat.reduceAdd, Nat.reduceLeDiff, Nat.reduceEqDiff, Nat.reduceBEq, Nat.reduceLT]) | fail)
      exact endB hle (by rw [dE_true.2 this])

theorem eqfAlt_pure {O : Cfg} (a b : List Al) (ha : a.length ≤ 140737488355328) (g : FuncId) (hg : ∀ x ∈ a, ∀ y, PureCall O g [.agg x.cells, .agg y.cells] (.bool (dE x y))) :
    PureCall O f_eqfAlt [.sl (a.map Al.cells) .no, .sl (b.map Al.cells) .no, .func (.func g) [] []] (.bool (dE a b)) := by
  refine entryF h_eqfAlt rfl fun H => ?_
  simp -implicitDefEqProofs only [go_sem, Nat.reduceSub, Nat.reduceAdd, Nat.reduceLeDiff, Nat.reduceEqDiff, Nat.reduceBEq, Nat.reduceLT, c_eqfAlt]
  refine AC.cut (fun st => a.length = b.length ∧ st = ⟨mk 32 [(0, .sl (a.map Al.cells) .no), (1, .sl (b.map Al.cells) .no), (2, .func (.func g) [] [])], H, []⟩) ?_ ?_
  · repeat' (first | (refine wpC_split rfl rfl (fun h => ?_) (fun h => ?_) <;> (try simp -implicitDefEqProofs only [go_sem, Nat.reduceSub, Nat.reduceAdd, Nat.reduceLeDiff, Nat.reduceEqDiff, Nat.reduceBEq, Nat.reduceLT, h])) | (refine plan_split rfl rfl (fun h => ?_) (fun h => ?_) <;> simp -implicitDefEqProofs only [go_sem, Nat.reduceSub, Nat.reduceAdd, Nat.reduceLeDiff, Nat.reduceEqDiff, Nat.reduceBEq, Nat.reduceLT, h]) | (refine planD_split rfl rfl (fun h => ?_) (fun h => ?_) <;> simp -implicitDefEqProofs only [go_sem, Nat.reduceSub, Nat.reduceAdd, Nat.reduceLeDiff, Nat.reduceEqDiff, Nat.reduceBEq, Nat.reduceLT, h]) | (refine go ?_; try simp -implicitDefEqProofs only [go_sem, Nat.reduceSub, Nat.reduceAdd, Nat.reduceLeDiff, Nat.reduceEqDiff, Nat.reduceBEq, Nat.reduceLT]) | ((with_reducible refine wpC_id ?_); simp -implicitDefEqProofs only [go_sem, Nat.reduceSub, Nat.reduceAdd, Nat.reduceLeDiff, Nat.reduceEqDiff, Nat.reduceBEq, Nat.reduceLT]) | ((with_reducible first | refine quiet_id ?_ | refine wrote_id ?_ | refine resQ_id ?_); simp -implicitDefEqProofs only [go_sem, Nat.reduceSub, Nat.reduceAdd, Nat.reduceLeDiff, Nat.reduceEqDiff, Nat.reduceBEq, Nat.reduceLT]) | fail)
    · have h1 := iEq_false.1 (bNot_true.1 h)
      rw [rLen_eq, rLen_eq, List.length_map, List.length_map] at h1
      refine endB (le_self _) ?_
      rw [dE_false.2]; intro e; rw [e] at h1; exact h1 rfl
    · have h1 := iEq_true.1 (bNot_false.1 h)
      rw [rLen_eq, rLen_eq, List.length_map, List.length_map] at h1
      omega
  · rintro _ ⟨hlen, rfl⟩
    refine go ?_; simp -implicitDefEqProofs only [go_sem, Nat.reduceSub, Nat.reduceAdd, Nat.reduceLeDiff, Nat.reduceEqDiff, Nat.reduceBEq, Nat.reduceLT]
    refine go ?_; simp -implicitDefEqProofs only [go_sem, Nat.reduceSub, Nat.reduceAdd, Nat.reduceLeDiff, Nat.reduceEqDiff, Nat.reduceBEq, Nat.reduceLT]
    rw [wpC_loop]
    refine AC.loop (fun n st => ∃ (i : Nat) (H' : Hp), i + n = a.length ∧ a.take i = b.take i ∧ H.le H' ∧ st = ⟨mk 32 [(1, .sl (b.map Al.cells) .no), (2, .func (.func g) [] []), (15, .sl (a.map Al.cells) .no), (16, .int .i64 (rLen (a.map Al.cells))), (17, .int .i64 i)], H', []⟩) a.length ⟨0, H, by omega, rfl, le_self _, rfl⟩ ?_
    rintro n _ ⟨i, H', hi, hall, hle, rfl⟩
    simp -implicitDefEqProofs only [go_sem, Nat.reduceSub, Nat.reduceAdd, Nat.reduceLeDiff, Nat.reduceEqDiff, Nat.reduceBEq, Nat.reduceLT, l_eqfAlt_0]
    refine go ?_; simp -implicitDefEqProofs only [go_sem, Nat.reduceSub, Nat.reduceAdd, Nat.reduceLeDiff, Nat.reduceEqDiff, Nat.reduceBEq, Nat.reduceLT]
    refine go ?_; simp -implicitDefEqProofs only [go_sem, Nat.reduceSub, Nat.reduceAdd, Nat.reduceLeDiff, Nat.reduceEqDiff, Nat.reduceBEq, Nat.reduceLT]
    refine wpC_split rfl rfl (fun h => ?_) (fun h => ?_) <;> simp -implicitDefEqProofs only [go_sem, Nat.reduceSub, Nat.reduceAdd, Nat.reduceLeDiff, Nat.reduceEqDiff, Nat.reduceBEq, Nat.reduceLT]
    · rw [iLt_true, rLen_eq, List.length_map] at h
      obtain ⟨x, hx⟩ : ∃ x, a[i]? = some x := ⟨_, List.getElem?_eq_getElem (by omega)⟩
      obtain ⟨y, hy⟩ : ∃ y, b[i]? = some y := ⟨_, List.getElem?_eq_getElem (by omega)⟩
      have e : wAdd .i64 (i : Int) 1 = ((i + 1 : Nat) : Int) := by rw [wAdd_i64] <;> omega
      refine go ?_; simp -implicitDefEqProofs only [go_sem, Nat.reduceSub, Nat.reduceAdd, Nat.reduceLeDiff, Nat.reduceEqDiff, Nat.reduceBEq, Nat.reduceLT, Al.iaddr hx]
      refine newCells_intro fun i1 h1 => ?_; simp -implicitDefEqProofs only [go_sem, Nat.reduceSub, Nat.reduceAdd, Nat.reduceLeDiff, Nat.reduceEqDiff, Nat.reduceBEq, Nat.reduceLT]
      refine go ?_; simp -implicitDefEqProofs only [go_sem, Nat.reduceSub, Nat.reduceAdd, Nat.reduceLeDiff, Nat.reduceEqDiff, Nat.reduceBEq, Nat.reduceLT, Al.iaddr hy]
      refine newCells_intro fun i2 h2 => ?_; simp -implicitDefEqProofs only [go_sem, Nat.reduceSub, Nat.reduceAdd, Nat.reduceLeDiff, Nat.reduceEqDiff, Nat.reduceBEq, Nat.reduceLT]
      have k1 := upd_old (o' := .cells y.cells) (Hp.upd_same H' i1 (.cells x.cells)) h2
      refine go ?_; simp -implicitDefEqProofs only [go_sem, Nat.reduceSub, Nat.reduceAdd, Nat.reduceLeDiff, Nat.reduceEqDiff, Nat.reduceBEq, Nat.reduceLT, k1, Al.take_all]
      refine PureCall.step (hg x (List.mem_of_getElem? hx) y) ?_; simp -implicitDefEqProofs only [go_sem, Nat.reduceSub, Nat.reduceAdd, Nat.reduceLeDiff, Nat.reduceEqDiff, Nat.reduceBEq, Nat.reduceLT]
      have hle2 := le_new (le_new hle h1 (.cells x.cells)) h2 (.cells y.cells)
      repeat' (first | (refine wpC_split rfl rfl (fun h => ?_) (fun h => ?_) <;> (try simp -implicitDefEqProofs only [go_sem, Nat.reduceSub, Nat.reduceAdd, Nat.reduceLeDiff, Nat.reduceEqDiff, Nat.reduceBEq, Nat.reduceLT, h])) | (refine plan_split rfl rfl (fun h => ?_) (fun h => ?_) <;> simp -implicitDefEqProofs only [go_sem, Nat.reduceSub, Nat.reduceAdd, Nat.reduceLeDiff, Nat.reduceEqDiff, Nat.reduceBEq, Nat.reduceLT, h]) | (refine planD_split rfl rfl (fun h => ?_) (fun h => ?_) <;> simp -implicitDefEqProofs only [go_sem, Nat.reduceSub, Nat.reduceAdd, Nat.reduceLeDiff, Nat.reduceEqDiff, Nat.reduceBEq, Nat.reduceLT, h]) | (refine go ?_; try simp -implicitDefEqProofs only [go_sem, Nat.reduceSub, Nat.reduceAdd, Nat.reduceLeDiff, Nat.reduceEqDiff, Nat.reduceBEq, Nat.reduceLT]) | ((with_reducible refine wpC_id ?_); simp -implicitDefEqProofs only [go_sem, Nat.reduceSub, Nat.reduceAdd, Nat.reduceLeDiff, Nat.reduceEqDiff, Nat.reduceBEq, Nat.reduceLT]) | ((with_reducible first | refine quiet_id ?_ | refine wrote_id ?_ | refine resQ_id ?_); simp -implicitDefEqProofs only [go_sem, Nat.reduceSub, Nat.reduceAdd, Nat.reduceLeDiff, Nat.reduceEqDiff, Nat.reduceBEq, Nat.reduceLT]) | fail)
      · have h3 := bNot_true.1 h
        refine endB hle2 ?_
        rw [dE_false.2]
        intro e'; rw [e', hy] at hx
        exact absurd (Option.some.inj hx).symm (dE_false.1 h3)
      · have h3 := dE_true.1 (bNot_false.1 h)
        exact ⟨n - 1, by omega, i + 1, _, by omega, take_step hall hx hy h3, hle2, by rw [e]⟩
    · rw [iLt_false, rLen_eq, List.length_map] at h
      have h1 : i = a.length := by omega
      subst h1
      have := take_eq_all hlen hall
      repeat' (first | (refine wpC_split rfl rfl (fun h => ?_) (fun h => ?_) <;> (try simp -implicitDefEqProofs only [go_sem, Nat.reduceSub, Nat.reduceAdd, Nat.reduceLeDiff, Nat.reduceEqDiff, Nat.reduceBEq, Nat.reduceLT, h])) | (refine plan_split rfl rfl (fun h => ?_) (fun h => ?_) <;> simp -implicitDefEqProofs only [go_sem, Nat.reduceSub, Nat.reduceAdd, Nat.reduceLeDiff, Nat.reduceEqDiff, Nat.reduceBEq, Nat.reduceLT, h]) | (refine planD_split rfl rfl (fun h => ?_) (fun h => ?_) <;> simp -implicitDefEqProofs only [go_sem, Nat.reduceSub, Nat.reduceAdd, Nat.reduceLeDiff, Nat.reduceEqDiff, Nat.reduceBEq, Nat.reduceLT, h]) | (refine go ?_; try simp -implicitDefEqProofs only [go_sem, Nat.reduceSub, Nat.reduceAdd, Nat.reduceLeDiff, Nat.reduceEqDiff, Nat.reduceBEq, Nat.reduceLT]) | ((with_reducible refine wpC_id ?_); simp -implicitDefEqProofs only [go_sem, Nat.reduceSub, Nat.reduceAdd, Nat.reduceLeDiff, Nat.reduceEqDiff, Nat.reduceBEq, Nat.reduceLT]) | ((with_reducible first | refine quiet_id ?_ | refine wrote_id ?_ | refine resQ_id ?_); simp -implicitDefEqProofs only [go_sem, Nat.reduceSub, Nat.reduceAdd, Nat.reduceLeDiff, Nat.reduceEqDiff, Nat.reduceBEq, Nat.reduceLT]) | fail)
      exact endB hle (by rw [dE_true.2 this])

theorem eqfGuard_pure {O : Cfg} (a b : List Gu) (ha : a.length ≤ 140737488355328) (g : FuncId) (hg : ∀ x ∈ a, ∀ y, PureCall O g [.agg x.cells, .agg y.cells] (.bool (dE x y))) :
    PureCall O f_eqfGuard [.sl (a.map Gu.cells) .no, .sl (b.map Gu.cells) .no, .func (.func g) [] []] (.bool (dE a b)) := by
  refine entryF h_eqfGuard rfl fun H => ?_
  simp -implicitDefEqProofs only [go_sem, Nat.reduceSub, Nat.reduceAdd, Nat.reduceLeDiff, Nat.reduceEqDiff, Nat.reduceBEq, Nat.reduceLT, c_eqfGuard]
  refine AC.cut (fun st => a.length = b.length ∧ st = ⟨mk 32 [(0, .sl (a.map Gu.cells) .no), (1, .sl (b.map Gu.cells) .no), (2, .func (.func g) [] [])], H, []⟩) ?_ ?_
  · repeat' (first | (refine wpC_split rfl rfl (fun h => ?_) (fun h => ?_) <;> (try simp -implicitDefEqProofs only [go_sem, Nat.reduceSub, Nat.reduceAdd, Nat.reduceLeDiff, Nat.reduceEqDiff, Nat.reduceBEq, Nat.reduceLT, h])) | (refine plan_split rfl rfl (fun h => ?_) (fun h => ?_) <;> simp -implicitDefEqProofs only [go_sem, Nat.reduceSub, Nat.reduceAdd, Nat.reduceLeDiff, Nat.reduceEqDiff, Nat.reduceBEq, Nat.reduceLT, h]) | (refine planD_split rfl rfl (fun h => ?_) (fun h => ?_) <;> simp -implicitDefEqProofs only [go_sem, Nat.reduceSub, Nat.reduceAdd, Nat.reduceLeDiff, Nat.reduceEqDiff, Nat.reduceBEq, Nat.reduceLT, h]) | (refine go ?_; try simp -implicitDefEqProofs only [go_sem, Nat.reduceSub, Nat.reduceAdd, Nat.reduceLeDiff, Nat.reduceEqDiff, Nat.reduceBEq, Nat.reduceLT]) | ((with_reducible refine wpC_id ?_); simp -implicitDefEqProofs only [go_sem, Nat.reduceSub, Nat.reduceAdd, Nat.reduceLeDiff, Nat.reduceEqDiff, Nat.reduceBEq, Nat.reduceLT]) | ((with_reducible first | refine quiet_id ?_ | refine wrote_id ?_ | refine resQ_id ?_); simp -implicitDefEqProofs only [go_sem, Nat.reduceSub, Nat.reduceAdd, Nat.reduceLeDiff, Nat.reduceEqDiff, Nat.reduceBEq, Nat.reduceLT]) | fail)
    · have h1 := iEq_false.1 (bNot_true.1 h)
      rw [rLen_eq, rLen_eq, List.length_map, List.length_map] at h1
      refine endB (le_self _) ?_
      rw [dE_false.2]; intro e; rw [e] at h1; exact h1 rfl
    · have h1 := iEq_true.1 (bNot_false.1 h)
      rw [rLen_eq, rLen_eq, List.length_map, List.length_map] at h1
      omega
  · rintro _ ⟨hlen, rfl⟩
    refine go ?_; simp -implicitDefEqProofs only [go_sem, Nat.reduceSub, Nat.reduceAdd, Nat.reduceLeDiff, Nat.reduceEqDiff, Nat.reduceBEq, Nat.reduceLT]
    refine go ?_; simp -implicitDefEqProofs only [go_sem, Nat.reduceSub, Nat.reduceAdd, Nat.reduceLeDiff, Nat.reduceEqDiff, Nat.reduceBEq, Nat.reduceLT]
    rw [wpC_loop]
    refine AC.loop (fun n st => ∃ (i : Nat) (H' : Hp), i + n = a.length ∧ a.take i = b.take i ∧ H.le H' ∧ st = ⟨mk 32 [(1, .sl (b.map Gu.cells) .no), (2, .func (.func g) [] []), (15, .sl (a.map Gu.cells) .no), (16, .int .i64 (rLen (a.map Gu.cells))), (17, .int .i64 i)], H', []⟩) a.length ⟨0, H, by omega, rfl, le_self _, rfl⟩ ?_
    rintro n _ ⟨i, H', hi, hall, hle, rfl⟩
    simp -implicitDefEqProofs only [go_sem, Nat.reduceSub, Nat.reduceAdd, Nat.reduceLeDiff, Nat.reduceEqDiff, Nat.reduceBEq, Nat.reduceLT, l_eqfGuard_0]
    refine go ?_; simp -implicitDefEqProofs only [go_sem, Nat.reduceSub, Nat.reduceAdd, Nat.reduceLeDiff, Nat.reduceEqDiff, Nat.reduceBEq, Nat.reduceLT]
    refine go ?_; simp -implicitDefEqProofs only [go_sem, Nat.reduceSub, Nat.reduceAdd, Nat.reduceLeDiff, Nat.reduceEqDiff, Nat.reduceBEq, Nat.reduceLT]
    refine wpC_split rfl rfl (fun h => ?_) (fun h => ?_) <;> simp -implicitDefEqProofs only [go_sem, Nat.reduceSub, Nat.reduceAdd, Nat.reduceLeDiff, Nat.reduceEqDiff, Nat.reduceBEq, Nat.reduceLT]
    · rw [iLt_true, rLen_eq, List.length_map] at h
      obtain ⟨x, hx⟩ : ∃ x, a[i]? = some x := ⟨_, List.getElem?_eq_getElem (by omega)⟩
      obtain ⟨y, hy⟩ : ∃ y, b[i]? = some y := ⟨_, List.getElem?_eq_getElem (by omega)⟩
      have e : wAdd .i64 (i : Int) 1 = ((i + 1 : Nat) : Int) := by rw [wAdd_i64] <;> omega
      refine go ?_; simp -implicitDefEqProofs only [go_sem, Nat.reduceSub, Nat.reduceAdd, Nat.reduceLeDiff, Nat.reduceEqDiff, Nat.reduceBEq, Nat.reduceLT, Gu.iaddr hx]
      refine newCells_intro fun i1 h1 => ?_; simp -implicitDefEqProofs only [go_sem, Nat.reduceSub, Nat.reduceAdd, Nat.reduceLeDiff, Nat.reduceEqDiff, Nat.reduceBEq, Nat.reduceLT]
      refine go ?_; simp -implicitDefEqProofs only [go_sem, Nat.reduceSub, Nat.reduceAdd, Nat.reduceLeDiff, Nat.reduceEqDiff, Nat.reduceBEq, Nat.reduceLT, Gu.iaddr hy]
      refine newCells_intro fun i2 h2 => ?_; simp -implicitDefEqProofs only [go_sem, Nat.reduceSub, Nat.reduceAdd, Nat.reduceLeDiff, Nat.reduceEqDiff, Nat.reduceBEq, Nat.reduceLT]
      have k1 := upd_old (o' := .cells y.cells) (Hp.upd_same H' i1 (.cells x.cells)) h2
      refine go ?_; simp -implicitDefEqProofs only [go_sem, Nat.reduceSub, Nat.reduceAdd, Nat.reduceLeDiff, Nat.reduceEqDiff, Nat.reduceBEq, Nat.reduceLT, k1, Gu.take_all]
      refine PureCall.step (hg x (List.mem_of_getElem? hx) y) ?_; simp -implicitDefEqProofs only [go_sem, Nat.reduceSub, Nat.reduceAdd, Nat.reduceLeDiff, Nat.reduceEqDiff, Nat.reduceBEq, Nat.reduceLT]
      have hle2 := le_new (le_new hle h1 (.cells x.cells)) h2 (.cells y.cells)
      repeat' (first | (refine wpC_split rfl rfl (fun h => ?_) (fun h => ?_) <;> (try simp -implicitDefEqProofs only [go_sem, Nat.reduceSub, Nat.reduceAdd, Nat.reduceLeDiff, Nat.reduceEqDiff, Nat.reduceBEq, Nat.reduceLT, h])) | (refine plan_split rfl rfl (fun h => ?_) (fun h => ?_) <;> simp -implicitDefEqProofs only [go_sem, Nat.reduceSub, Nat.reduceAdd, Nat.reduceLeDiff, Nat.reduceEqDiff, Nat.reduceBEq, Nat.reduceLT, h]) | (refine planD_split rfl rfl (fun h => ?_) (fun h => ?_) <;> simp -implicitDefEqProofs only [go_sem, Nat.reduceSub, Nat.reduceAdd, Nat.reduceLeDiff, Nat.reduceEqDiff, Nat.reduceBEq, Nat.reduceLT, h]) | (refine go ?_; try simp -implicitDefEqProofs only [go_sem, Nat.reduceSub, Nat.reduceAdd, Nat.reduceLeDiff, Nat.reduceEqDiff, Nat.reduceBEq, Nat.reduceLT]) | ((with_reducible refine wpC_id ?_); simp -implicitDefEqProofs only [go_sem, Nat.reduceSub, Nat.reduceAdd, Nat.reduceLeDiff, Nat.reduceEqDiff, Nat.reduceBEq, Nat.reduceLT]) | ((with_reducible first | refine quiet_id ?_ | refine wrote_id ?_ | refine resQ_id ?_); simp -implicitDefEqProofs only [go_sem, Nat.reduceSub, Nat.reduceAdd, Nat.reduceLeDiff, Nat.reduceEqDiff, Nat.reduceBEq, Nat.reduceLT]) | fail)
      · have h3 := bNot_true.1 h
        refine endB hle2 ?_
        rw [dE_false.2]
        intro e'; rw [e', hy] at hx
        exact absurd (Option.some.inj hx).symm (dE_false.1 h3)
      · have h3 := dE_true.1 (bNot_false.1 h)
        exact ⟨n - 1, by omega, i + 1, _, by omega, take_step hall hx hy h3, hle2, by rw [e]⟩
    · rw [iLt_false, rLen_eq, List.length_map] at h
      have h1 : i = a.length := by omega
      subst h1
      have := take_eq_all hlen hall
      repeat' (first | (refine wpC_split rfl rfl (fun h => ?_) (fun h => ?_) <;> (try simp -implicitDefEqProofs only [go_sem, Nat.reduceSub, Nat.reduceAdd, Nat.reduceLeDiff, Nat.reduceEqDiff, Nat.reduceBEq, Nat.reduceLT, h])) | (refine plan_split rfl rfl (fun h => ?_) (fun h => ?_) <;> simp -implicitDefEqProofs only [go_sem, Nat.reduceSub, Nat.reduceAdd, Nat.reduceLeDiff, Nat.reduceEqDiff, Nat.reduceBEq, Nat.reduceLT, h]) | (refine planD_split rfl rfl (fun h => ?_) (fun h => ?_) <;> simp -implicitDefEqProofs only [go_sem, Nat.reduceSub, Nat.reduceAdd, Nat.reduceLeDiff, Nat.reduceEqDiff, Nat.reduceBEq, Nat.reduceLT, h]) | (refine go ?_; try simp -implicitDefEqProofs only [go_sem, Nat.reduceSub, Nat.reduceAdd, Nat.reduceLeDiff, Nat.reduceEqDiff, Nat.reduceBEq, Nat.reduceLT]) | ((with_reducible refine wpC_id ?_); simp -implicitDefEqProofs only [go_sem, Nat.reduceSub, Nat.reduceAdd, Nat.reduceLeDiff, Nat.reduceEqDiff, Nat.reduceBEq, Nat.reduceLT]) | ((with_reducible first | refine quiet_id ?_ | refine wrote_id ?_ | refine resQ_id ?_); simp -implicitDefEqProofs only [go_sem, Nat.reduceSub, Nat.reduceAdd, Nat.reduceLeDiff, Nat.reduceEqDiff, Nat.reduceBEq, Nat.reduceLT]) | fail)
      exact endB hle (by rw [dE_true.2 this])

theorem eqfDecl_pure {O : Cfg} (a b : List De) (ha : a.length ≤ 140737488355328) (g : FuncId) (hg : ∀ x ∈ a, ∀ y, PureCall O g [.agg x.cells, .agg y.cells] (.bool (dE x y))) :
    PureCall O f_eqfDecl [.sl (a.map De.cells) .no, .sl (b.map De.cells) .no, .func (.func g) [] []] (.bool (dE a b)) := by
  refine entryF h_eqfDecl rfl fun H => ?_
  simp -implicitDefEqProofs only [go_sem, Nat.reduceSub, Nat.reduceAdd, Nat.reduceLeDiff, Nat.reduceEqDiff, Nat.reduceBEq, Nat.reduceLT, c_eqfDecl]
  refine AC.cut (fun st => a.length = b.length ∧ st = ⟨mk 32 [(0, .sl (a.map De.cells) .no), (1, .sl (b.map De.cells) .no), (2, .func (.func g) [] [])], H, []⟩) ?_ ?_
  · repeat' (first | (refine wpC_split rfl rfl (fun h => ?_) (fun h => ?_) <;> (try simp -implicitDefEqProofs only [go_sem, Nat.reduceSub, Nat.reduceAdd, Nat.reduceLeDiff, Nat.reduceEqDiff, Nat.reduceBEq, Nat.reduceLT, h])) | (refine plan_split rfl rfl (fun h => ?_) (fun h => ?_) <;> simp -implicitDefEqProofs only [go_sem, Nat.reduceSub, Nat.reduceAdd, Nat.reduceLeDiff, Nat.reduceEqDiff, Nat.reduceBEq, Nat.reduceLT, h]) | (refine planD_split rfl rfl (fun h => ?_) (fun h => ?_) <;> simp -implicitDefEqProofs only [go_sem, Nat.reduceSub, Nat.reduceAdd, Nat.reduceLeDiff, Nat.reduceEqDiff, Nat.reduceBEq, Nat.reduceLT, h]) | (refine go ?_; try simp -implicitDefEqProofs only [go_sem, Nat.reduceSub, Nat.reduceAdd, Nat.reduceLeDiff, Nat.reduceEqDiff, Nat.reduceBEq, Nat.reduceLT]) | ((with_reducible refine wpC_id ?_); simp -implicitDefEqProofs only [go_sem, Nat.reduceSub, Nat.reduceAdd, Nat.reduceLeDiff, Nat.reduceEqDiff, Nat.reduceBEq, Nat.reduceLT]) | ((with_reducible first | refine quiet_id ?_ | refine wrote_id ?_ | refine resQ_id ?_); simp -implicitDefEqProofs only [go_sem, Nat.reduceSub, Nat.reduceAdd, Nat.reduceLeDiff, Nat.reduceEqDiff, Nat.reduceBEq, Nat.reduceLT]) | fail)
    · have h1 := iEq_false.1 (bNot_true.1 h)
      rw [rLen_eq, rLen_eq, List.length_map, List.length_map] at h1
      refine endB (le_self _) ?_
      rw [dE_false.2]; intro e; rw [e] at h1; exact h1 rfl
    · have h1 := iEq_true.1 (bNot_false.1 h)
      rw [rLen_eq, rLen_eq, List.length_map, List.length_map] at h1
      omega
  · rintro _ ⟨hlen, rfl⟩
    refine go ?_; simp -implicitDefEqProofs only [go_sem, Nat.reduceSub, Nat.reduceAdd, Nat.reduceLeDiff, Nat.reduceEqDiff, Nat.reduceBEq, Nat.reduceLT]
    refine go ?_; simp -implicitDefEqProofs only [go_sem, Nat.reduceSub, Nat.reduceAdd, Nat.reduceLeDiff, Nat.reduceEqDiff, Nat.reduceBEq, Nat.reduceLT]
    rw [wpC_loop]
    refine AC.loop (fun n st => ∃ (i : Nat) (H' : Hp), i + n = a.length ∧ a.take i = b.take i ∧ H.le H' ∧ st = ⟨mk 32 [(1, .sl (b.map De.cells) .no), (2, .func (.func g) [] []), (15, .sl (a.map De.cells) .no), (16, .int .i64 (rLen (a.map De.cells))), (17, .int .i64 i)], H', []⟩) a.length ⟨0, H, by omega, rfl, le_self _, rfl⟩ ?_
    rintro n _ ⟨i, H', hi, hall, hle, rfl⟩
    simp -implicitDefEqProofs only [go_sem, Nat.reduceSub, Nat.reduceAdd, Nat.reduceLeDiff, Nat.reduceEqDiff, Nat.reduceBEq, Nat.reduceLT, l_eqfDecl_0]
    refine go ?_; simp -implicitDefEqProofs only [go_sem, Nat.reduceSub, Nat.reduceAdd, Nat.reduceLeDiff, Nat.reduceEqDiff, Nat.reduceBEq, Nat.reduceLT]
    refine go ?_; simp -implicitDefEqProofs only [go_sem, Nat.reduceSub, Nat.reduceAdd, Nat.reduceLeDiff, Nat.reduceEqDiff, Nat.reduceBEq, Nat.reduceLT]
    refine wpC_split rfl rfl (fun h => ?_) (fun h => ?_) <;> simp -implicitDefEqProofs only [go_sem, Nat.reduceSub, Nat.reduceAdd, Nat.reduceLeDiff, Nat.reduceEqDiff, Nat.reduceBEq, Nat.reduceLT]
    · rw [iLt_true, rLen_eq, List.length_map] at h
      obtain ⟨x, hx⟩ : ∃ x, a[i]? = some x := ⟨_, List.getElem?_eq_getElem (by omega)⟩
      obtain ⟨y, hy⟩ : ∃ y, b[i]? = some y := ⟨_, List.getElem?_eq_getElem (by omega)⟩
      have e : wAdd .i64 (i : Int) 1 = ((i + 1 : Nat) : Int) := by rw [wAdd_i64] <;> omega
      refine go ?_; simp -implicitDefEqProofs only [go_sem, Nat.reduceSub, Nat.reduceAdd, Nat.reduceLeDiff, Nat.reduceEqDiff, Nat.reduceBEq, Nat.reduceLT, De.iaddr hx]
      refine newCells_intro fun i1 h1 => ?_; simp -implicitDefEqProofs only [go_sem, Nat.reduceSub, Nat.reduceAdd, Nat.reduceLeDiff, Nat.reduceEqDiff, Nat.reduceBEq, Nat.reduceLT]
      refine go ?_; simp -implicitDefEqProofs only [go_sem, Nat.reduceSub, Nat.reduceAdd, Nat.reduceLeDiff, Nat.reduceEqDiff, Nat.reduceBEq, Nat.reduceLT, De.iaddr hy]
      refine newCells_intro fun i2 h2 => ?_; simp -implicitDefEqProofs only [go_sem, Nat.reduceSub, Nat.reduceAdd, Nat.reduceLeDiff, Nat.reduceEqDiff, Nat.reduceBEq, Nat.reduceLT]
      have k1 := upd_old (o' := .cells y.cells) (Hp.upd_same H' i1 (.cells x.cells)) h2
      refine go ?_; simp -implicitDefEqProofs only [go_sem, Nat.reduceSub, Nat.reduceAdd, Nat.reduceLeDiff, Nat.reduceEqDiff, Nat.reduceBEq, Nat.reduceLT, k1, De.take_all]
      refine PureCall.step (hg x (List.mem_of_getElem? hx) y) ?_; simp -implicitDefEqProofs only [go_sem, Nat.reduceSub, Nat.reduceAdd, Nat.reduceLeDiff, Nat.reduceEqDiff, Nat.reduceBEq, Nat.reduceLT]
      have hle2 := le_new (le_new hle h1 (.cells x.cells)) h2 (.cells y.cells)
      repeat' (first | (refine wpC_split rfl rfl (fun h => ?_) (fun h => ?_) <;> (try simp -implicitDefEqProofs only [go_sem, Nat.reduceSub, Nat.reduceAdd, Nat.reduceLeDiff, Nat.reduceEqDiff, Nat.reduceBEq, Nat.reduceLT, h])) | (refine plan_split rfl rfl (fun h => ?_) (fun h => ?_) <;> simp -implicitDefEqProofs only [go_sem, Nat.reduceSub, Nat.reduceAdd, Nat.reduceLeDiff, Nat.reduceEqDiff, Nat.reduceBEq, Nat.reduceLT, h]) | (refine planD_split rfl rfl (fun h => ?_) (fun h => ?_) <;> simp -implicitDefEqProofs only [go_sem, Nat.reduceSub, Nat.reduceAdd, Nat.reduceLeDiff, Nat.reduceEqDiff, Nat.reduceBEq, Nat.reduceLT, h]) | (refine go ?_; try simp -implicitDefEqProofs only [go_sem, Nat.reduceSub, Nat.reduceAdd, Nat.reduceLeDiff, Nat.reduceEqDiff, Nat.reduceBEq, Nat.reduceLT]) | ((with_reducible refine wpC_id ?_); simp -implicitDefEqProofs only [go_sem, Nat.reduceSub, Nat.reduceAdd, Nat.reduceLeDiff, Nat.reduceEqDiff, Nat.reduceBEq, Nat.reduceLT]) | ((with_reducible first | refine quiet_id ?_ | refine wrote_id ?_ | refine resQ_id ?_); simp -implicitDefEqProofs only [go_sem, Nat.reduceSub, Nat.reduceAdd, Nat.reduceLeDiff, Nat.reduceEqDiff, Nat.reduceBEq, Nat.reduceLT]) | fail)
      · have h3 := bNot_true.1 h
        refine endB hle2 ?_
        rw [dE_false.2]
        intro e'; rw [e', hy] at hx
        exact absurd (Option.some.inj hx).symm (dE_false.1 h3)
      · have h3 := dE_true.1 (bNot_false.1 h)
        exact ⟨n - 1, by omega, i + 1, _, by omega, take_step hall hx hy h3, hle2, by rw [e]⟩
    · rw [iLt_false, rLen_eq, List.length_map] at h
      have h1 : i = a.length := by omega
      subst h1
      have := take_eq_all hlen hall
      repeat' (first | (refine wpC_split rfl rfl (fun h => ?_) (fun h => ?_) <;> (try simp -implicitDefEqProofs only [go_sem, Nat.reduceSub, Nat.reduceAdd, Nat.reduceLeDiff, Nat.reduceEqDiff, Nat.reduceBEq, Nat.reduceLT, h])) | (refine plan_split rfl rfl (fun h => ?_) (fun h => ?_) <;> simp -implicitDefEqProofs only [go_sem, Nat.reduceSub, Nat.reduceAdd, Nat.reduceLeDiff, Nat.reduceEqDiff, Nat.reduceBEq, Nat.reduceLT, h]) | (refine planD_split rfl rfl (fun h => ?_) (fun h => ?_) <;> simp -implicitDefEqProofs only [go_sem, Nat.reduceSub, Nat.reduceAdd, Nat.reduceLeDiff, Nat.reduceEqDiff, Nat.reduceBEq, Nat.reduceLT, h]) | (refine go ?_; try simp -implicitDefEqProofs only [go_sem, Nat.reduceSub, Nat.reduceAdd, Nat.reduceLeDiff, Nat.reduceEqDiff, Nat.reduceBEq, Nat.reduceLT]) | ((with_reducible refine wpC_id ?_); simp -implicitDefEqProofs only [go_sem, Nat.reduceSub, Nat.reduceAdd, Nat.reduceLeDiff, Nat.reduceEqDiff, Nat.reduceBEq, Nat.reduceLT]) | ((with_reducible first | refine quiet_id ?_ | refine wrote_id ?_ | refine resQ_id ?_); simp -implicitDefEqProofs only [go_sem, Nat.reduceSub, Nat.reduceAdd, Nat.reduceLeDiff, Nat.reduceEqDiff, Nat.reduceBEq, Nat.reduceLT]) | fail)
      exact endB hle (by rw [dE_true.2 this])

theorem eqfCon_pure {O : Cfg} (a b : List Co) (ha : a.length ≤ 140737488355328) (g : FuncId) (hg : ∀ x ∈ a, ∀ y, PureCall O g [.agg x.cells, .agg y.cells] (.bool (dE x y))) :
    PureCall O f_eqfCon [.sl (a.map Co.cells) .no, .sl (b.map Co.cells) .no, .func (.func g) [] []] (.bool (dE a b)) := by
  refine entryF h_eqfCon rfl fun H => ?_
  simp -implicitDefEqProofs only [go_sem, Nat.reduceSub, Nat.reduceAdd, Nat.reduceLeDiff, Nat.reduceEqDiff, Nat.reduceBEq, Nat.reduceLT, c_eqfCon]
  refine AC.cut (fun st => a.length = b.length ∧ st = ⟨mk 32 [(0, .sl (a.map Co.cells) .no), (1, .sl (b.map Co.cells) .no), (2, .func (.func g) [] [])], H, []⟩) ?_ ?_
  · repeat' (first | (refine wpC_split rfl rfl (fun h => ?_) (fun h => ?_) <;> (try simp -implicitDefEqProofs only [go_sem, Nat.reduceSub, Nat.reduceAdd, Nat.reduceLeDiff, Nat.reduceEqDiff, Nat.reduceBEq, Nat.reduceLT, h])) | (refine plan_split rfl rfl (fun h => ?_) (fun h => ?_) <;> simp -implicitDefEqProofs only [go_sem, Nat.reduceSub, Nat.reduceAdd, Nat.reduceLeDiff, Nat.reduceEqDiff, Nat.reduceBEq, Nat.reduceLT, h]) | (refine planD_split rfl rfl (fun h => ?_) (fun h => ?_) <;> simp -implicitDefEqProofs only [go_sem, Nat.reduceSub, Nat.reduceAdd, Nat.reduceLeDiff, Nat.reduceEqDiff, Nat.reduceBEq, Nat.reduceLT, h]) | (refine go ?_; try simp -implicitDefEqProofs only [go_sem, Nat.reduceSub, Nat.reduceAdd, Nat.reduceLeDiff, Nat.reduceEqDiff, Nat.reduceBEq, Nat.reduceLT]) | ((with_reducible refine wpC_id ?_); simp -implicitDefEqProofs only [go_sem, Nat.reduceSub, Nat.reduceAdd, Nat.reduceLeDiff, Nat.reduceEqDiff, Nat.reduceBEq, Nat.reduceLT]) | ((with_reducible first | refine quiet_id ?_ | refine wrote_id ?_ | refine resQ_id ?_); simp -implicitDefEqProofs only [go_sem, Nat.reduceSub, Nat.reduceAdd, Nat.reduceLeDiff, Nat.reduceEqDiff, Nat.reduceBEq, Nat.reduceLT]) | fail)
    · have h1 := iEq_false.1 (bNot_true.1 h)
      rw [rLen_eq, rLen_eq, List.length_map, List.length_map] at h1
      refine endB (le_self _) ?_
      rw [dE_false.2]; intro e; rw [e] at h1; exact h1 rfl
    · have h1 := iEq_true.1 (bNot_false.1 h)
      rw [rLen_eq, rLen_eq, List.length_map, List.length_map] at h1
      omega
  · rintro _ ⟨hlen, rfl⟩
    refine go ?_; simp -implicitDefEqProofs only [go_sem, Nat.reduceSub, Nat.reduceAdd, Nat.reduceLeDiff, Nat.reduceEqDiff, Nat.reduceBEq, Nat.reduceLT]
    refine go ?_; simp -implicitDefEqProofs only [go_sem, Nat.reduceSub, Nat.reduceAdd, Nat.reduceLeDiff, Nat.reduceEqDiff, Nat.reduceBEq, Nat.reduceLT]
    rw [wpC_loop]
    refine AC.loop (fun n st => ∃ (i : Nat) (H' : Hp), i + n = a.length ∧ a.take i = b.take i ∧ H.le H' ∧ st = ⟨mk 32 [(1, .sl (b.map Co.cells) .no), (2, .func (.func g) [] []), (15, .sl (a.map Co.cells) .no), (16, .int .i64 (rLen (a.map Co.cells))), (17, .int .i64 i)], H', []⟩) a.length ⟨0, H, by omega, rfl, le_self _, rfl⟩ ?_
    rintro n _ ⟨i, H', hi, hall, hle, rfl⟩
    simp -implicitDefEqProofs only [go_sem, Nat.reduceSub, Nat.reduceAdd, Nat.reduceLeDiff, Nat.reduceEqDiff, Nat.reduceBEq, Nat.reduceLT, l_eqfCon_0]
    refine go ?_; simp -implicitDefEqProofs only [go_sem, Nat.reduceSub, Nat.reduceAdd, Nat.reduceLeDiff, Nat.reduceEqDiff, Nat.reduceBEq, Nat.reduceLT]
    refine go ?_; simp -implicitDefEqProofs only [go_sem, Nat.reduceSub, Nat.reduceAdd, Nat.reduceLeDiff, Nat.reduceEqDiff, Nat.reduceBEq, Nat.reduceLT]
    refine wpC_split rfl rfl (fun h => ?_) (fun h => ?_) <;> simp -implicitDefEqProofs only [go_sem, Nat.reduceSub, Nat.reduceAdd, Nat.reduceLeDiff, Nat.reduceEqDiff, Nat.reduceBEq, Nat.reduceLT]
    · rw [iLt_true, rLen_eq, List.length_map] at h
      obtain ⟨x, hx⟩ : ∃ x, a[i]? = some x := ⟨_, List.getElem?_eq_getElem (by omega)⟩
      obtain ⟨y, hy⟩ : ∃ y, b[i]? = some y := ⟨_, List.getElem?_eq_getElem (by omega)⟩
      have e : wAdd .i64 (i : Int) 1 = ((i + 1 : Nat) : Int) := by rw [wAdd_i64] <;> omega
      refine go ?_; simp -implicitDefEqProofs only [go_sem, Nat.reduceSub, Nat.reduceAdd, Nat.reduceLeDiff, Nat.reduceEqDiff, Nat.reduceBEq, Nat.reduceLT, Co.iaddr hx]
      refine newCells_intro fun i1 h1 => ?_; simp -implicitDefEqProofs only [go_sem, Nat.reduceSub, Nat.reduceAdd, Nat.reduceLeDiff, Nat.reduceEqDiff, Nat.reduceBEq, Nat.reduceLT]
      refine go ?_; simp -implicitDefEqProofs only [go_sem, Nat.reduceSub, Nat.reduceAdd, Nat.reduceLeDiff, Nat.reduceEqDiff, Nat.reduceBEq, Nat.reduceLT, Co.iaddr hy]
      refine newCells_intro fun i2 h2 => ?_; simp -implicitDefEqProofs only [go_sem, Nat.reduceSub, Nat.reduceAdd, Nat.reduceLeDiff, Nat.reduceEqDiff, Nat.reduceBEq, Nat.reduceLT]
      have k1 := upd_old (o' := .cells y.cells) (Hp.upd_same H' i1 (.cells x.cells)) h2
      refine go ?_; simp -implicitDefEqProofs only [go_sem, Nat.reduceSub, Nat.reduceAdd, Nat.reduceLeDiff, Nat.reduceEqDiff, Nat.reduceBEq, Nat.reduceLT, k1, Co.take_all]
      refine PureCall.step (hg x (List.mem_of_getElem? hx) y) ?_; simp -implicitDefEqProofs only [go_sem, Nat.reduceSub, Nat.reduceAdd, Nat.reduceLeDiff, Nat.reduceEqDiff, Nat.reduceBEq, Nat.reduceLT]
      have hle2 := le_new (le_new hle h1 (.cells x.cells)) h2 (.cells y.cells)
      repeat' (first | (refine wpC_split rfl rfl (fun h => ?_) (fun h => ?_) <;> (try simp -implicitDefEqProofs only [go_sem, Nat.reduceSub, Nat.reduceAdd, Nat.reduceLeDiff, Nat.reduceEqDiff, Nat.reduceBEq, Nat.reduceLT, h])) | (refine plan_split rfl rfl (fun h => ?_) (fun h => ?_) <;> simp -implicitDefEqProofs only [go_sem, Nat.reduceSub, Nat.reduceAdd, Nat.reduceLeDiff, Nat.reduceEqDiff, Nat.reduceBEq, Nat.reduceLT, h]) | (refine planD_split rfl rfl (fun h => ?_) (fun h => ?_) <;> simp -implicitDefEqProofs only [go_sem, Nat.reduceSub, Nat.reduceAdd, Nat.reduceLeDiff, Nat.reduceEqDiff, Nat.reduceBEq, Nat.reduceLT, h]) | (refine go ?_; try simp -implicitDefEqProofs only [go_sem, Nat.reduceSub, Nat.reduceAdd, Nat.reduceLeDiff, Nat.reduceEqDiff, Nat.reduceBEq, Nat.reduceLT]) | ((with_reducible refine wpC_id ?_); simp -implicitDefEqProofs only [go_sem, Nat.reduceSub, Nat.reduceAdd, Nat.reduceLeDiff, Nat.reduceEqDiff, Nat.reduceBEq, Nat.reduceLT]) | ((with_reducible first | refine quiet_id ?_ | refine wrote_id ?_ | refine resQ_id ?_); simp -implicitDefEqProofs only [go_sem, Nat.reduceSub, Nat.reduceAdd, Nat.reduceLeDiff, Nat.reduceEqDiff, Nat.reduceBEq, Nat.reduceLT]) | fail)
      · have h3 := bNot_true.1 h
        refine endB hle2 ?_
        rw [dE_false.2]
        intro e'; rw [e', hy] at hx
        exact absurd (Option.some.inj hx).symm (dE_false.1 h3)
      · have h3 := dE_true.1 (bNot_false.1 h)
        exact ⟨n - 1, by omega, i + 1, _, by omega, take_step hall hx hy h3, hle2, by rw [e]⟩
    · rw [iLt_false, rLen_eq, List.length_map] at h
      have h1 : i = a.length := by omega
      subst h1
      have := take_eq_all hlen hall
      repeat' (first | (refine wpC_split rfl rfl (fun h => ?_) (fun h => ?_) <;> (try simp -implicitDefEqProofs only [go_sem, Nat.reduceSub, Nat.reduceAdd, Nat.reduceLeDiff, Nat.reduceEqDiff, Nat.reduceBEq, Nat.reduceLT, h])) | (refine plan_split rfl rfl (fun h => ?_) (fun h => ?_) <;> simp -implicitDefEqProofs only [go_sem, Nat.reduceSub, Nat.reduceAdd, Nat.reduceLeDiff, Nat.reduceEqDiff, Nat.reduceBEq, Nat.reduceLT, h]) | (refine planD_split rfl rfl (fun h => ?_) (fun h => ?_) <;> simp -implicitDefEqProofs only [go_sem, Nat.reduceSub, Nat.reduceAdd, Nat.reduceLeDiff, Nat.reduceEqDiff, Nat.reduceBEq, Nat.reduceLT, h]) | (refine go ?_; try simp -implicitDefEqProofs only [go_sem, Nat.reduceSub, Nat.reduceAdd, Nat.reduceLeDiff, Nat.reduceEqDiff, Nat.reduceBEq, Nat.reduceLT]) | ((with_reducible refine wpC_id ?_); simp -implicitDefEqProofs only [go_sem, Nat.reduceSub, Nat.reduceAdd, Nat.reduceLeDiff, Nat.reduceEqDiff, Nat.reduceBEq, Nat.reduceLT]) | ((with_reducible first | refine quiet_id ?_ | refine wrote_id ?_ | refine resQ_id ?_); simp -implicitDefEqProofs only [go_sem, Nat.reduceSub, Nat.reduceAdd, Nat.reduceLeDiff, Nat.reduceEqDiff, Nat.reduceBEq, Nat.reduceLT]) | fail)
      exact endB hle (by rw [dE_true.2 this])

theorem eqfEq_pure {O : Cfg} (a b : List Eqn) (ha : a.length ≤ 140737488355328) (g : FuncId) (hg : ∀ x ∈ a, ∀ y, PureCall O g [.agg x.cells, .agg y.cells] (.bool (dE x y))) :
    PureCall O f_eqfEq [.sl (a.map Eqn.cells) .no, .sl (b.map Eqn.cells) .no, .func (.func g) [] []] (.bool (dE a b)) := by
  refine entryF h_eqfEq rfl fun H => ?_
  simp -implicitDefEqProofs only [go_sem, Nat.reduceSub, Nat.reduceAdd, Nat.reduceLeDiff, Nat.reduceEqDiff, Nat.reduceBEq, Nat.reduceLT, c_eqfEq]
  refine AC.cut (fun st => a.length = b.length ∧ st = ⟨mk 32 [(0, .sl (a.map Eqn.cells) .no), (1, .sl (b.map Eqn.cells) .no), (2, .func (.func g) [] [])], H, []⟩) ?_ ?_
  · repeat' (first | (refine wpC_split rfl rfl (fun h => ?_) (fun h => ?_) <;> (try simp -implicitDefEqProofs only [go_sem, Nat.reduceSub, Nat.reduceAdd, Nat.reduceLeDiff, Nat.reduceEqDiff, Nat.reduceBEq, Nat.reduceLT, h])) | (refine plan_split rfl rfl (fun h => ?_) (fun h => ?_) <;> simp -implicitDefEqProofs only [go_sem, Nat.reduceSub, Nat.reduceAdd, Nat.reduceLeDiff, Nat.reduceEqDiff, Nat.reduceBEq, Nat.reduceLT, h]) | (refine planD_split rfl rfl (fun h => ?_) (fun h => ?_) <;> simp -implicitDefEqProofs only [go_sem, Nat.reduceSub, Nat.reduceAdd, Nat.reduceLeDiff, Nat.reduceEqDiff, Nat.reduceBEq, Nat.reduceLT, h]) | (refine go ?_; try simp -implicitDefEqProofs only [go_sem, Nat.reduceSub, Nat.reduceAdd, Nat.reduceLeDiff, Nat.reduceEqDiff, Nat.reduceBEq, Nat.reduceLT]) | ((with_reducible refine wpC_id ?_); simp -implicitDefEqProofs only [go_sem, Nat.reduceSub, Nat.reduceAdd, Nat.reduceLeDiff, Nat.reduceEqDiff, Nat.reduceBEq, Nat.reduceLT]) | ((with_reducible first | refine quiet_id ?_ | refine wrote_id ?_ | refine resQ_id ?_); simp -implicitDefEqProofs only [go_sem, Nat.reduceSub, Nat.reduceAdd, Nat.reduceLeDiff, Nat.reduceEqDiff, Nat.reduceBEq, Nat.reduceLT]) | fail)
    · have h1 := iEq_false.1 (bNot_true.1 h)
      rw [rLen_eq, rLen_eq, List.length_map, List.length_map] at h1
      refine endB (le_self _) ?_
      rw [dE_false.2]; intro e; rw [e] at h1; exact h1 rfl
    · have h1 := iEq_true.1 (bNot_false.1 h)
      rw [rLen_eq, rLen_eq, List.length_map, List.length_map] at h1
      omega
  · rintro _ ⟨hlen, rfl⟩
    refine go ?_; simp -implicitDefEqProofs only [go_sem, Nat.reduceSub, Nat.reduceAdd, Nat.reduceLeDiff, Nat.reduceEqDiff, Nat.reduceBEq, Nat.reduceLT]
    refine go ?_; simp -implicitDefEqProofs only [go_sem, Nat.reduceSub, Nat.reduceAdd, Nat.reduceLeDiff, Nat.reduceEqDiff, Nat.reduceBEq, Nat.reduceLT]
    rw [wpC_loop]
    refine AC.loop (fun n st => ∃ (i : Nat) (H' : Hp), i + n = a.length ∧ a.take i = b.take i ∧ H.le H' ∧ st = ⟨mk 32 [(1, .sl (b.map Eqn.cells) .no), (2, .func (.func g) [] []), (15, .sl (a.map Eqn.cells) .no), (16, .int .i64 (rLen (a.map Eqn.cells))), (17, .int .i64 i)], H', []⟩) a.length ⟨0, H, by omega, rfl, le_self _, rfl⟩ ?_
    rintro n _ ⟨i, H', hi, hall, hle, rfl⟩
    simp -implicitDefEqProofs only [go_sem, Nat.reduceSub, Nat.reduceAdd, Nat.reduceLeDiff, Nat.reduceEqDiff, Nat.reduceBEq, Nat.reduceLT, l_eqfEq_0]
    refine go ?_; simp -implicitDefEqProofs only [go_sem, Nat.reduceSub, Nat.reduceAdd, Nat.reduceLeDiff, Nat.reduceEqDiff, Nat.reduceBEq, Nat.reduceLT]
    refine go ?_; simp -implicitDefEqProofs only [go_sem, Nat.reduceSub, Nat.reduceAdd, Nat.reduceLeDiff, Nat.reduceEqDiff, Nat.reduceBEq, Nat.reduceLT]
    refine wpC_split rfl rfl (fun h => ?_) (fun h => ?_) <;> simp -implicitDefEqProofs only [go_sem, Nat.reduceSub, Nat.reduceAdd, Nat.reduceLeDiff, Nat.reduceEqDiff, Nat.reduceBEq, Nat.reduceLT]
    · rw [iLt_true, rLen_eq, List.length_map] at h
      obtain ⟨x, hx⟩ : ∃ x, a[i]? = some x := ⟨_, List.getElem?_eq_getElem (by omega)⟩
      obtain ⟨y, hy⟩ : ∃ y, b[i]? = some y := ⟨_, List.getElem?_eq_getElem (by omega)⟩
      have e : wAdd .i64 (i : Int) 1 = ((i + 1 : Nat) : Int) := by rw [wAdd_i64] <;> omega
      refine go ?_; simp -implicitDefEqProofs only [go_sem, Nat.reduceSub, Nat.reduceAdd, Nat.reduceLeDiff, Nat.reduceEqDiff, Nat.reduceBEq, Nat.reduceLT, Eqn.iaddr hx]
      refine newCells_intro fun i1 h1 => ?_; simp -implicitDefEqProofs only [go_sem, Nat.reduceSub, Nat.reduceAdd, Nat.reduceLeDiff, Nat.reduceEqDiff, Nat.reduceBEq, Nat.reduceLT]
      refine go ?_; simp -implicitDefEqProofs only [go_sem, Nat.reduceSub, Nat.reduceAdd, Nat.reduceLeDiff, Nat.reduceEqDiff, Nat.reduceBEq, Nat.reduceLT, Eqn.iaddr hy]
      refine newCells_intro fun i2 h2 => ?_; simp -implicitDefEqProofs only [go_sem, Nat.reduceSub, Nat.reduceAdd, Nat.reduceLeDiff, Nat.reduceEqDiff, Nat.reduceBEq, Nat.reduceLT]
      have k1 := upd_old (o' := .cells y.cells) (Hp.upd_same H' i1 (.cells x.cells)) h2
      refine go ?_; simp -implicitDefEqProofs only [go_sem, Nat.reduceSub, Nat.reduceAdd, Nat.reduceLeDiff, Nat.reduceEqDiff, Nat.reduceBEq, Nat.reduceLT, k1, Eqn.take_all]
      refine PureCall.step (hg x (List.mem_of_getElem? hx) y) ?_; simp -implicitDefEqProofs only [go_sem, Nat.reduceSub, Nat.reduceAdd, Nat.reduceLeDiff, Nat.reduceEqDiff, Nat.reduceBEq, Nat.reduceLT]
      have hle2 := le_new (le_new hle h1 (.cells x.cells)) h2 (.cells y.cells)
      repeat' (first | (refine wpC_split rfl rfl (fun h => ?_) (fun h => ?_) <;> (try simp -implicitDefEqProofs only [go_sem, Nat.reduceSub, Nat.reduceAdd, Nat.reduceLeDiff, Nat.reduceEqDiff, Nat.reduceBEq, Nat.reduceLT, h])) | (refine plan_split rfl rfl (fun h => ?_) (fun h => ?_) <;> simp -implicitDefEqProofs only [go_sem, Nat.reduceSub, Nat.reduceAdd, Nat.reduceLeDiff, Nat.reduceEqDiff, Nat.reduceBEq, Nat.reduceLT, h]) | (refine planD_split rfl rfl (fun h => ?_) (fun h => ?_) <;> simp -implicitDefEqProofs only [go_sem, Nat.reduceSub, Nat.reduceAdd, Nat.reduceLeDiff, Nat.reduceEqDiff, Nat.reduceBEq, Nat.reduceLT, h]) | (refine go ?_; try simp -implicitDefEqProofs only [go_sem, Nat.reduceSub, Nat.reduceAdd, Nat.reduceLeDiff, Nat.reduceEqDiff, Nat.reduceBEq, Nat.reduceLT]) | ((with_reducible refine wpC_id ?_); simp -implicitDefEqProofs only [go_sem, Nat.reduceSub, Nat.reduceAdd, Nat.reduceLeDiff, Nat.reduceEqDiff, Nat.reduceBEq, Nat.reduceLT]) | ((with_reducible first | refine quiet_id ?_ | refine wrote_id ?_ | refine resQ_id ?_); simp -implicitDefEqProofs only [go_sem, Nat.reduceSub, Nat.reduceAdd, Nat.reduceLeDiff, Nat.reduceEqDiff, Nat.reduceBEq, Nat.reduceLT]) | fail)
      · have h3 := bNot_true.1 h
        refine endB hle2 ?_
        rw [dE_false.2]
        intro e'; rw [e', hy] at hx
        exact absurd (Option.some.inj hx).symm (dE_false.1 h3)
      · have h3 := dE_true.1 (bNot_false.1 h)
        exact ⟨n - 1, by omega, i + 1, _, by omega, take_step hall hx hy h3, hle2, by rw [e]⟩
    · rw [iLt_false, rLen_eq, List.length_map] at h
      have h1 : i = a.length := by omega
      subst h1
      have := take_eq_all hlen hall
      repeat' (first | (refine wpC_split rfl rfl (fun h => ?_) (fun h => ?_) <;> (try simp -implicitDefEqProofs only [go_sem, Nat.reduceSub, Nat.reduceAdd, Nat.reduceLeDiff, Nat.reduceEqDiff, Nat.reduceBEq, Nat.reduceLT, h])) | (refine plan_split rfl rfl (fun h => ?_) (fun h => ?_) <;> simp -implicitDefEqProofs only [go_sem, Nat.reduceSub, Nat.reduceAdd, Nat.reduceLeDiff, Nat.reduceEqDiff, Nat.reduceBEq, Nat.reduceLT, h]) | (refine planD_split rfl rfl (fun h => ?_) (fun h => ?_) <;> simp -implicitDefEqProofs only [go_sem, Nat.reduceSub, Nat.reduceAdd, Nat.reduceLeDiff, Nat.reduceEqDiff, Nat.reduceBEq, Nat.reduceLT, h]) | (refine go ?_; try simp -implicitDefEqProofs only [go_sem, Nat.reduceSub, Nat.reduceAdd, Nat.reduceLeDiff, Nat.reduceEqDiff, Nat.reduceBEq, Nat.reduceLT]) | ((with_reducible refine wpC_id ?_); simp -implicitDefEqProofs only [go_sem, Nat.reduceSub, Nat.reduceAdd, Nat.reduceLeDiff, Nat.reduceEqDiff, Nat.reduceBEq, Nat.reduceLT]) | ((with_reducible first | refine quiet_id ?_ | refine wrote_id ?_ | refine resQ_id ?_); simp -implicitDefEqProofs only [go_sem, Nat.reduceSub, Nat.reduceAdd, Nat.reduceLeDiff, Nat.reduceEqDiff, Nat.reduceBEq, Nat.reduceLT]) | fail)
      exact endB hle (by rw [dE_true.2 this])

theorem eqfBinder_pure {O : Cfg} (a b : List Bi) (ha : a.length ≤ 140737488355328) (g : FuncId) (hg : ∀ x ∈ a, ∀ y, PureCall O g [.agg x.cells, .agg y.cells] (.bool (dE x y))) :
    PureCall O f_eqfBinder [.sl (a.map Bi.cells) .no, .sl (b.map Bi.cells) .no, .func (.func g) [] []] (.bool (dE a b)) := by
  refine entryF h_eqfBinder rfl fun H => ?_
  simp -implicitDefEqProofs only [go_sem, Nat.reduceSub, Nat.reduceAdd, Nat.reduceLeDiff, Nat.reduceEqDiff, Nat.reduceBEq, Nat.reduceLT, c_eqfBinder]
  refine AC.cut (fun st => a.length = b.length ∧ st = ⟨mk 32 [(0, .sl (a.map Bi.cells) .no), (1, .sl (b.map Bi.cells) .no), (2, .func (.func g) [] [])], H, []⟩) ?_ ?_
  · repeat' (first | (refine wpC_split rfl rfl (fun h => ?_) (fun h => ?_) <;> (try simp -implicitDefEqProofs only [go_sem, Nat.reduceSub, Nat.reduceAdd, Nat.reduceLeDiff, Nat.reduceEqDiff, Nat.reduceBEq, Nat.reduceLT, h])) | (refine plan_split rfl rfl (fun h => ?_) (fun h => ?_) <;> simp -implicitDefEqProofs only [go_sem, Nat.reduceSub, Nat.reduceAdd, Nat.reduceLeDiff, Nat.reduceEqDiff, Nat.reduceBEq, Nat.reduceLT, h]) | (refine planD_split rfl rfl (fun h => ?_) (fun h => ?_) <;> simp -implicitDefEqProofs only [go_sem, Nat.reduceSub, Nat.reduceAdd, Nat.reduceLeDiff, Nat.reduceEqDiff, Nat.reduceBEq, Nat.reduceLT, h]) | (refine go ?_; try simp -implicitDefEqProofs only [go_sem, Nat.reduceSub, Nat.reduceAdd, Nat.reduceLeDiff, Nat.reduceEqDiff, Nat.reduceBEq, Nat.reduceLT]) | ((with_reducible refine wpC_id ?_); simp -implicitDefEqProofs only [go_sem, Nat.reduceSub, Nat.reduceAdd, Nat.reduceLeDiff, Nat.reduceEqDiff, Nat.reduceBEq, Nat.reduceLT]) | ((with_reducible first | refine quiet_id ?_ | refine wrote_id ?_ | refine resQ_id ?_); simp -implicitDefEqProofs only [go_sem, Nat.reduceSub, Nat.reduceAdd, Nat.reduceLeDiff, Nat.reduceEqDiff, Nat.reduceBEq, Nat.reduceLT]) | fail)
    · have h1 := iEq_false.1 (bNot_true.1 h)
      rw [rLen_eq, rLen_eq, List.length_map, List.length_map] at h1
      refine endB (le_self _) ?_
      rw [dE_false.2]; intro e; rw [e] at h1; exact h1 rfl
    · have h1 := iEq_true.1 (bNot_false.1 h)
      rw [rLen_eq, rLen_eq, List.length_map, List.length_map] at h1
      omega
  · rintro _ ⟨hlen, rfl⟩
    refine go ?_; simp -implicitDefEqProofs only [go_sem, Nat.reduceSub, Nat.reduceAdd, Nat.reduceLeDiff, Nat.reduceEqDiff, Nat.reduceBEq, Nat.reduceLT]
    refine go ?_; simp -implicitDefEqProofs only [go_sem, Nat.reduceSub, Nat.reduceAdd, Nat.reduceLeDiff, Nat.reduceEqDiff, Nat.reduceBEq, Nat.reduceLT]
    rw [wpC_loop]
    refine AC.loop (fun n st => ∃ (i : Nat) (H' : Hp), i + n = a.length ∧ a.take i = b.take i ∧ H.le H' ∧ st = ⟨mk 32 [(1, .sl (b.map Bi.cells) .no), (2, .func (.func g) [] []), (15, .sl (a.map Bi.cells) .no), (16, .int .i64 (rLen (a.map Bi.cells))), (17, .int .i64 i)], H', []⟩) a.length ⟨0, H, by omega, rfl, le_self _, rfl⟩ ?_
    rintro n _ ⟨i, H', hi, hall, hle, rfl⟩
    simp -implicitDefEqProofs only [go_sem, Nat.reduceSub, Nat.reduceAdd, Nat.reduceLeDiff, Nat.reduceEqDiff, Nat.reduceBEq, Nat.reduceLT, l_eqfBinder_0]
    refine go ?_; simp -implicitDefEqProofs only [go_sem, Nat.reduceSub, Nat.reduceAdd, Nat.reduceLeDiff, Nat.reduceEqDiff, Nat.reduceBEq, Nat.reduceLT]
    refine go ?_; simp -implicitDefEqProofs only [go_sem, Nat.reduceSub, Nat.reduceAdd, Nat.reduceLeDiff, Nat.reduceEqDiff, Nat.reduceBEq, Nat.reduceLT]
    refine wpC_split rfl rfl (fun h => ?_) (fun h => ?_) <;> simp -implicitDefEqProofs only [go_sem, Nat.reduceSub, Nat.reduceAdd, Nat.reduceLeDiff, Nat.reduceEqDiff, Nat.reduceBEq, Nat.reduceLT]
    · rw [iLt_true, rLen_eq, List.length_map] at h
      obtain ⟨x, hx⟩ : ∃ x, a[i]? = some x := ⟨_, List.getElem?_eq_getElem (by omega)⟩
      obtain ⟨y, hy⟩ : ∃ y, b[i]? = some y := ⟨_, List.getElem?_eq_getElem (by omega)⟩
      have e : wAdd .i64 (i : Int) 1 = ((i + 1 : Nat) : Int) := by rw [wAdd_i64] <;> omega
      refine go ?_; simp -implicitDefEqProofs only [go_sem, Nat.reduceSub, Nat.reduceAdd, Nat.reduceLeDiff, Nat.reduceEqDiff, Nat.reduceBEq, Nat.reduceLT, Bi.iaddr hx]
      refine newCells_intro fun i1 h1 => ?_; simp -implicitDefEqProofs only [go_sem, Nat.reduceSub, Nat.reduceAdd, Nat.reduceLeDiff, Nat.reduceEqDiff, Nat.reduceBEq, Nat.reduceLT]
      refine go ?_; simp -implicitDefEqProofs only [go_sem, Nat.reduceSub, Nat.reduceAdd, Nat.reduceLeDiff, Nat.reduceEqDiff, Nat.reduceBEq, Nat.reduceLT, Bi.iaddr hy]
      refine newCells_intro fun i2 h2 => ?_; simp -implicitDefEqProofs only [go_sem, Nat.reduceSub, Nat.reduceAdd, Nat.reduceLeDiff, Nat.reduceEqDiff, Nat.reduceBEq, Nat.reduceLT]
      have k1 := upd_old (o' := .cells y.cells) (Hp.upd_same H' i1 (.cells x.cells)) h2
      refine go ?_; simp -implicitDefEqProofs only [go_sem, Nat.reduceSub, Nat.reduceAdd, Nat.reduceLeDiff, Nat.reduceEqDiff, Nat.reduceBEq, Nat.reduceLT, k1, Bi.take_all]
      refine PureCall.step (hg x (List.mem_of_getElem? hx) y) ?_; simp -implicitDefEqProofs only [go_sem, Nat.reduceSub, Nat.reduceAdd, Nat.reduceLeDiff, Nat.reduceEqDiff, Nat.reduceBEq, Nat.reduceLT]
      have hle2 := le_new (le_new hle h1 (.cells x.cells)) h2 (.cells y.cells)
      repeat' (first | (refine wpC_split rfl rfl (fun h => ?_) (fun h => ?_) <;> (try simp -implicitDefEqProofs only [go_sem, Nat.reduceSub, Nat.reduceAdd, Nat.reduceLeDiff, Nat.reduceEqDiff, Nat.reduceBEq, Nat.reduceLT, h])) | (refine plan_split rfl rfl (fun h => ?_) (fun h => ?_) <;> simp -implicitDefEqProofs only [go_sem, Nat.reduceSub, Nat.reduceAdd, Nat.reduceLeDiff, Nat.reduceEqDiff, Nat.reduceBEq, Nat.reduceLT, h]) | (refine planD_split rfl rfl (fun h => ?_) (fun h => ?_) <;> simp -implicitDefEqProofs only [go_sem, Nat.reduceSub, Nat.reduceAdd, Nat.reduceLeDiff, Nat.reduceEqDiff, Nat.reduceBEq, Nat.reduceLT, h]) | (refine go ?_; try simp -implicitDefEqProofs only [go_sem, Nat.reduceSub, Nat.reduceAdd, Nat.reduceLeDiff, Nat.reduceEqDiff, Nat.reduceBEq, Nat.reduceLT]) | ((with_reducible refine wpC_id ?_); simp -implicitDefEqProofs only [go_sem, Nat.reduceSub, Nat.reduceAdd, Nat.reduceLeDiff, Nat.reduceEqDiff, Nat.reduceBEq, Nat.reduceLT]) | ((with_reducible first | refine quiet_id ?_ | refine wrote_id ?_ | refine resQ_id ?_); simp -implicitDefEqProofs only [go_sem, Nat.reduceSub, Nat.reduceAdd, Nat.reduceLeDiff, Nat.reduceEqDiff, Nat.reduceBEq, Nat.reduceLT]) | fail)
      · have h3 := bNot_true.1 h
        refine endB hle2 ?_
        rw [dE_false.2]
        intro e'; rw [e', hy] at hx
        exact absurd (Option.some.inj hx).symm (dE_false.1 h3)
      · have h3 := dE_true.1 (bNot_false.1 h)
        exact ⟨n - 1, by omega, i + 1, _, by omega, take_step hall hx hy h3, hle2, by rw [e]⟩
    · rw [iLt_false, rLen_eq, List.length_map] at h
      have h1 : i = a.length := by omega
      subst h1
      have := take_eq_all hlen hall
      repeat' (first | (refine wpC_split rfl rfl (fun h => ?_) (fun h => ?_) <;> (try simp -implicitDefEqProofs only [go_sem, Nat.reduceSub, Nat.reduceAdd, Nat.reduceLeDiff, Nat.reduceEqDiff, Nat.reduceBEq, Nat.reduceLT, h])) | (refine plan_split rfl rfl (fun h => ?_) (fun h => ?_) <;> simp -implicitDefEqProofs only [go_sem, Nat.reduceSub, Nat.reduceAdd, Nat.reduceLeDiff, Nat.reduceEqDiff, Nat.reduceBEq, Nat.reduceLT, h]) | (refine planD_split rfl rfl (fun h => ?_) (fun h => ?_) <;> simp -implicitDefEqProofs only [go_sem, Nat.reduceSub, Nat.reduceAdd, Nat.reduceLeDiff, Nat.reduceEqDiff, Nat.reduceBEq, Nat.reduceLT, h]) | (refine go ?_; try simp -implicitDefEqProofs only [go_sem, Nat.reduceSub, Nat.reduceAdd, Nat.reduceLeDiff, Nat.reduceEqDiff, Nat.reduceBEq, Nat.reduceLT]) | ((with_reducible refine wpC_id ?_); simp -implicitDefEqProofs only [go_sem, Nat.reduceSub, Nat.reduceAdd, Nat.reduceLeDiff, Nat.reduceEqDiff, Nat.reduceBEq, Nat.reduceLT]) | ((with_reducible first | refine quiet_id ?_ | refine wrote_id ?_ | refine resQ_id ?_); simp -implicitDefEqProofs only [go_sem, Nat.reduceSub, Nat.reduceAdd, Nat.reduceLeDiff, Nat.reduceEqDiff, Nat.reduceBEq, Nat.reduceLT]) | fail)
      exact endB hle (by rw [dE_true.2 this])

theorem eqfDep_pure {O : Cfg} (a b : List Dp) (ha : a.length ≤ 140737488355328) (g : FuncId) (hg : ∀ x ∈ a, ∀ y, PureCall O g [.agg x.cells, .agg y.cells] (.bool (dE x y))) :
    PureCall O f_eqfDep [.sl (a.map Dp.cells) .no, .sl (b.map Dp.cells) .no, .func (.func g) [] []] (.bool (dE a b)) := by
  refine entryF h_eqfDep rfl fun H => ?_
  simp -implicitDefEqProofs only [go_sem, Nat.reduceSub, Nat.reduceAdd, Nat.reduceLeDiff, Nat.reduceEqDiff, Nat.reduceBEq, Nat.reduceLT, c_eqfDep]
  refine AC.cut (fun st => a.length = b.length ∧ st = ⟨mk 32 [(0, .sl (a.map Dp.cells) .no), (1, .sl (b.map Dp.cells) .no), (2, .func (.func g) [] [])], H, []⟩) ?_ ?_
  · repeat' (first | (refine wpC_split rfl rfl (fun h => ?_) (fun h => ?_) <;> (try simp -implicitDefEqProofs only [go_sem, Nat.reduceSub, Nat.reduceAdd, Nat.reduceLeDiff, Nat.reduceEqDiff, Nat.reduceBEq, Nat.reduceLT, h])) | (refine plan_split rfl rfl (fun h => ?_) (fun h => ?_) <;> simp -implicitDefEqProofs only [go_sem, Nat.reduceSub, Nat.reduceAdd, Nat.reduceLeDiff, Nat.reduceEqDiff, Nat.reduceBEq, Nat.reduceLT, h]) | (refine planD_split rfl rfl (fun h => ?_) (fun h => ?_) <;> simp -implicitDefEqProofs only [go_sem, Nat.reduceSub, Nat.reduceAdd, Nat.reduceLeDiff, Nat.reduceEqDiff, Nat.reduceBEq, Nat.reduceLT, h]) | (refine go ?_; try simp -implicitDefEqProofs only [go_sem, Nat.reduceSub, Nat.reduceAdd, Nat.reduceLeDiff, Nat.reduceEqDiff, Nat.reduceBEq, Nat.reduceLT]) | ((with_reducible refine wpC_id ?_); simp -implicitDefEqProofs only [go_sem, Nat.reduceSub, Nat.reduceAdd, Nat.reduceLeDiff, Nat.reduceEqDiff, Nat.reduceBEq, Nat.reduceLT]) | ((with_reducible first | refine quiet_id ?_ | refine wrote_id ?_ | refine resQ_id ?_); simp -implicitDefEqProofs only [go_sem, Nat.reduceSub, Nat.reduceAdd, Nat.reduceLeDiff, Nat.reduceEqDiff, Nat.reduceBEq, Nat.reduceLT]) | fail)
    · have h1 := iEq_false.1 (bNot_true.1 h)
      rw [rLen_eq, rLen_eq, List.length_map, List.length_map] at h1
      refine endB (le_self _) ?_
      rw [dE_false.2]; intro e; rw [e] at h1; exact h1 rfl
    · have h1 := iEq_true.1 (bNot_false.1 h)
      rw [rLen_eq, rLen_eq, List.length_map, List.length_map] at h1
      omega
  · rintro _ ⟨hlen, rfl⟩
    refine go ?_; simp -implicitDefEqProofs only [go_sem, Nat.reduceSub, Nat.reduceAdd, Nat.reduceLeDiff, Nat.reduceEqDiff, Nat.reduceBEq, Nat.reduceLT]
    refine go ?_; simp -implicitDefEqProofs only [go_sem, Nat.reduceSub, Nat.reduceAdd, Nat.reduceLeDiff, Nat.reduceEqDiff, Nat.reduceBEq, Nat.reduceLT]
    rw [wpC_loop]
    refine AC.loop (fun n st => ∃ (i : Nat) (H' : Hp), i + n = a.length ∧ a.take i = b.take i ∧ H.le H' ∧ st = ⟨mk 32 [(1, .sl (b.map Dp.cells) .no), (2, .func (.func g) [] []), (15, .sl (a.map Dp.cells) .no), (16, .int .i64 (rLen (a.map Dp.cells))), (17, .int .i64 i)], H', []⟩) a.length ⟨0, H, by omega, rfl, le_self _, rfl⟩ ?_
    rintro n _ ⟨i, H', hi, hall, hle, rfl⟩
    simp -implicitDefEqProofs only [go_sem, Nat.reduceSub, Nat.reduceAdd, Nat.reduceLeDiff, Nat.reduceEqDiff, Nat.reduceBEq, Nat.reduceLT, l_eqfDep_0]
    refine go ?_; simp -implicitDefEqProofs only [go_sem, Nat.reduceSub, Nat.reduceAdd, Nat.reduceLeDiff, Nat.reduceEqDiff, Nat.reduceBEq, Nat.reduceLT]
    refine go ?_; simp -implicitDefEqProofs only [go_sem, Nat.reduceSub, Nat.reduceAdd, Nat.reduceLeDiff, Nat.reduceEqDiff, Nat.reduceBEq, Nat.reduceLT]
    refine wpC_split rfl rfl (fun h => ?_) (fun h => ?_) <;> simp -implicitDefEqProofs only [go_sem, Nat.reduceSub, Nat.reduceAdd, Nat.reduceLeDiff, Nat.reduceEqDiff, Nat.reduceBEq, Nat.reduceLT]
    · rw [iLt_true, rLen_eq, List.length_map] at h
      obtain ⟨x, hx⟩ : ∃ x, a[i]? = some x := ⟨_, List.getElem?_eq_getElem (by omega)⟩
      obtain ⟨y, hy⟩ : ∃ y, b[i]? = some y := ⟨_, List.getElem?_eq_getElem (by omega)⟩
      have e : wAdd .i64 (i : Int) 1 = ((i + 1 : Nat) : Int) := by rw [wAdd_i64] <;> omega
      refine go ?_; simp -implicitDefEqProofs only [go_sem, Nat.reduceSub, Nat.reduceAdd, Nat.reduceLeDiff, Nat.reduceEqDiff, Nat.reduceBEq, Nat.reduceLT, Dp.iaddr hx]
      refine newCells_intro fun i1 h1 => ?_; simp -implicitDefEqProofs only [go_sem, Nat.reduceSub, Nat.reduceAdd, Nat.reduceLeDiff, Nat.reduceEqDiff, Nat.reduceBEq, Nat.reduceLT]
      refine go ?_; simp -implicitDefEqProofs only [go_sem, Nat.reduceSub, Nat.reduceAdd, Nat.reduceLeDiff, Nat.reduceEqDiff, Nat.reduceBEq, Nat.reduceLT, Dp.iaddr hy]
      refine newCells_intro fun i2 h2 => ?_; simp -implicitDefEqProofs only [go_sem, Nat.reduceSub, Nat.reduceAdd, Nat.reduceLeDiff, Nat.reduceEqDiff, Nat.reduceBEq, Nat.reduceLT]
      have k1 := upd_old (o' := .cells y.cells) (Hp.upd_same H' i1 (.cells x.cells)) h2
      refine go ?_; simp -implicitDefEqProofs only [go_sem, Nat.reduceSub, Nat.reduceAdd, Nat.reduceLeDiff, Nat.reduceEqDiff, Nat.reduceBEq, Nat.reduceLT, k1, Dp.take_all]
      refine PureCall.step (hg x (List.mem_of_getElem? hx) y) ?_; simp -implicitDefEqProofs only [go_sem, Nat.reduceSub, Nat.reduceAdd, Nat.reduceLeDiff, Nat.reduceEqDiff, Nat.reduceBEq, Nat.reduceLT]
      have hle2 := le_new (le_new hle h1 (.cells x.cells)) h2 (.cells y.cells)
      repeat' (first | (refine wpC_split rfl rfl (fun h => ?_) (fun h => ?_) <;> (try simp -implicitDefEqProofs only [go_sem, Nat.reduceSub, Nat.reduceAdd, Nat.reduceLeDiff, Nat.reduceEqDiff, Nat.reduceBEq, Nat.reduceLT, h])) | (refine plan_split rfl rfl (fun h => ?_) (fun h => ?_) <;> simp -implicitDefEqProofs only [go_sem, Nat.reduceSub, Nat.reduceAdd, Nat.reduceLeDiff, Nat.reduceEqDiff, Nat.reduceBEq, Nat.reduceLT, h]) | (refine planD_split rfl rfl (fun h => ?_) (fun h => ?_) <;> simp -implicitDefEqProofs only [go_sem, Nat.reduceSub, Nat.reduceAdd, Nat.reduceLeDiff, Nat.reduceEqDiff, Nat.reduceBEq, Nat.reduceLT, h]) | (refine go ?_; try simp -implicitDefEqProofs only [go_sem, Nat.reduceSub, Nat.reduceAdd, Nat.reduceLeDiff, Nat.reduceEqDiff, Nat.reduceBEq, Nat.reduceLT]) | ((with_reducible refine wpC_id ?_); simp -implicitDefEqProofs only [go_sem, Nat.reduceSub, Nat.reduceAdd, Nat.reduceLeDiff, Nat.reduceEqDiff, Nat.reduceBEq, Nat.reduceLT]) | ((with_reducible first | refine quiet_id ?_ | refine wrote_id ?_ | refine resQ_id ?_); simp -implicitDefEqProofs only [go_sem, Nat.reduceSub, Nat.reduceAdd, Nat.reduceLeDiff, Nat.reduceEqDiff, Nat.reduceBEq, Nat.reduceLT]) | fail)
      · have h3 := bNot_true.1 h
        refine endB hle2 ?_
        rw [dE_false.2]
        intro e'; rw [e', hy] at hx
        exact absurd (Option.some.inj hx).symm (dE_false.1 h3)
      · have h3 := dE_true.1 (bNot_false.1 h)
        exact ⟨n - 1, by omega, i + 1, _, by omega, take_step hall hx hy h3, hle2, by rw [e]⟩
    · rw [iLt_false, rLen_eq, List.length_map] at h
      have h1 : i = a.length := by omega
      subst h1
      have := take_eq_all hlen hall
      repeat' (first | (refine wpC_split rfl rfl (fun h => ?_) (fun h => ?_) <;> (try simp -implicitDefEqProofs only [go_sem, Nat.reduceSub, Nat.reduceAdd, Nat.reduceLeDiff, Nat.reduceEqDiff, Nat.reduceBEq, Nat.reduceLT, h])) | (refine plan_split rfl rfl (fun h => ?_) (fun h => ?_) <;> simp -implicitDefEqProofs only [go_sem, Nat.reduceSub, Nat.reduceAdd, Nat.reduceLeDiff, Nat.reduceEqDiff, Nat.reduceBEq, Nat.reduceLT, h]) | (refine planD_split rfl rfl (fun h => ?_) (fun h => ?_) <;> simp -implicitDefEqProofs only [go_sem, Nat.reduceSub, Nat.reduceAdd, Nat.reduceLeDiff, Nat.reduceEqDiff, Nat.reduceBEq, Nat.reduceLT, h]) | (refine go ?_; try simp -implicitDefEqProofs only [go_sem, Nat.reduceSub, Nat.reduceAdd, Nat.reduceLeDiff, Nat.reduceEqDiff, Nat.reduceBEq, Nat.reduceLT]) | ((with_reducible refine wpC_id ?_); simp -implicitDefEqProofs only [go_sem, Nat.reduceSub, Nat.reduceAdd, Nat.reduceLeDiff, Nat.reduceEqDiff, Nat.reduceBEq, Nat.reduceLT]) | ((with_reducible first | refine quiet_id ?_ | refine wrote_id ?_ | refine resQ_id ?_); simp -implicitDefEqProofs only [go_sem, Nat.reduceSub, Nat.reduceAdd, Nat.reduceLeDiff, Nat.reduceEqDiff, Nat.reduceBEq, Nat.reduceLT]) | fail)
      exact endB hle (by rw [dE_true.2 this])

theorem eqfSig_pure {O : Cfg} (a b : List Sg) (ha : a.length ≤ 140737488355328) (g : FuncId) (hg : ∀ x ∈ a, ∀ y, PureCall O g [.agg x.cells, .agg y.cells] (.bool (dE x y))) :
    PureCall O f_eqfSig [.sl (a.map Sg.cells) .no, .sl (b.map Sg.cells) .no, .func (.func g) [] []] (.bool (dE a b)) := by
  refine entryF h_eqfSig rfl fun H => ?_
  simp -implicitDefEqProofs only [go_sem, Nat.reduceSub, Nat.reduceAdd, Nat.reduceLeDiff, Nat.reduceEqDiff, Nat.reduceBEq, Nat.reduceLT, c_eqfSig]
  refine AC.cut (fun st => a.length = b.length ∧ st = ⟨mk 32 [(0, .sl (a.map Sg.cells) .no), (1, .sl (b.map Sg.cells) .no), (2, .func (.func g) [] [])], H, []⟩) ?_ ?_
  · repeat' (first | (refine wpC_split rfl rfl (fun h => ?_) (fun h => ?_) <;> (try simp -implicitDefEqProofs only [go_sem, Nat.reduceSub, Nat.reduceAdd, Nat.reduceLeDiff, Nat.reduceEqDiff, Nat.reduceBEq, Nat.reduceLT, h])) | (refine plan_split rfl rfl (fun h => ?_) (fun h => ?_) <;> simp -implicitDefEqProofs only [go_sem, Nat.reduceSub, Nat.reduceAdd, Nat.reduceLeDiff, Nat.reduceEqDiff, Nat.reduceBEq, Nat.reduceLT, h]) | (refine planD_split rfl rfl (fun h => ?_) (fun h => ?_) <;> simp -implicitDefEqProofs only [go_sem, Nat.reduceSub, Nat.reduceAdd, Nat.reduceLeDiff, Nat.reduceEqDiff, Nat.reduceBEq, Nat.reduceLT, h]) | (refine go ?_; try simp -implicitDefEqProofs only [go_sem, Nat.reduceSub, Nat.reduceAdd, Nat.reduceLeDiff, Nat.reduceEqDiff, Nat.reduceBEq, Nat.reduceLT]) | ((with_reducible refine wpC_id ?_); simp -implicitDefEqProofs only [go_sem, Nat.reduceSub, Nat.reduceAdd, Nat.reduceLeDiff, Nat.reduceEqDiff, Nat.reduceBEq, Nat.reduceLT]) | ((with_reducible first | refine quiet_id ?_ | refine wrote_id ?_ | refine resQ_id ?_); simp -implicitDefEqProofs only [go_sem, Nat.reduceSub, Nat.reduceAdd, Nat.reduceLeDiff, Nat.reduceEqDiff, Nat.reduceBEq, Nat.reduceLT]) | fail)
    · have h1 := iEq_false.1 (bNot_true.1 h)
      rw [rLen_eq, rLen_eq, List.length_map, List.length_map] at h1
      refine endB (le_self _) ?_
      rw [dE_false.2]; intro e; rw [e] at h1; exact h1 rfl
    · have h1 := iEq_true.1 (bNot_false.1 h)
      rw [rLen_eq, rLen_eq, List.length_map, List.length_map] at h1
      omega
  · rintro _ ⟨hlen, rfl⟩
    refine go ?_; simp -implicitDefEqProofs only [go_sem, Nat.reduceSub, Nat.reduceAdd, Nat.reduceLeDiff, Nat.reduceEqDiff, Nat.reduceBEq, Nat.reduceLT]
    refine go ?_; simp -implicitDefEqProofs only [go_sem, Nat.reduceSub, Nat.reduceAdd, Nat.reduceLeDiff, Nat.reduceEqDiff, Nat.reduceBEq, Nat.reduceLT]
    rw [wpC_loop]
    refine AC.loop (fun n st => ∃ (i : Nat) (H' : Hp), i + n = a.length ∧ a.take i = b.take i ∧ H.le H' ∧ st = ⟨mk 32 [(1, .sl (b.map Sg.cells) .no), (2, .func (.func g) [] []), (15, .sl (a.map Sg.cells) .no), (16, .int .i64 (rLen (a.map Sg.cells))), (17, .int .i64 i)], H', []⟩) a.length ⟨0, H, by omega, rfl, le_self _, rfl⟩ ?_
    rintro n _ ⟨i, H', hi, hall, hle, rfl⟩
    simp -implicitDefEqProofs only [go_sem, Nat.reduceSub, Nat.reduceAdd, Nat.reduceLeDiff, Nat.reduceEqDiff, Nat.reduceBEq, Nat.reduceLT, l_eqfSig_0]
    refine go ?_; simp -implicitDefEqProofs only [go_sem, Nat.reduceSub, Nat.reduceAdd, Nat.reduceLeDiff, Nat.reduceEqDiff, Nat.reduceBEq, Nat.reduceLT]
    refine go ?_; simp -implicitDefEqProofs only [go_sem, Nat.reduceSub, Nat.reduceAdd, Nat.reduceLeDiff, Nat.reduceEqDiff, Nat.reduceBEq, Nat.reduceLT]
    refine wpC_split rfl rfl (fun h => ?_) (fun h => ?_) <;> simp -implicitDefEqProofs only [go_sem, Nat.reduceSub, Nat.reduceAdd, Nat.reduceLeDiff, Nat.reduceEqDiff, Nat.reduceBEq, Nat.reduceLT]
    · rw [iLt_true, rLen_eq, List.length_map] at h
      obtain ⟨x, hx⟩ : ∃ x, a[i]? = some x := ⟨_, List.getElem?_eq_getElem (by omega)⟩
      obtain ⟨y, hy⟩ : ∃ y, b[i]? = some y := ⟨_, List.getElem?_eq_getElem (by omega)⟩
      have e : wAdd .i64 (i : Int) 1 = ((i + 1 : Nat) : Int) := by rw [wAdd_i64] <;> omega
      refine go ?_; simp -implicitDefEqProofs only [go_sem, Nat.reduceSub, Nat.reduceAdd, Nat.reduceLeDiff, Nat.reduceEqDiff, Nat.reduceBEq, Nat.reduceLT, Sg.iaddr hx]
      refine newCells_intro fun i1 h1 => ?_; simp -implicitDefEqProofs only [go_sem, Nat.reduceSub, Nat.reduceAdd, Nat.reduceLeDiff, Nat.reduceEqDiff, Nat.reduceBEq, Nat.reduceLT]
      refine go ?_; simp -implicitDefEqProofs only [go_sem, Nat.reduceSub, Nat.reduceAdd, Nat.reduceLeDiff, Nat.reduceEqDiff, Nat.reduceBEq, Nat.reduceLT, Sg.iaddr hy]
      refine newCells_intro fun i2 h2 => ?_; simp -implicitDefEqProofs only [go_sem, Nat.reduceSub, Nat.reduceAdd, Nat.reduceLeDiff, Nat.reduceEqDiff, Nat.reduceBEq, Nat.reduceLT]
      have k1 := upd_old (o' := .cells y.cells) (Hp.upd_same H' i1 (.cells x.cells)) h2
      refine go ?_; simp -implicitDefEqProofs only [go_sem, Nat.reduceSub, Nat.reduceAdd, Nat.reduceLeDiff, Nat.reduceEqDiff, Nat.reduceBEq, Nat.reduceLT, k1, Sg.take_all]
      refine PureCall.step (hg x (List.mem_of_getElem? hx) y) ?_; simp -implicitDefEqProofs only [go_sem, Nat.reduceSub, Nat.reduceAdd, Nat.reduceLeDiff, Nat.reduceEqDiff, Nat.reduceBEq, Nat.reduceLT]
      have hle2 := le_new (le_new hle h1 (.cells x.cells)) h2 (.cells y.cells)
      repeat' (first | (refine wpC_split rfl rfl (fun h => ?_) (fun h => ?_) <;> (try simp -implicitDefEqProofs only [go_sem, Nat.reduceSub, Nat.reduceAdd, Nat.reduceLeDiff, Nat.reduceEqDiff, Nat.reduceBEq, Nat.reduceLT, h])) | (refine plan_split rfl rfl (fun h => ?_) (fun h => ?_) <;> simp -implicitDefEqProofs only [go_sem, Nat.reduceSub, Nat.reduceAdd, Nat.reduceLeDiff, Nat.reduceEqDiff, Nat.reduceBEq, Nat.reduceLT, h]) | (refine planD_split rfl rfl (fun h => ?_) (fun h => ?_) <;> simp -implicitDefEqProofs only [go_sem, Nat.reduceSub, Nat.reduceAdd, Nat.reduceLeDiff, Nat.reduceEqDiff, Nat.reduceBEq, Nat.reduceLT, h]) | (refine go ?_; try simp -implicitDefEqProofs only [go_sem, Nat.reduceSub, Nat.reduceAdd, Nat.reduceLeDiff, Nat.reduceEqDiff, Nat.reduceBEq, Nat.reduceLT]) | ((with_reducible refine wpC_id ?_); simp -implicitDefEqProofs only [go_sem, Nat.reduceSub, Nat.reduceAdd, Nat.reduceLeDiff, Nat.reduceEqDiff, Nat.reduceBEq, Nat.reduceLT]) | ((with_reducible first | refine quiet_id ?_ | refine wrote_id ?_ | refine resQ_id ?_); simp -implicitDefEqProofs only [go_sem, Nat.reduceSub, Nat.reduceAdd, Nat.reduceLeDiff, Nat.reduceEqDiff, Nat.reduceBEq, Nat.reduceLT]) | fail)
      · have h3 := bNot_true.1 h
        refine endB hle2 ?_
        rw [dE_false.2]
        intro e'; rw [e', hy] at hx
        exact absurd (Option.some.inj hx).symm (dE_false.1 h3)
      · have h3 := dE_true.1 (bNot_false.1 h)
        exact ⟨n - 1, by omega, i + 1, _, by omega, take_step hall hx hy h3, hle2, by rw [e]⟩
    · rw [iLt_false, rLen_eq, List.length_map] at h
      have h1 : i = a.length := by omega
      subst h1
      have := take_eq_all hlen hall
      repeat' (first | (refine wpC_split rfl rfl (fun h => ?_) (fun h => ?_) <;> (try simp -implicitDefEqProofs only [go_sem, Nat.reduceSub, Nat.reduceAdd, Nat.reduceLeDiff, Nat.reduceEqDiff, Nat.reduceBEq, Nat.reduceLT, h])) | (refine plan_split rfl rfl (fun h => ?_) (fun h => ?_) <;> simp -implicitDefEqProofs only [go_sem, Nat.reduceSub, Nat.reduceAdd, Nat.reduceLeDiff, Nat.reduceEqDiff, Nat.reduceBEq, Nat.reduceLT, h]) | (refine planD_split rfl rfl (fun h => ?_) (fun h => ?_) <;> simp -implicitDefEqProofs only [go_sem, Nat.reduceSub, Nat.reduceAdd, Nat.reduceLeDiff, Nat.reduceEqDiff, Nat.reduceBEq, Nat.reduceLT, h]) | (refine go ?_; try simp -implicitDefEqProofs only [go_sem, Nat.reduceSub, Nat.reduceAdd, Nat.reduceLeDiff, Nat.reduceEqDiff, Nat.reduceBEq, Nat.reduceLT]) | ((with_reducible refine wpC_id ?_); simp -implicitDefEqProofs only [go_sem, Nat.reduceSub, Nat.reduceAdd, Nat.reduceLeDiff, Nat.reduceEqDiff, Nat.reduceBEq, Nat.reduceLT]) | ((with_reducible first | refine quiet_id ?_ | refine wrote_id ?_ | refine resQ_id ?_); simp -implicitDefEqProofs only [go_sem, Nat.reduceSub, Nat.reduceAdd, Nat.reduceLeDiff, Nat.reduceEqDiff, Nat.reduceBEq, Nat.reduceLT]) | fail)
      exact endB hle (by rw [dE_true.2 this])

theorem eqfImport_pure {O : Cfg} (a b : List Im) (ha : a.length ≤ 140737488355328) (g : FuncId) (hg : ∀ x ∈ a, ∀ y, PureCall O g [.agg x.cells, .agg y.cells] (.bool (dE x y))) :
    PureCall O f_eqfImport [.sl (a.map Im.cells) .no, .sl (b.map Im.cells) .no, .func (.func g) [] []] (.bool (dE a b)) := by
  refine entryF h_eqfImport rfl fun H => ?_
  simp -implicitDefEqProofs only [go_sem, Nat.reduceSub, Nat.reduceAdd, Nat.reduceLeDiff, Nat.reduceEqDiff, Nat.reduceBEq, Nat.reduceLT, c_eqfImport]
  refine AC.cut (fun st => a.length = b.length ∧ st = ⟨mk 32 [(0, .sl (a.map Im.cells) .no), (1, .sl (b.map Im.cells) .no), (2, .func (.func g) [] [])], H, []⟩) ?_ ?_
  · repeat' (first | (refine wpC_split rfl rfl (fun h => ?_) (fun h => ?_) <;> (try simp -implicitDefEqProofs only [go_sem, Nat.reduceSub, Nat.reduceAdd, Nat.reduceLeDiff, Nat.reduceEqDiff, Nat.reduceBEq, Nat.reduceLT, h])) | (refine plan_split rfl rfl (fun h => ?_) (fun h => ?_) <;> simp -implicitDefEqProofs only [go_sem, Nat.reduceSub, Nat.reduceAdd, Nat.reduceLeDiff, Nat.reduceEqDiff, Nat.reduceBEq, Nat.reduceLT, h]) | (refine planD_split rfl rfl (fun h => ?_) (fun h => ?_) <;> simp -implicitDefEqProofs only [go_sem, Nat.reduceSub, Nat.reduceAdd, Nat.reduceLeDiff, Nat.reduceEqDiff, Nat.reduceBEq, Nat.reduceLT, h]) | (refine go ?_; try simp -implicitDefEqProofs only [go_sem, Nat.reduceSub, Nat.reduceAdd, Nat.reduceLeDiff, Nat.reduceEqDiff, Nat.reduceBEq, Nat.reduceLT]) | ((with_reducible refine wpC_id ?_); simp -implicitDefEqProofs only [go_sem, Nat.reduceSub, Nat.reduceAdd, Nat.reduceLeDiff, Nat.reduceEqDiff, Nat.reduceBEq, Nat.reduceLT]) | ((with_reducible first | refine quiet_id ?_ | refine wrote_id ?_ | refine resQ_id ?_); simp -implicitDefEqProofs only [go_sem, Nat.reduceSub, Nat.reduceAdd, Nat.reduceLeDiff, Nat.reduceEqDiff, Nat.reduceBEq, Nat.reduceLT]) | fail)
    · have h1 := iEq_false.1 (bNot_true.1 h)
      rw [rLen_eq, rLen_eq, List.length_map, List.length_map] at h1
      refine endB (le_self _) ?_
      rw [dE_false.2]; intro e; rw [e] at h1; exact h1 rfl
    · have h1 := iEq_true.1 (bNot_false.1 h)
      rw [rLen_eq, rLen_eq, List.length_map, List.length_map] at h1
      omega
  · rintro _ ⟨hlen, rfl⟩
    refine go ?_; simp -implicitDefEqProofs only [go_sem, Nat.reduceSub, Nat.reduceAdd, Nat.reduceLeDiff, Nat.reduceEqDiff, Nat.reduceBEq, Nat.reduceLT]
    refine go ?_; simp -implicitDefEqProofs only [go_sem, Nat.reduceSub, Nat.reduceAdd, Nat.reduceLeDiff, Nat.reduceEqDiff, Nat.reduceBEq, Nat.reduceLT]
    rw [wpC_loop]
    refine AC.loop (fun n st => ∃ (i : Nat) (H' : Hp), i + n = a.length ∧ a.take i = b.take i ∧ H.le H' ∧ st = ⟨mk 32 [(1, .sl (b.map Im.cells) .no), (2, .func (.func g) [] []), (15, .sl (a.map Im.cells) .no), (16, .int .i64 (rLen (a.map Im.cells))), (17, .int .i64 i)], H', []⟩) a.length ⟨0, H, by omega, rfl, le_self _, rfl⟩ ?_
    rintro n _ ⟨i, H', hi, hall, hle, rfl⟩
    simp -implicitDefEqProofs only [go_sem, Nat.reduceSub, Nat.reduceAdd, Nat.reduceLeDiff, Nat.reduceEqDiff, Nat.reduceBEq, Nat.reduceLT, l_eqfImport_0]
    refine go ?_; simp -implicitDefEqProofs only [go_sem, Nat.reduceSub, Nat.reduceAdd, Nat.reduceLeDiff, Nat.reduceEqDiff, Nat.reduceBEq, Nat.reduceLT]
    refine go ?_; simp -implicitDefEqProofs only [go_sem, Nat.reduceSub, Nat.reduceAdd, Nat.reduceLeDiff, Nat.reduceEqDiff, Nat.reduceBEq, Nat.reduceLT]
    refine wpC_split rfl rfl (fun h => ?_) (fun h => ?_) <;> simp -implicitDefEqProofs only [go_sem, Nat.reduceSub, Nat.reduceAdd, Nat.reduceLeDiff, Nat.reduceEqDiff, Nat.reduceBEq, Nat.reduceLT]
    · rw [iLt_true, rLen_eq, List.length_map] at h
      obtain ⟨x, hx⟩ : ∃ x, a[i]? = some x := ⟨_, List.getElem?_eq_getElem (by omega)⟩
      obtain ⟨y, hy⟩ : ∃ y, b[i]? = some y := ⟨_, List.getElem?_eq_getElem (by omega)⟩
      have e : wAdd .i64 (i : Int) 1 = ((i + 1 : Nat) : Int) := by rw [wAdd_i64] <;> omega
      refine go ?_; simp -implicitDefEqProofs only [go_sem, Nat.reduceSub, Nat.reduceAdd, Nat.reduceLeDiff, Nat.reduceEqDiff, Nat.reduceBEq, Nat.reduceLT, Im.iaddr hx]
      refine newCells_intro fun i1 h1 => ?_; simp -implicitDefEqProofs only [go_sem, Nat.reduceSub, Nat.reduceAdd, Nat.reduceLeDiff, Nat.reduceEqDiff, Nat.reduceBEq, Nat.reduceLT]
      refine go ?_; simp -implicitDefEqProofs only [go_sem, Nat.reduceSub, Nat.reduceAdd, Nat.reduceLeDiff, Nat.reduceEqDiff, Nat.reduceBEq, Nat.reduceLT, Im.iaddr hy]
      refine newCells_intro fun i2 h2 => ?_; simp -implicitDefEqProofs only [go_sem, Nat.reduceSub, Nat.reduceAdd, Nat.reduceLeDiff, Nat.reduceEqDiff, Nat.reduceBEq, Nat.reduceLT]
      have k1 := upd_old (o' := .cells y.cells) (Hp.upd_same H' i1 (.cells x.cells)) h2
      refine go ?_; simp -implicitDefEqProofs only [go_sem, Nat.reduceSub, Nat.reduceAdd, Nat.reduceLeDiff, Nat.reduceEqDiff, Nat.reduceBEq, Nat.reduceLT, k1, Im.take_all]
      refine PureCall.step (hg x (List.mem_of_getElem? hx) y) ?_; simp -implicitDefEqProofs only [go_sem, Nat.reduceSub, Nat.reduceAdd, Nat.reduceLeDiff, Nat.reduceEqDiff, Nat.reduceBEq, Nat.reduceLT]
      have hle2 := le_new (le_new hle h1 (.cells x.cells)) h2 (.cells y.cells)
      repeat' (first | (refine wpC_split rfl rfl (fun h => ?_) (fun h => ?_) <;> (try simp -implicitDefEqProofs only [go_sem, Nat.reduceSub, Nat.reduceAdd, Nat.reduceLeDiff, Nat.reduceEqDiff, Nat.reduceBEq, Nat.reduceLT, h])) | (refine plan_split rfl rfl (fun h => ?_) (fun h => ?_) <;> simp -implicitDefEqProofs only [go_sem, Nat.reduceSub, Nat.reduceAdd, Nat.reduceLeDiff, Nat.reduceEqDiff, Nat.reduceBEq, Nat.reduceLT, h]) | (refine planD_split rfl rfl (fun h => ?_) (fun h => ?_) <;> simp -implicitDefEqProofs only [go_sem, Nat.reduceSub, Nat.reduceAdd, Nat.reduceLeDiff, Nat.reduceEqDiff, Nat.reduceBEq, Nat.reduceLT, h]) | (refine go ?_; try simp -implicitDefEqProofs only [go_sem, Nat.reduceSub, Nat.reduceAdd, Nat.reduceLeDiff, Nat.reduceEqDiff, Nat.reduceBEq, Nat.reduceLT]) | ((with_reducible refine wpC_id ?_); simp -implicitDefEqProofs only [go_sem, Nat.reduceSub, Nat.reduceAdd, Nat.reduceLeDiff, Nat.reduceEqDiff, Nat.reduceBEq, Nat.reduceLT]) | ((with_reducible first | refine quiet_id ?_ | refine wrote_id ?_ | refine resQ_id ?_); simp -implicitDefEqProofs only [go_sem, Nat.reduceSub, Nat.reduceAdd, Nat.reduceLeDiff, Nat.reduceEqDiff, Nat.reduceBEq, Nat.reduceLT]) | fail)
      · have h3 := bNot_true.1 h
        refine endB hle2 ?_
        rw [dE_false.2]
        intro e'; rw [e', hy] at hx
        exact absurd (Option.some.inj hx).symm (dE_false.1 h3)
      · have h3 := dE_true.1 (bNot_false.1 h)
        exact ⟨n - 1, by omega, i + 1, _, by omega, take_step hall hx hy h3, hle2, by rw [e]⟩
    · rw [iLt_false, rLen_eq, List.length_map] at h
      have h1 : i = a.length := by omega
      subst h1
      have := take_eq_all hlen hall
      repeat' (first | (refine wpC_split rfl rfl (fun h => ?_) (fun h => ?_) <;> (try simp -implicitDefEqProofs only [go_sem, Nat.reduceSub, Nat.reduceAdd, Nat.reduceLeDiff, Nat.reduceEqDiff, Nat.reduceBEq, Nat.reduceLT, h])) | (refine plan_split rfl rfl (fun h => ?_) (fun h => ?_) <;> simp -implicitDefEqProofs only [go_sem, Nat.reduceSub, Nat.reduceAdd, Nat.reduceLeDiff, Nat.reduceEqDiff, Nat.reduceBEq, Nat.reduceLT, h]) | (refine planD_split rfl rfl (fun h => ?_) (fun h => ?_) <;> simp -implicitDefEqProofs only [go_sem, Nat.reduceSub, Nat.reduceAdd, Nat.reduceLeDiff, Nat.reduceEqDiff, Nat.reduceBEq, Nat.reduceLT, h]) | (refine go ?_; try simp -implicitDefEqProofs only [go_sem, Nat.reduceSub, Nat.reduceAdd, Nat.reduceLeDiff, Nat.reduceEqDiff, Nat.reduceBEq, Nat.reduceLT]) | ((with_reducible refine wpC_id ?_); simp -implicitDefEqProofs only [go_sem, Nat.reduceSub, Nat.reduceAdd, Nat.reduceLeDiff, Nat.reduceEqDiff, Nat.reduceBEq, Nat.reduceLT]) | ((with_reducible first | refine quiet_id ?_ | refine wrote_id ?_ | refine resQ_id ?_); simp -implicitDefEqProofs only [go_sem, Nat.reduceSub, Nat.reduceAdd, Nat.reduceLeDiff, Nat.reduceEqDiff, Nat.reduceBEq, Nat.reduceLT]) | fail)
      exact endB hle (by rw [dE_true.2 this])

end Go.Proofs.YtmpoklkgdcofbaaGreatDoor

