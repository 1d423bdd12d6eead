/- The examples come out. -/
import Derived.Test.YtmpoklkgdcofbaaGreatDoorG21YA0YA0
import Derived.Test.YtmpoklkgdcofbaaGreatDoorG22E43E43
import Derived.Test.YtmpoklkgdcofbaaGreatDoorG17Y3Y5
set_option maxRecDepth 100000
set_option linter.unusedVariables false
set_option linter.unusedSimpArgs false
namespace Go.Proofs.YtmpoklkgdcofbaaGreatDoor
open Go.Eng

theorem awakeO_ok : CallOkI lexC Tryz.prog (orcS awakeO) := by
  refine orcS_ok fun g F hF s v hv H => ?_
  have key : ∀ {f : FuncId} {G : List UInt8 → Option AVal}, (∀ v, G s = some v → PureCall lexC f [.str s] v) → ∀ (rest : List (FuncId × (List UInt8 → Option AVal))),
      (lookF rest g = some F → ACalls lexC Tryz.prog g [.str s] H (fun r H' => r = .ret v ∧ H' = H)) → lookF ((f, G) :: rest) g = some F → ACalls lexC Tryz.prog g [.str s] H (fun r H' => r = .ret v ∧ H' = H) := by
    intro f G hG rest hr hl
    unfold lookF at hl
    cases hb : Nat.beq f g with
    | true =>
      rw [hb] at hl
      cases hl
      have := Nat.eq_of_beq_eq_true hb
      subst this
      exact hG v hv H
    | false => rw [hb] at hl; exact hr hl
  refine key ?_ _ ?_ hF
  · intro v hv; cases hv; exact Tokens_pure s
  refine key ?_ _ ?_
  · intro v hv; cases hv; exact IsSmall_pure s
  refine key ?_ _ ?_
  · intro v hv; cases hv; exact IsCapital_pure s
  refine key ?_ _ ?_
  · intro v hv; cases hv; exact IsOp_pure s
  refine key ?_ _ ?_
  · intro v hv
    split at hv
    · cases hv; exact Atoi_pure s (by omega)
    · cases hv
  · intro h; cases h

theorem awake_pure : PureCall lexC 13 [] (.bool true) := pure_of_none rfl (runQ_ans hm awakeO_ok awake_run Hp.none)

end Go.Proofs.YtmpoklkgdcofbaaGreatDoor

/- The law of comparisons. -/
set_option maxRecDepth 100000
set_option linter.unusedVariables false
set_option linter.unusedSimpArgs false
namespace Go.Proofs.YtmpoklkgdcofbaaGreatDoor
open Go.Eng

theorem dE_comm {α : Type} (a b : α) : dE a b = dE b a := by
  rw [Bool.eq_iff_iff, dE_true, dE_true]; exact eq_comm
theorem bXor_self (b : Bool) : bXor b b = false := by cases b <;> rfl
theorem endT {b : Bool} {H H' : Hp} (hl : H.le H') (h : b = true) : ∃ v', ARet.ret (.bool b) = .ret v' ∧ Wk v' (.bool true) ∧ H.le H' := endB hl h

set_option maxHeartbeats 8000000 in
theorem LawSame_pure (a b : Mo) (ha : a.Ok) (hb : b.Ok) : PureCall lexC f_lwSyntaxSame [.agg a.cells, .agg b.cells] (.bool true) := by
  have c1 : PureCall lexC f_sSame [.agg a.cells, .agg b.cells] (.bool (dE a b)) := sSame_step a b ha
  have c2 : PureCall lexC f_gSame [.agg a.cells, .agg b.cells] (.bool (dE a b)) := gSame_pure a ha b
  have c3 : PureCall lexC f_sSame [.agg b.cells, .agg a.cells] (.bool (dE a b)) := by rw [dE_comm]; exact sSame_step b a hb
  have c4 : PureCall lexC f_sSame [.agg a.cells, .agg a.cells] (.bool true) := by rw [← dE_self a]; exact sSame_step a a ha
  refine entryF h_lwSyntaxSame rfl fun H => ?_
  simp -implicitDefEqProofs only [go_sem, Nat.reduceSub, Nat.reduceAdd, Nat.reduceLeDiff, Nat.reduceEqDiff, Nat.reduceBEq, Nat.reduceLT, c_lwSyntaxSame]
  refine boxed_intro rfl fun i1 h1 => ?_; simp -implicitDefEqProofs only [go_sem, Nat.reduceSub, Nat.reduceAdd, Nat.reduceLeDiff, Nat.reduceEqDiff, Nat.reduceBEq, Nat.reduceLT]
  refine boxed_intro rfl fun i2 h2 => ?_; simp -implicitDefEqProofs only [go_sem, Nat.reduceSub, Nat.reduceAdd, Nat.reduceLeDiff, Nat.reduceEqDiff, Nat.reduceBEq, Nat.reduceLT]
  have k1 := upd_old (o' := .cells b.cells) (Hp.upd_same H i1 (.cells a.cells)) h2
  have k2 := Hp.upd_same (H.upd i1 (.cells a.cells)) i2 (.cells b.cells)
  have hle := le_new (le_new (le_self H) h1 (.cells a.cells)) h2 (.cells b.cells)
  generalize hHh : (H.upd i1 (.cells a.cells)).upd i2 (.cells b.cells) = Hh at k1 k2 hle ⊢
  refine AC.cut (fun st => st = ⟨mk 129 [(2, .ref i1 0), (3, .ref i2 0)], Hh, []⟩) ?_ ?_
  · refine go ?_; simp -implicitDefEqProofs only [go_sem, Nat.reduceSub, Nat.reduceAdd, Nat.reduceLeDiff, Nat.reduceEqDiff, Nat.reduceBEq, Nat.reduceLT, k1, k2]
    repeat' (first | ((with_reducible refine PureCall.step (c1) ?_); simp -implicitDefEqProofs only [go_sem, Nat.reduceSub, Nat.reduceAdd, Nat.reduceLeDiff, Nat.reduceEqDiff, Nat.reduceBEq, Nat.reduceLT, k1, k2, bXor_self]) | ((with_reducible refine PureCall.step (c2) ?_); simp -implicitDefEqProofs only [go_sem, Nat.reduceSub, Nat.reduceAdd, Nat.reduceLeDiff, Nat.reduceEqDiff, Nat.reduceBEq, Nat.reduceLT, k1, k2, bXor_self]) | ((with_reducible refine PureCall.step (c3) ?_); simp -implicitDefEqProofs only [go_sem, Nat.reduceSub, Nat.reduceAdd, Nat.reduceLeDiff, Nat.reduceEqDiff, Nat.reduceBEq, Nat.reduceLT, k1, k2, bXor_self]) | ((with_reducible refine PureCall.step (c4) ?_); simp -implicitDefEqProofs only [go_sem, Nat.reduceSub, Nat.reduceAdd, Nat.reduceLeDiff, Nat.reduceEqDiff, Nat.reduceBEq, Nat.reduceLT, k1, k2, bXor_self]) | (refine wpC_split rfl rfl (fun h => ?_) (fun h => ?_) <;> (try simp -implicitDefEqProofs only [go_sem, Nat.reduceSub, Nat.reduceAdd, Nat.reduceLeDiff, Nat.reduceEqDiff, Nat.reduceBEq, Nat.reduceLT, h, k1, k2, bXor_self])) | (refine plan_split rfl rfl (fun h => ?_) (fun h => ?_) <;> simp -implicitDefEqProofs only [go_sem, Nat.reduceSub, Nat.reduceAdd, Nat.reduceLeDiff, Nat.reduceEqDiff, Nat.reduceBEq, Nat.reduceLT, h, k1, k2, bXor_self]) | (refine planD_split rfl rfl (fun h => ?_) (fun h => ?_) <;> simp -implicitDefEqProofs only [go_sem, Nat.reduceSub, Nat.reduceAdd, Nat.reduceLeDiff, Nat.reduceEqDiff, Nat.reduceBEq, Nat.reduceLT, h, k1, k2, bXor_self]) | (refine go ?_; try simp -implicitDefEqProofs only [go_sem, Nat.reduceSub, Nat.reduceAdd, Nat.reduceLeDiff, Nat.reduceEqDiff, Nat.reduceBEq, Nat.reduceLT, k1, k2, bXor_self]) | ((with_reducible refine wpC_id ?_); simp -implicitDefEqProofs only [go_sem, Nat.reduceSub, Nat.reduceAdd, Nat.reduceLeDiff, Nat.reduceEqDiff, Nat.reduceBEq, Nat.reduceLT, k1, k2, bXor_self]) | ((with_reducible first | refine quiet_id ?_ | refine wrote_id ?_ | refine resQ_id ?_); simp -implicitDefEqProofs only [go_sem, Nat.reduceSub, Nat.reduceAdd, Nat.reduceLeDiff, Nat.reduceEqDiff, Nat.reduceBEq, Nat.reduceLT, k1, k2, bXor_self]) | fail)
  rintro _ rfl
  refine AC.cut (fun st => ∃ H' j, Hh.le H' ∧ st = ⟨mk 129 [(2, .ref i1 0), (3, .ref i2 0), (5, j)], H', []⟩) ?_ ?_
  · refine go ?_; simp -implicitDefEqProofs only [go_sem, Nat.reduceSub, Nat.reduceAdd, Nat.reduceLeDiff, Nat.reduceEqDiff, Nat.reduceBEq, Nat.reduceLT]
    refine go ?_; simp -implicitDefEqProofs only [go_sem, Nat.reduceSub, Nat.reduceAdd, Nat.reduceLeDiff, Nat.reduceEqDiff, Nat.reduceBEq, Nat.reduceLT]
    rw [wpC_loop]
    refine AC.loop (fun n st => ∃ (i : Nat) (H' : Hp), i + n = 8 ∧ Hh.le H' ∧ st = ⟨mk 129 [(2, .ref i1 0), (3, .ref i2 0), (5, .int .i64 i)], H', []⟩) 8 ⟨0, Hh, by omega, le_self _, rfl⟩ ?_
    rintro n _ ⟨i, H', hi, hle', rfl⟩
    have j1 := hle' i1 _ k1
    have j2 := hle' i2 _ k2
    simp -implicitDefEqProofs only [go_sem, Nat.reduceSub, Nat.reduceAdd, Nat.reduceLeDiff, Nat.reduceEqDiff, Nat.reduceBEq, Nat.reduceLT, l_lwSyntaxSame_0]
    refine AC.cut (fun st => i < a.decls.length ∧ i < b.decls.length ∧ i < 8 ∧ st = ⟨mk 129 [(2, .ref i1 0), (3, .ref i2 0), (5, .int .i64 i)], H', []⟩) ?_ ?_
    · refine go ?_; simp -implicitDefEqProofs only [go_sem, Nat.reduceSub, Nat.reduceAdd, Nat.reduceLeDiff, Nat.reduceEqDiff, Nat.reduceBEq, Nat.reduceLT, j1, j2]
      repeat' (first | (refine wpC_split rfl rfl (fun h => ?_) (fun h => ?_) <;> (try simp -implicitDefEqProofs only [go_sem, Nat.reduceSub, Nat.reduceAdd, Nat.reduceLeDiff, Nat.reduceEqDiff, Nat.reduceBEq, Nat.reduceLT, h, j1, j2])) | (refine plan_split rfl rfl (fun h => ?_) (fun h => ?_) <;> simp -implicitDefEqProofs only [go_sem, Nat.reduceSub, Nat.reduceAdd, Nat.reduceLeDiff, Nat.reduceEqDiff, Nat.reduceBEq, Nat.reduceLT, h, j1, j2]) | (refine planD_split rfl rfl (fun h => ?_) (fun h => ?_) <;> simp -implicitDefEqProofs only [go_sem, Nat.reduceSub, Nat.reduceAdd, Nat.reduceLeDiff, Nat.reduceEqDiff, Nat.reduceBEq, Nat.reduceLT, h, j1, j2]) | (refine go ?_; try simp -implicitDefEqProofs only [go_sem, Nat.reduceSub, Nat.reduceAdd, Nat.reduceLeDiff, Nat.reduceEqDiff, Nat.reduceBEq, Nat.reduceLT, j1, j2]) | ((with_reducible refine wpC_id ?_); simp -implicitDefEqProofs only [go_sem, Nat.reduceSub, Nat.reduceAdd, Nat.reduceLeDiff, Nat.reduceEqDiff, Nat.reduceBEq, Nat.reduceLT, j1, j2]) | ((with_reducible first | refine quiet_id ?_ | refine wrote_id ?_ | refine resQ_id ?_); simp -implicitDefEqProofs only [go_sem, Nat.reduceSub, Nat.reduceAdd, Nat.reduceLeDiff, Nat.reduceEqDiff, Nat.reduceBEq, Nat.reduceLT, j1, j2]) | fail)
      all_goals first
        | exact ⟨_, hle', rfl⟩
        | exact ⟨_, _, hle', rfl⟩
        | (simp only [iLt_true, iLt_false, rLen_eq, List.length_map] at *; omega)
    rintro _ ⟨hia, hib, hi8, rfl⟩
    obtain ⟨x, hx⟩ : ∃ x, a.decls[i]? = some x := ⟨_, List.getElem?_eq_getElem (by omega)⟩
    obtain ⟨y, hy⟩ : ∃ y, b.decls[i]? = some y := ⟨_, List.getElem?_eq_getElem (by omega)⟩
    have hxo := ha.decls x (List.mem_of_getElem? hx)
    have hyo := hb.decls y (List.mem_of_getElem? hy)
    have e : wAdd .i64 (i : Int) 1 = ((i + 1 : Nat) : Int) := by rw [wAdd_i64] <;> omega
    refine go ?_; simp -implicitDefEqProofs only [go_sem, Nat.reduceSub, Nat.reduceAdd, Nat.reduceLeDiff, Nat.reduceEqDiff, Nat.reduceBEq, Nat.reduceLT, j1, j2, De.iaddr hx, De.iaddr hy]
    refine newCells_intro fun i6 h6 => ?_; simp -implicitDefEqProofs only [go_sem, Nat.reduceSub, Nat.reduceAdd, Nat.reduceLeDiff, Nat.reduceEqDiff, Nat.reduceBEq, Nat.reduceLT]
    refine newCells_intro fun i7 h7 => ?_
    have n16 : i1 ≠ i6 := ne_of_new j1 h6
    have n26 : i2 ≠ i6 := ne_of_new j2 h6
    have n17 : i1 ≠ i7 := ne_of_new (upd_old j1 h6) h7
    have n27 : i2 ≠ i7 := ne_of_new (upd_old j2 h6) h7
    have n67 : i6 ≠ i7 := ne_of_new (Hp.upd_same _ _ _) h7
    have n76 := n67.symm
    simp -implicitDefEqProofs only [go_sem, Nat.reduceSub, Nat.reduceAdd, Nat.reduceLeDiff, Nat.reduceEqDiff, Nat.reduceBEq, Nat.reduceLT, Hp.upd_ne, ne_eq, not_false_eq_true, n16, n26, n17, n27, n67, n76, j1, j2, De.iaddr hx, De.iaddr hy]
    generalize hz : [AVal.int .i64 0, .str [], .str [], .int .i64 0, .int .i64 0, .int .i64 0, .str [], .sl [] .nil, .sl [] .nil, .sl [] .nil, .sl [] .nil, .sl [] .nil, .sl [] .nil, .sl [] .nil, .sl [] .nil, .sl [] .nil, .sl [] .nil] = z at h7 ⊢
    have m7 := Hp.upd_same (((H'.upd i6 (.cells z)).upd i7 (.cells z)).upd i6 (.cells x.cells)) i7 (.cells y.cells)
    have m6 : ((((H'.upd i6 (.cells z)).upd i7 (.cells z)).upd i6 (.cells x.cells)).upd i7 (.cells y.cells)) i6 = some (.cells x.cells) := by
      rw [Hp.upd_ne _ _ n67, Hp.upd_same]
    have hl7 : Hh.le ((((H'.upd i6 (.cells z)).upd i7 (.cells z)).upd i6 (.cells x.cells)).upd i7 (.cells y.cells)) :=
      le_set (le_set (le_new (le_new hle' h6 _) h7 _) (none_of_le hle' h6) _) (none_of_le (le_new hle' h6 _) h7) _
    generalize hH7 : (((H'.upd i6 (.cells z)).upd i7 (.cells z)).upd i6 (.cells x.cells)).upd i7 (.cells y.cells) = H7 at m6 m7 hl7 ⊢
    refine AC.cut (fun st => st = ⟨mk 129 [(2, .ref i1 0), (3, .ref i2 0), (5, .int .i64 i), (6, .ref i6 0), (7, .ref i7 0)], H7, []⟩) ?_ ?_
    · refine go ?_; simp -implicitDefEqProofs only [go_sem, Nat.reduceSub, Nat.reduceAdd, Nat.reduceLeDiff, Nat.reduceEqDiff, Nat.reduceBEq, Nat.reduceLT, m6, m7]
      repeat' (first | ((with_reducible refine PureCall.step (sSameType_pure hxo.type y.type) ?_); simp -implicitDefEqProofs only [go_sem, Nat.reduceSub, Nat.reduceAdd, Nat.reduceLeDiff, Nat.reduceEqDiff, Nat.reduceBEq, Nat.reduceLT, m6, m7, bXor_self]) | ((with_reducible refine PureCall.step (gSameType_pure hxo.type y.type) ?_); simp -implicitDefEqProofs only [go_sem, Nat.reduceSub, Nat.reduceAdd, Nat.reduceLeDiff, Nat.reduceEqDiff, Nat.reduceBEq, Nat.reduceLT, m6, m7, bXor_self]) | (refine wpC_split rfl rfl (fun h => ?_) (fun h => ?_) <;> (try simp -implicitDefEqProofs only [go_sem, Nat.reduceSub, Nat.reduceAdd, Nat.reduceLeDiff, Nat.reduceEqDiff, Nat.reduceBEq, Nat.reduceLT, h, m6, m7, bXor_self])) | (refine plan_split rfl rfl (fun h => ?_) (fun h => ?_) <;> simp -implicitDefEqProofs only [go_sem, Nat.reduceSub, Nat.reduceAdd, Nat.reduceLeDiff, Nat.reduceEqDiff, Nat.reduceBEq, Nat.reduceLT, h, m6, m7, bXor_self]) | (refine planD_split rfl rfl (fun h => ?_) (fun h => ?_) <;> simp -implicitDefEqProofs only [go_sem, Nat.reduceSub, Nat.reduceAdd, Nat.reduceLeDiff, Nat.reduceEqDiff, Nat.reduceBEq, Nat.reduceLT, h, m6, m7, bXor_self]) | (refine go ?_; try simp -implicitDefEqProofs only [go_sem, Nat.reduceSub, Nat.reduceAdd, Nat.reduceLeDiff, Nat.reduceEqDiff, Nat.reduceBEq, Nat.reduceLT, m6, m7, bXor_self]) | ((with_reducible refine wpC_id ?_); simp -implicitDefEqProofs only [go_sem, Nat.reduceSub, Nat.reduceAdd, Nat.reduceLeDiff, Nat.reduceEqDiff, Nat.reduceBEq, Nat.reduceLT, m6, m7, bXor_self]) | ((with_reducible first | refine quiet_id ?_ | refine wrote_id ?_ | refine resQ_id ?_); simp -implicitDefEqProofs only [go_sem, Nat.reduceSub, Nat.reduceAdd, Nat.reduceLeDiff, Nat.reduceEqDiff, Nat.reduceBEq, Nat.reduceLT, m6, m7, bXor_self]) | fail)
    rintro _ rfl
    have fin : ∀ H8, Hh.le H8 → ∃ m, m < n ∧ ∃ (i' : Nat) (H' : Hp), i' + m = 8 ∧ Hh.le H' ∧ (⟨mk 129 [(2, .ref i1 0), (3, .ref i2 0), (5, .int .i64 (wAdd .i64 (i : Int) 1))], H8, []⟩ : S) = ⟨mk 129 [(2, .ref i1 0), (3, .ref i2 0), (5, .int .i64 i')], H', []⟩ := fun H8 h8 => ⟨n - 1, by omega, i + 1, H8, by omega, h8, by rw [e]⟩
    have spA : ∀ l : List Al, (iLt 0 (rLen (l.map Al.cells)) = false) ∨ (∃ p ps, l = p :: ps ∧ iaddrA 3 (l.map Al.cells) 0 = some (.ip p.cells) ∧ iLt 0 (rLen (l.map Al.cells)) = true) := by
      intro l
      rcases l with _ | ⟨p, ps⟩
      · left; rfl
      · right; refine ⟨p, ps, rfl, Al.iaddr (i := 0) rfl, ?_⟩; rw [iLt_true, rLen_eq]; simp
    have spG : ∀ l : List Gu, (iLt 0 (rLen (l.map Gu.cells)) = false) ∨ (∃ p ps, l = p :: ps ∧ iaddrA 11 (l.map Gu.cells) 0 = some (.ip p.cells) ∧ iLt 0 (rLen (l.map Gu.cells)) = true) := by
      intro l
      rcases l with _ | ⟨p, ps⟩
      · left; rfl
      · right; refine ⟨p, ps, rfl, Gu.iaddr (i := 0) rfl, ?_⟩; rw [iLt_true, rLen_eq]; simp
    rcases spA x.alts with q1 | ⟨al, als, ax, q1, q1'⟩
    · refine go ?_; simp -implicitDefEqProofs only [go_sem, Nat.reduceSub, Nat.reduceAdd, Nat.reduceLeDiff, Nat.reduceEqDiff, Nat.reduceBEq, Nat.reduceLT, m6, m7, q1]
      repeat' (first | (refine wpC_split rfl rfl (fun h => ?_) (fun h => ?_) <;> (try simp -implicitDefEqProofs only [go_sem, Nat.reduceSub, Nat.reduceAdd, Nat.reduceLeDiff, Nat.reduceEqDiff, Nat.reduceBEq, Nat.reduceLT, h, m6, m7, q1])) | (refine plan_split rfl rfl (fun h => ?_) (fun h => ?_) <;> simp -implicitDefEqProofs only [go_sem, Nat.reduceSub, Nat.reduceAdd, Nat.reduceLeDiff, Nat.reduceEqDiff, Nat.reduceBEq, Nat.reduceLT, h, m6, m7, q1]) | (refine planD_split rfl rfl (fun h => ?_) (fun h => ?_) <;> simp -implicitDefEqProofs only [go_sem, Nat.reduceSub, Nat.reduceAdd, Nat.reduceLeDiff, Nat.reduceEqDiff, Nat.reduceBEq, Nat.reduceLT, h, m6, m7, q1]) | (refine go ?_; try simp -implicitDefEqProofs only [go_sem, Nat.reduceSub, Nat.reduceAdd, Nat.reduceLeDiff, Nat.reduceEqDiff, Nat.reduceBEq, Nat.reduceLT, m6, m7, q1]) | ((with_reducible refine wpC_id ?_); simp -implicitDefEqProofs only [go_sem, Nat.reduceSub, Nat.reduceAdd, Nat.reduceLeDiff, Nat.reduceEqDiff, Nat.reduceBEq, Nat.reduceLT, m6, m7, q1]) | ((with_reducible first | refine quiet_id ?_ | refine wrote_id ?_ | refine resQ_id ?_); simp -implicitDefEqProofs only [go_sem, Nat.reduceSub, Nat.reduceAdd, Nat.reduceLeDiff, Nat.reduceEqDiff, Nat.reduceBEq, Nat.reduceLT, m6, m7, q1]) | fail)
      all_goals exact fin _ hl7
    rcases spA y.alts with q2 | ⟨bl, bls, ay, q2, q2'⟩
    · refine go ?_; simp -implicitDefEqProofs only [go_sem, Nat.reduceSub, Nat.reduceAdd, Nat.reduceLeDiff, Nat.reduceEqDiff, Nat.reduceBEq, Nat.reduceLT, m6, m7, q1, q1', q2]
      repeat' (first | (refine wpC_split rfl rfl (fun h => ?_) (fun h => ?_) <;> (try simp -implicitDefEqProofs only [go_sem, Nat.reduceSub, Nat.reduceAdd, Nat.reduceLeDiff, Nat.reduceEqDiff, Nat.reduceBEq, Nat.reduceLT, h, m6, m7, q1, q1', q2])) | (refine plan_split rfl rfl (fun h => ?_) (fun h => ?_) <;> simp -implicitDefEqProofs only [go_sem, Nat.reduceSub, Nat.reduceAdd, Nat.reduceLeDiff, Nat.reduceEqDiff, Nat.reduceBEq, Nat.reduceLT, h, m6, m7, q1, q1', q2]) | (refine planD_split rfl rfl (fun h => ?_) (fun h => ?_) <;> simp -implicitDefEqProofs only [go_sem, Nat.reduceSub, Nat.reduceAdd, Nat.reduceLeDiff, Nat.reduceEqDiff, Nat.reduceBEq, Nat.reduceLT, h, m6, m7, q1, q1', q2]) | (refine go ?_; try simp -implicitDefEqProofs only [go_sem, Nat.reduceSub, Nat.reduceAdd, Nat.reduceLeDiff, Nat.reduceEqDiff, Nat.reduceBEq, Nat.reduceLT, m6, m7, q1, q1', q2]) | ((with_reducible refine wpC_id ?_); simp -implicitDefEqProofs only [go_sem, Nat.reduceSub, Nat.reduceAdd, Nat.reduceLeDiff, Nat.reduceEqDiff, Nat.reduceBEq, Nat.reduceLT, m6, m7, q1, q1', q2]) | ((with_reducible first | refine quiet_id ?_ | refine wrote_id ?_ | refine resQ_id ?_); simp -implicitDefEqProofs only [go_sem, Nat.reduceSub, Nat.reduceAdd, Nat.reduceLeDiff, Nat.reduceEqDiff, Nat.reduceBEq, Nat.reduceLT, m6, m7, q1, q1', q2]) | fail)
      all_goals exact fin _ hl7
    rcases spG al.rhs with q3 | ⟨g, gs, ag, q3, q3'⟩
    · refine go ?_; simp -implicitDefEqProofs only [go_sem, Nat.reduceSub, Nat.reduceAdd, Nat.reduceLeDiff, Nat.reduceEqDiff, Nat.reduceBEq, Nat.reduceLT, m6, m7, q1, q1', q2, q2', q3]
      repeat' (first | (refine wpC_split rfl rfl (fun h => ?_) (fun h => ?_) <;> (try simp -implicitDefEqProofs only [go_sem, Nat.reduceSub, Nat.reduceAdd, Nat.reduceLeDiff, Nat.reduceEqDiff, Nat.reduceBEq, Nat.reduceLT, h, m6, m7, q1, q1', q2, q2', q3])) | (refine plan_split rfl rfl (fun h => ?_) (fun h => ?_) <;> simp -implicitDefEqProofs only [go_sem, Nat.reduceSub, Nat.reduceAdd, Nat.reduceLeDiff, Nat.reduceEqDiff, Nat.reduceBEq, Nat.reduceLT, h, m6, m7, q1, q1', q2, q2', q3]) | (refine planD_split rfl rfl (fun h => ?_) (fun h => ?_) <;> simp -implicitDefEqProofs only [go_sem, Nat.reduceSub, Nat.reduceAdd, Nat.reduceLeDiff, Nat.reduceEqDiff, Nat.reduceBEq, Nat.reduceLT, h, m6, m7, q1, q1', q2, q2', q3]) | (refine go ?_; try simp -implicitDefEqProofs only [go_sem, Nat.reduceSub, Nat.reduceAdd, Nat.reduceLeDiff, Nat.reduceEqDiff, Nat.reduceBEq, Nat.reduceLT, m6, m7, q1, q1', q2, q2', q3]) | ((with_reducible refine wpC_id ?_); simp -implicitDefEqProofs only [go_sem, Nat.reduceSub, Nat.reduceAdd, Nat.reduceLeDiff, Nat.reduceEqDiff, Nat.reduceBEq, Nat.reduceLT, m6, m7, q1, q1', q2, q2', q3]) | ((with_reducible first | refine quiet_id ?_ | refine wrote_id ?_ | refine resQ_id ?_); simp -implicitDefEqProofs only [go_sem, Nat.reduceSub, Nat.reduceAdd, Nat.reduceLeDiff, Nat.reduceEqDiff, Nat.reduceBEq, Nat.reduceLT, m6, m7, q1, q1', q2, q2', q3]) | fail)
      all_goals exact fin _ hl7
    rcases spG bl.rhs with q4 | ⟨g', gs', ag', q4, q4'⟩
    · refine go ?_; simp -implicitDefEqProofs only [go_sem, Nat.reduceSub, Nat.reduceAdd, Nat.reduceLeDiff, Nat.reduceEqDiff, Nat.reduceBEq, Nat.reduceLT, m6, m7, q1, q1', q2, q2', q3, q3', q4]
      repeat' (first | (refine wpC_split rfl rfl (fun h => ?_) (fun h => ?_) <;> (try simp -implicitDefEqProofs only [go_sem, Nat.reduceSub, Nat.reduceAdd, Nat.reduceLeDiff, Nat.reduceEqDiff, Nat.reduceBEq, Nat.reduceLT, h, m6, m7, q1, q1', q2, q2', q3, q3', q4])) | (refine plan_split rfl rfl (fun h => ?_) (fun h => ?_) <;> simp -implicitDefEqProofs only [go_sem, Nat.reduceSub, Nat.reduceAdd, Nat.reduceLeDiff, Nat.reduceEqDiff, Nat.reduceBEq, Nat.reduceLT, h, m6, m7, q1, q1', q2, q2', q3, q3', q4]) | (refine planD_split rfl rfl (fun h => ?_) (fun h => ?_) <;> simp -implicitDefEqProofs only [go_sem, Nat.reduceSub, Nat.reduceAdd, Nat.reduceLeDiff, Nat.reduceEqDiff, Nat.reduceBEq, Nat.reduceLT, h, m6, m7, q1, q1', q2, q2', q3, q3', q4]) | (refine go ?_; try simp -implicitDefEqProofs only [go_sem, Nat.reduceSub, Nat.reduceAdd, Nat.reduceLeDiff, Nat.reduceEqDiff, Nat.reduceBEq, Nat.reduceLT, m6, m7, q1, q1', q2, q2', q3, q3', q4]) | ((with_reducible refine wpC_id ?_); simp -implicitDefEqProofs only [go_sem, Nat.reduceSub, Nat.reduceAdd, Nat.reduceLeDiff, Nat.reduceEqDiff, Nat.reduceBEq, Nat.reduceLT, m6, m7, q1, q1', q2, q2', q3, q3', q4]) | ((with_reducible first | refine quiet_id ?_ | refine wrote_id ?_ | refine resQ_id ?_); simp -implicitDefEqProofs only [go_sem, Nat.reduceSub, Nat.reduceAdd, Nat.reduceLeDiff, Nat.reduceEqDiff, Nat.reduceBEq, Nat.reduceLT, m6, m7, q1, q1', q2, q2', q3, q3', q4]) | fail)
      all_goals exact fin _ hl7
    have hpo : g.thn.Ok := ((hxo.alts al (by rw [ax]; exact .head _)).rhs g (by rw [ag]; exact .head _)).thn
    have hqo : g'.thn.Ok := ((hyo.alts bl (by rw [ay]; exact .head _)).rhs g' (by rw [ag']; exact .head _)).thn
    refine go ?_; simp -implicitDefEqProofs only [go_sem, Nat.reduceSub, Nat.reduceAdd, Nat.reduceLeDiff, Nat.reduceEqDiff, Nat.reduceBEq, Nat.reduceLT, m6, m7, q1, q1', q2, q2', q3, q3', q4, q4']
    have r6 : i6 ≠ i7 := n67
    refine go ?_; simp -implicitDefEqProofs only [go_sem, Nat.reduceSub, Nat.reduceAdd, Nat.reduceLeDiff, Nat.reduceEqDiff, Nat.reduceBEq, Nat.reduceLT, m6, m7, q1, q2, q3, q4]
    refine newCells_intro fun i8 h8 => ?_; simp -implicitDefEqProofs only [go_sem, Nat.reduceSub, Nat.reduceAdd, Nat.reduceLeDiff, Nat.reduceEqDiff, Nat.reduceBEq, Nat.reduceLT]
    refine newCells_intro fun i9 h9 => ?_
    have n68 : i6 ≠ i8 := ne_of_new m6 h8
    have n78 : i7 ≠ i8 := ne_of_new m7 h8
    have n69 : i6 ≠ i9 := ne_of_new (upd_old m6 h8) h9
    have n79 : i7 ≠ i9 := ne_of_new (upd_old m7 h8) h9
    have n89 : i8 ≠ i9 := ne_of_new (Hp.upd_same _ _ _) h9
    have n98 := n89.symm
    simp -implicitDefEqProofs only [go_sem, Nat.reduceSub, Nat.reduceAdd, Nat.reduceLeDiff, Nat.reduceEqDiff, Nat.reduceBEq, Nat.reduceLT, Hp.upd_ne, ne_eq, not_false_eq_true, n68, n78, n69, n79, n89, n98, m6, m7, q1, q2, q3, q4]
    generalize hz2 : [AVal.int .i64 0, .str [], .int .i64 0, .sl [] .nil, .sl [] .nil, .sl [] .nil, .sl [] .nil, .sl [] .nil, .sl [] .nil, .sl [] .nil] = z2 at h9 ⊢
    have m9 := Hp.upd_same (((H7.upd i8 (.cells z2)).upd i9 (.cells z2)).upd i8 (.cells g.thn.cells)) i9 (.cells g'.thn.cells)
    have m8 : ((((H7.upd i8 (.cells z2)).upd i9 (.cells z2)).upd i8 (.cells g.thn.cells)).upd i9 (.cells g'.thn.cells)) i8 = some (.cells g.thn.cells) := by
      rw [Hp.upd_ne _ _ n89, Hp.upd_same]
    have hl9 : Hh.le ((((H7.upd i8 (.cells z2)).upd i9 (.cells z2)).upd i8 (.cells g.thn.cells)).upd i9 (.cells g'.thn.cells)) :=
      le_set (le_set (le_new (le_new hl7 h8 _) h9 _) (none_of_le hl7 h8) _) (none_of_le (le_new hl7 h8 _) h9) _
    generalize hH9 : (((H7.upd i8 (.cells z2)).upd i9 (.cells z2)).upd i8 (.cells g.thn.cells)).upd i9 (.cells g'.thn.cells) = H9 at m8 m9 hl9 ⊢
    have d1 : PureCall lexC f_sSameExpr [.agg g.thn.cells, .agg g.thn.cells] (.bool true) := by rw [← dE_self g.thn]; exact sSameExpr_pure g.thn hpo g.thn
    refine go ?_; simp -implicitDefEqProofs only [go_sem, Nat.reduceSub, Nat.reduceAdd, Nat.reduceLeDiff, Nat.reduceEqDiff, Nat.reduceBEq, Nat.reduceLT, m8, m9]
    repeat' (first | ((with_reducible refine PureCall.step (sSameExpr_pure g.thn hpo g'.thn) ?_); simp -implicitDefEqProofs only [go_sem, Nat.reduceSub, Nat.reduceAdd, Nat.reduceLeDiff, Nat.reduceEqDiff, Nat.reduceBEq, Nat.reduceLT, m8, m9, bXor_self]) | ((with_reducible refine PureCall.step (gSameExpr_pure g.thn hpo g'.thn) ?_); simp -implicitDefEqProofs only [go_sem, Nat.reduceSub, Nat.reduceAdd, Nat.reduceLeDiff, Nat.reduceEqDiff, Nat.reduceBEq, Nat.reduceLT, m8, m9, bXor_self]) | ((with_reducible refine PureCall.step (d1) ?_); simp -implicitDefEqProofs only [go_sem, Nat.reduceSub, Nat.reduceAdd, Nat.reduceLeDiff, Nat.reduceEqDiff, Nat.reduceBEq, Nat.reduceLT, m8, m9, bXor_self]) | (refine wpC_split rfl rfl (fun h => ?_) (fun h => ?_) <;> (try simp -implicitDefEqProofs only [go_sem, Nat.reduceSub, Nat.reduceAdd, Nat.reduceLeDiff, Nat.reduceEqDiff, Nat.reduceBEq, Nat.reduceLT, h, m8, m9, bXor_self])) | (refine plan_split rfl rfl (fun h => ?_) (fun h => ?_) <;> simp -implicitDefEqProofs only [go_sem, Nat.reduceSub, Nat.reduceAdd, Nat.reduceLeDiff, Nat.reduceEqDiff, Nat.reduceBEq, Nat.reduceLT, h, m8, m9, bXor_self]) | (refine planD_split rfl rfl (fun h => ?_) (fun h => ?_) <;> simp -implicitDefEqProofs only [go_sem, Nat.reduceSub, Nat.reduceAdd, Nat.reduceLeDiff, Nat.reduceEqDiff, Nat.reduceBEq, Nat.reduceLT, h, m8, m9, bXor_self]) | (refine go ?_; try simp -implicitDefEqProofs only [go_sem, Nat.reduceSub, Nat.reduceAdd, Nat.reduceLeDiff, Nat.reduceEqDiff, Nat.reduceBEq, Nat.reduceLT, m8, m9, bXor_self]) | ((with_reducible refine wpC_id ?_); simp -implicitDefEqProofs only [go_sem, Nat.reduceSub, Nat.reduceAdd, Nat.reduceLeDiff, Nat.reduceEqDiff, Nat.reduceBEq, Nat.reduceLT, m8, m9, bXor_self]) | ((with_reducible first | refine quiet_id ?_ | refine wrote_id ?_ | refine resQ_id ?_); simp -implicitDefEqProofs only [go_sem, Nat.reduceSub, Nat.reduceAdd, Nat.reduceLeDiff, Nat.reduceEqDiff, Nat.reduceBEq, Nat.reduceLT, m8, m9, bXor_self]) | fail)
    all_goals exact fin _ hl9
  · rintro _ ⟨H', j, hle', rfl⟩
    repeat' (first | ((with_reducible refine PureCall.step (awake_pure) ?_); simp -implicitDefEqProofs only [go_sem, Nat.reduceSub, Nat.reduceAdd, Nat.reduceLeDiff, Nat.reduceEqDiff, Nat.reduceBEq, Nat.reduceLT]) | (refine wpC_split rfl rfl (fun h => ?_) (fun h => ?_) <;> (try simp -implicitDefEqProofs only [go_sem, Nat.reduceSub, Nat.reduceAdd, Nat.reduceLeDiff, Nat.reduceEqDiff, Nat.reduceBEq, Nat.reduceLT, h])) | (refine plan_split rfl rfl (fun h => ?_) (fun h => ?_) <;> simp -implicitDefEqProofs only [go_sem, Nat.reduceSub, Nat.reduceAdd, Nat.reduceLeDiff, Nat.reduceEqDiff, Nat.reduceBEq, Nat.reduceLT, h]) | (refine planD_split rfl rfl (fun h => ?_) (fun h => ?_) <;> simp -implicitDefEqProofs only [go_sem, Nat.reduceSub, Nat.reduceAdd, Nat.reduceLeDiff, Nat.reduceEqDiff, Nat.reduceBEq, Nat.reduceLT, h]) | (refine go ?_; try simp -implicitDefEqProofs only [go_sem, Nat.reduceSub, Nat.reduceAdd, Nat.reduceLeDiff, Nat.reduceEqDiff, Nat.reduceBEq, Nat.reduceLT]) | ((with_reducible refine wpC_id ?_); simp -implicitDefEqProofs only [go_sem, Nat.reduceSub, Nat.reduceAdd, Nat.reduceLeDiff, Nat.reduceEqDiff, Nat.reduceBEq, Nat.reduceLT]) | ((with_reducible first | refine quiet_id ?_ | refine wrote_id ?_ | refine resQ_id ?_); simp -implicitDefEqProofs only [go_sem, Nat.reduceSub, Nat.reduceAdd, Nat.reduceLeDiff, Nat.reduceEqDiff, Nat.reduceBEq, Nat.reduceLT]) | fail)
    exact endT (le_tr hle hle') rfl

end Go.Proofs.YtmpoklkgdcofbaaGreatDoor

