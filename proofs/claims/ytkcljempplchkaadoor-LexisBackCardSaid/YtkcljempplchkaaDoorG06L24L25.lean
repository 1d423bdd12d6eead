/- The reference: all tokens. -/
import Derived.Test.YtkcljempplchkaaDoorG05L2L23
set_option maxRecDepth 100000
set_option linter.unusedVariables false
set_option linter.unusedSimpArgs false
namespace Go.Proofs.YtkcljempplchkaaDoor
open Go.Eng

/-- What is read from a place on. -/
def lexR (s : List UInt8) (i : Nat) : Except Nat (List Token) := lexF s (s.length - i + 1) i
theorem lexR_move {s : List UInt8} {i j : Nat} (hi : i ≤ j) (hj : j ≤ s.length) (h : blanksTo s i = blanksTo s j) : lexR s i = lexR s j := by
  unfold lexR
  rcases lexF_same h (s.length - i + 1) with h1 | h1
  · rw [h1, lexF_fuel s _ j hj (by omega)]
  · omega

theorem rTokens_pure (s : List UInt8) : PureCall lexC f_rTokens [.str s] (.tup [.sl (tokRows (lexP s).1) .no, .int .i64 (lexP s).2.1, .int .i64 (lexP s).2.2]) := by
  refine entryF h_rTokens rfl fun H => ?_; simp -implicitDefEqProofs only [go_sem, Nat.reduceAdd, Nat.reduceLeDiff, Nat.reduceEqDiff, Nat.reduceBEq, Nat.reduceLT, c_rTokens]
  refine go ?_; simp -implicitDefEqProofs only [go_sem, Nat.reduceAdd, Nat.reduceLeDiff, Nat.reduceEqDiff, Nat.reduceBEq, Nat.reduceLT]
  refine go ?_
  refine wpC_split rfl rfl (fun h => ?_) (fun h => ?_) <;> simp -implicitDefEqProofs only [go_sem, Nat.reduceAdd, Nat.reduceLeDiff, Nat.reduceEqDiff, Nat.reduceBEq, Nat.reduceLT]
  · have h1 := iLt_true.1 h
    rw [sLen_eq] at h1
    have e : lexP s = ([], 0, 5) := by rw [lexP, if_pos (by omega)]
    repeat' (first | (refine wpC_split rfl rfl (fun h => ?_) (fun h => ?_) <;> (try simp -implicitDefEqProofs only [go_sem, Nat.reduceAdd, Nat.reduceLeDiff, Nat.reduceEqDiff, Nat.reduceBEq, Nat.reduceLT, h])) | (refine plan_split rfl rfl (fun h => ?_) (fun h => ?_) <;> simp -implicitDefEqProofs only [go_sem, Nat.reduceAdd, Nat.reduceLeDiff, Nat.reduceEqDiff, Nat.reduceBEq, Nat.reduceLT, h]) | (refine planD_split rfl rfl (fun h => ?_) (fun h => ?_) <;> simp -implicitDefEqProofs only [go_sem, Nat.reduceAdd, Nat.reduceLeDiff, Nat.reduceEqDiff, Nat.reduceBEq, Nat.reduceLT, h]) | (refine go ?_; try simp -implicitDefEqProofs only [go_sem, Nat.reduceAdd, Nat.reduceLeDiff, Nat.reduceEqDiff, Nat.reduceBEq, Nat.reduceLT]) | ((with_reducible refine wpC_id ?_); simp -implicitDefEqProofs only [go_sem, Nat.reduceAdd, Nat.reduceLeDiff, Nat.reduceEqDiff, Nat.reduceBEq, Nat.reduceLT]) | ((with_reducible first | refine quiet_id ?_ | refine wrote_id ?_ | refine resQ_id ?_); simp -implicitDefEqProofs only [go_sem, Nat.reduceAdd, Nat.reduceLeDiff, Nat.reduceEqDiff, Nat.reduceBEq, Nat.reduceLT]) | fail)
    rw [e]
    exact ⟨_, rfl, wk_tup1 (.sl _ _), fun _ _ h => h⟩
  · have h1 := iLt_false.1 h
    rw [sLen_eq] at h1
    have hs : s.length ≤ 12000 := by omega
    have eP : lexP s = lexRes (lexE s) := by rw [lexP, if_neg (by omega)]
    repeat' (first | (refine wpC_split rfl rfl (fun h => ?_) (fun h => ?_) <;> (try simp -implicitDefEqProofs only [go_sem, Nat.reduceAdd, Nat.reduceLeDiff, Nat.reduceEqDiff, Nat.reduceBEq, Nat.reduceLT, h])) | (refine plan_split rfl rfl (fun h => ?_) (fun h => ?_) <;> simp -implicitDefEqProofs only [go_sem, Nat.reduceAdd, Nat.reduceLeDiff, Nat.reduceEqDiff, Nat.reduceBEq, Nat.reduceLT, h]) | (refine planD_split rfl rfl (fun h => ?_) (fun h => ?_) <;> simp -implicitDefEqProofs only [go_sem, Nat.reduceAdd, Nat.reduceLeDiff, Nat.reduceEqDiff, Nat.reduceBEq, Nat.reduceLT, h]) | (refine go ?_; try simp -implicitDefEqProofs only [go_sem, Nat.reduceAdd, Nat.reduceLeDiff, Nat.reduceEqDiff, Nat.reduceBEq, Nat.reduceLT]) | ((with_reducible refine wpC_id ?_); simp -implicitDefEqProofs only [go_sem, Nat.reduceAdd, Nat.reduceLeDiff, Nat.reduceEqDiff, Nat.reduceBEq, Nat.reduceLT]) | ((with_reducible first | refine quiet_id ?_ | refine wrote_id ?_ | refine resQ_id ?_); simp -implicitDefEqProofs only [go_sem, Nat.reduceAdd, Nat.reduceLeDiff, Nat.reduceEqDiff, Nat.reduceBEq, Nat.reduceLT]) | fail)
    rw [wpC_loop]
    refine AC.loop (fun n st => ∃ i acc t H', i ≤ s.length ∧ n = s.length - i ∧ acc.length ≤ i ∧ lexE s = appE acc (lexR s i) ∧ Acc H H' t acc.length 3 ∧
      st = ⟨mk 85 [(0, .str s), (5, .sl (tokRows acc) t), (6, .int .i64 (i : Nat))], H', []⟩) s.length ⟨0, [], .full, H, Nat.zero_le _, rfl, Nat.le_refl _, ?_, Acc.start H 0 3, rfl⟩ ?_
    · unfold lexE lexR
      rw [Nat.sub_zero]
      cases lexF s (s.length + 1) 0 <;> rfl
    · rintro n _ ⟨i, acc, t, H', hi, rfl, hacc, hE, hA, rfl⟩
      simp -implicitDefEqProofs only [go_sem, Nat.reduceAdd, Nat.reduceLeDiff, Nat.reduceEqDiff, Nat.reduceBEq, Nat.reduceLT, l_rTokens_1]
      refine go ?_; simp -implicitDefEqProofs only [go_sem, Nat.reduceAdd, Nat.reduceLeDiff, Nat.reduceEqDiff, Nat.reduceBEq, Nat.reduceLT]
      refine go ?_
      refine wpC_split rfl rfl (fun h => ?_) (fun h => ?_) <;> simp -implicitDefEqProofs only [go_sem, Nat.reduceAdd, Nat.reduceLeDiff, Nat.reduceEqDiff, Nat.reduceBEq, Nat.reduceLT]
      · have hlt := iLt_true.1 h
        rw [sLen_eq] at hlt
        obtain ⟨c, hc⟩ : ∃ c, s[i]? = some c := ⟨_, List.getElem?_eq_getElem (by omega)⟩
        have e : wAdd .i64 (i : Int) 1 = ((i + 1 : Nat) : Int) := by rw [wAdd_i64] <;> omega
        have hsp := spanN_le inOp (s.drop i)
        rw [List.length_drop] at hsp
        have sl2 : slSA s (some (.int .i64 (i : Int))) (some (.int .i64 ((i + spanN (kindB true) (s.drop i) : Nat) : Int))) = some (.str (spanS inOp s i)) := by
          have h3 : spanN (kindB true) (s.drop i) = spanN inOp (s.drop i) := rfl
          rw [h3, slSA_both (by omega) (by omega)]; rfl
        -- a step that goes on behind blanks
        have next : ∀ j, i < j → j ≤ s.length → blanksTo s i = blanksTo s j → ∃ m, m < s.length - i ∧ ∃ i' acc' t' H2, i' ≤ s.length ∧ m = s.length - i' ∧ acc'.length ≤ i' ∧ lexE s = appE acc' (lexR s i') ∧ Acc H H2 t' acc'.length 3 ∧
            (⟨mk 85 [(0, .str s), (5, .sl (tokRows acc) t), (6, .int .i64 (j : Nat))], H', []⟩ : S) = ⟨mk 85 [(0, .str s), (5, .sl (tokRows acc') t'), (6, .int .i64 (i' : Nat))], H2, []⟩ :=
          fun j h2 h3 h4 => ⟨s.length - j, by omega, j, acc, t, H', h3, rfl, by omega, by rw [hE, lexR_move (by omega) h3 h4], hA, rfl⟩
        have blank : isBlank c = true → _ := fun hb => next (i + 1) (by omega) (by omega) (blanks_blank hc hb)
        repeat' (first | ((with_reducible refine PureCall.step (rrun_pure (by omega) hi true) ?_); simp -implicitDefEqProofs only [go_sem, Nat.reduceAdd, Nat.reduceLeDiff, Nat.reduceEqDiff, Nat.reduceBEq, Nat.reduceLT, ixK_at hc, e, sl2]) | ((with_reducible refine PureCall.step (rcomment_pure _) ?_); simp -implicitDefEqProofs only [go_sem, Nat.reduceAdd, Nat.reduceLeDiff, Nat.reduceEqDiff, Nat.reduceBEq, Nat.reduceLT, ixK_at hc, e, sl2]) | (refine wpC_split rfl rfl (fun h => ?_) (fun h => ?_) <;> (try simp -implicitDefEqProofs only [go_sem, Nat.reduceAdd, Nat.reduceLeDiff, Nat.reduceEqDiff, Nat.reduceBEq, Nat.reduceLT, h, ixK_at hc, e, sl2])) | (refine plan_split rfl rfl (fun h => ?_) (fun h => ?_) <;> simp -implicitDefEqProofs only [go_sem, Nat.reduceAdd, Nat.reduceLeDiff, Nat.reduceEqDiff, Nat.reduceBEq, Nat.reduceLT, h, ixK_at hc, e, sl2]) | (refine planD_split rfl rfl (fun h => ?_) (fun h => ?_) <;> simp -implicitDefEqProofs only [go_sem, Nat.reduceAdd, Nat.reduceLeDiff, Nat.reduceEqDiff, Nat.reduceBEq, Nat.reduceLT, h, ixK_at hc, e, sl2]) | (refine go ?_; try simp -implicitDefEqProofs only [go_sem, Nat.reduceAdd, Nat.reduceLeDiff, Nat.reduceEqDiff, Nat.reduceBEq, Nat.reduceLT, ixK_at hc, e, sl2]) | ((with_reducible refine wpC_id ?_); simp -implicitDefEqProofs only [go_sem, Nat.reduceAdd, Nat.reduceLeDiff, Nat.reduceEqDiff, Nat.reduceBEq, Nat.reduceLT, ixK_at hc, e, sl2]) | ((with_reducible first | refine quiet_id ?_ | refine wrote_id ?_ | refine resQ_id ?_); simp -implicitDefEqProofs only [go_sem, Nat.reduceAdd, Nat.reduceLeDiff, Nat.reduceEqDiff, Nat.reduceBEq, Nat.reduceLT, ixK_at hc, e, sl2]) | fail)
        · exact blank (by simp_all [isBlank])
        · exact blank (by simp_all [isBlank])
        · exact blank (by simp_all [isBlank])
        · exact blank (by simp_all [isBlank])
        · -- a comment
          have g5 := h
          have hb : isBlank c = false := by simp_all [isBlank]
          rw [pfx_run hc] at g5
          have hbl := blanks_comment hc hb g5
          have hnl : iEq (uC c) 10 = false := by simp_all [isBlank]
          have hsp0 : 0 < spanN notNl (s.drop i) := by
            rw [spanN_at hc, if_pos (by simp [notNl, hnl, bNot])]; omega
          have hle := spanN_le notNl (s.drop i)
          rw [List.length_drop] at hle
          rw [wpC_loop]
          refine AC.loop (fun n st => ∃ k, k ≤ s.length ∧ n = s.length - k ∧ k + spanN notNl (s.drop k) = i + spanN notNl (s.drop i) ∧ st = ⟨mk 85 [(0, .str s), (5, .sl (tokRows acc) t), (6, .int .i64 (k : Nat))], H', []⟩) (s.length - i) ⟨i, hi, rfl, rfl, rfl⟩ ?_
          rintro n _ ⟨k, hk, rfl, hb, rfl⟩
          simp -implicitDefEqProofs only [go_sem, Nat.reduceAdd, Nat.reduceLeDiff, Nat.reduceEqDiff, Nat.reduceBEq, Nat.reduceLT, l_rTokens_0]
          refine go ?_; simp -implicitDefEqProofs only [go_sem, Nat.reduceAdd, Nat.reduceLeDiff, Nat.reduceEqDiff, Nat.reduceBEq, Nat.reduceLT]
          rcases Nat.lt_or_ge k s.length with hkl | hkl
          · obtain ⟨d, hd⟩ : ∃ d, s[k]? = some d := ⟨_, List.getElem?_eq_getElem hkl⟩
            have e2 : wAdd .i64 (k : Int) 1 = ((k + 1 : Nat) : Int) := by rw [wAdd_i64] <;> omega
            have h3 : iLt (k : Int) (sLen s) = true := by rw [iLt_true, sLen_eq]; omega
            have h4 := spanN_at (p := notNl) hd
            cases hn : notNl d with
            | true =>
              rw [hn, if_pos rfl] at h4
              have hn' : bNot (iEq (uC d) 10) = true := hn
              simp -implicitDefEqProofs only [go_sem, Nat.reduceAdd, Nat.reduceLeDiff, Nat.reduceEqDiff, Nat.reduceBEq, Nat.reduceLT, ixK_at hd, e2, h3, hn']
              repeat' (first | (refine wpC_split rfl rfl (fun h => ?_) (fun h => ?_) <;> (try simp -implicitDefEqProofs only [go_sem, Nat.reduceAdd, Nat.reduceLeDiff, Nat.reduceEqDiff, Nat.reduceBEq, Nat.reduceLT, h, ixK_at hd, e2, h3, hn'])) | (refine plan_split rfl rfl (fun h => ?_) (fun h => ?_) <;> simp -implicitDefEqProofs only [go_sem, Nat.reduceAdd, Nat.reduceLeDiff, Nat.reduceEqDiff, Nat.reduceBEq, Nat.reduceLT, h, ixK_at hd, e2, h3, hn']) | (refine planD_split rfl rfl (fun h => ?_) (fun h => ?_) <;> simp -implicitDefEqProofs only [go_sem, Nat.reduceAdd, Nat.reduceLeDiff, Nat.reduceEqDiff, Nat.reduceBEq, Nat.reduceLT, h, ixK_at hd, e2, h3, hn']) | (refine go ?_; try simp -implicitDefEqProofs only [go_sem, Nat.reduceAdd, Nat.reduceLeDiff, Nat.reduceEqDiff, Nat.reduceBEq, Nat.reduceLT, ixK_at hd, e2, h3, hn']) | ((with_reducible refine wpC_id ?_); simp -implicitDefEqProofs only [go_sem, Nat.reduceAdd, Nat.reduceLeDiff, Nat.reduceEqDiff, Nat.reduceBEq, Nat.reduceLT, ixK_at hd, e2, h3, hn']) | ((with_reducible first | refine quiet_id ?_ | refine wrote_id ?_ | refine resQ_id ?_); simp -implicitDefEqProofs only [go_sem, Nat.reduceAdd, Nat.reduceLeDiff, Nat.reduceEqDiff, Nat.reduceBEq, Nat.reduceLT, ixK_at hd, e2, h3, hn']) | fail)
              exact ⟨s.length - (k + 1), by omega, k + 1, by omega, rfl, by omega, rfl⟩
            | false =>
              rw [hn, if_neg (by simp)] at h4
              have hn' : bNot (iEq (uC d) 10) = false := hn
              simp -implicitDefEqProofs only [go_sem, Nat.reduceAdd, Nat.reduceLeDiff, Nat.reduceEqDiff, Nat.reduceBEq, Nat.reduceLT, ixK_at hd, e2, h3, hn']
              repeat' (first | (refine wpC_split rfl rfl (fun h => ?_) (fun h => ?_) <;> (try simp -implicitDefEqProofs only [go_sem, Nat.reduceAdd, Nat.reduceLeDiff, Nat.reduceEqDiff, Nat.reduceBEq, Nat.reduceLT, h, ixK_at hd, e2, h3, hn'])) | (refine plan_split rfl rfl (fun h => ?_) (fun h => ?_) <;> simp -implicitDefEqProofs only [go_sem, Nat.reduceAdd, Nat.reduceLeDiff, Nat.reduceEqDiff, Nat.reduceBEq, Nat.reduceLT, h, ixK_at hd, e2, h3, hn']) | (refine planD_split rfl rfl (fun h => ?_) (fun h => ?_) <;> simp -implicitDefEqProofs only [go_sem, Nat.reduceAdd, Nat.reduceLeDiff, Nat.reduceEqDiff, Nat.reduceBEq, Nat.reduceLT, h, ixK_at hd, e2, h3, hn']) | (refine go ?_; try simp -implicitDefEqProofs only [go_sem, Nat.reduceAdd, Nat.reduceLeDiff, Nat.reduceEqDiff, Nat.reduceBEq, Nat.reduceLT, ixK_at hd, e2, h3, hn']) | ((with_reducible refine wpC_id ?_); simp -implicitDefEqProofs only [go_sem, Nat.reduceAdd, Nat.reduceLeDiff, Nat.reduceEqDiff, Nat.reduceBEq, Nat.reduceLT, ixK_at hd, e2, h3, hn']) | ((with_reducible first | refine quiet_id ?_ | refine wrote_id ?_ | refine resQ_id ?_); simp -implicitDefEqProofs only [go_sem, Nat.reduceAdd, Nat.reduceLeDiff, Nat.reduceEqDiff, Nat.reduceBEq, Nat.reduceLT, ixK_at hd, e2, h3, hn']) | fail)
              have : k = i + spanN notNl (s.drop i) := by omega
              rw [this]
              exact next _ (by omega) (by omega) hbl
          · have h3 : iLt (k : Int) (sLen s) = false := by rw [iLt_false, sLen_eq]; omega
            have h4 : spanN notNl (s.drop k) = 0 := by rw [List.drop_eq_nil_of_le hkl]; rfl
            simp -implicitDefEqProofs only [go_sem, Nat.reduceAdd, Nat.reduceLeDiff, Nat.reduceEqDiff, Nat.reduceBEq, Nat.reduceLT, h3]
            repeat' (first | (refine wpC_split rfl rfl (fun h => ?_) (fun h => ?_) <;> (try simp -implicitDefEqProofs only [go_sem, Nat.reduceAdd, Nat.reduceLeDiff, Nat.reduceEqDiff, Nat.reduceBEq, Nat.reduceLT, h, h3])) | (refine plan_split rfl rfl (fun h => ?_) (fun h => ?_) <;> simp -implicitDefEqProofs only [go_sem, Nat.reduceAdd, Nat.reduceLeDiff, Nat.reduceEqDiff, Nat.reduceBEq, Nat.reduceLT, h, h3]) | (refine planD_split rfl rfl (fun h => ?_) (fun h => ?_) <;> simp -implicitDefEqProofs only [go_sem, Nat.reduceAdd, Nat.reduceLeDiff, Nat.reduceEqDiff, Nat.reduceBEq, Nat.reduceLT, h, h3]) | (refine go ?_; try simp -implicitDefEqProofs only [go_sem, Nat.reduceAdd, Nat.reduceLeDiff, Nat.reduceEqDiff, Nat.reduceBEq, Nat.reduceLT, h3]) | ((with_reducible refine wpC_id ?_); simp -implicitDefEqProofs only [go_sem, Nat.reduceAdd, Nat.reduceLeDiff, Nat.reduceEqDiff, Nat.reduceBEq, Nat.reduceLT, h3]) | ((with_reducible first | refine quiet_id ?_ | refine wrote_id ?_ | refine resQ_id ?_); simp -implicitDefEqProofs only [go_sem, Nat.reduceAdd, Nat.reduceLeDiff, Nat.reduceEqDiff, Nat.reduceBEq, Nat.reduceLT, h3]) | fail)
            have : k = i + spanN notNl (s.drop i) := by omega
            rw [this]
            exact next _ (by omega) (by omega) hbl
        · -- a token
          have g5 := h
          have hb : isBlank c = false := by simp_all [isBlank]
          rw [pfx_run hc] at g5
          have hbl := blanks_none hc hb g5
          have hone := rone_spec (O := lexC) (by omega) hc H'
          rw [tokAt_eq hc] at hone
          refine hone.mono ?_
          rintro r H2 ⟨hr, rfl⟩
          cases ht : tokAt s i c with
          | none =>
            have hR : lexR s i = .error i := by
              unfold lexR
              rw [lexF, hbl]
              simp only [hc, ht]
            rw [ht] at hr
            obtain ⟨k, tx, rfl⟩ := hr
            rw [hE, hR] at eP
            simp -implicitDefEqProofs only [go_sem, Nat.reduceAdd, Nat.reduceLeDiff, Nat.reduceEqDiff, Nat.reduceBEq, Nat.reduceLT]
            intro id7 h7
            simp -implicitDefEqProofs only [go_sem, Nat.reduceAdd, Nat.reduceLeDiff, Nat.reduceEqDiff, Nat.reduceBEq, Nat.reduceLT]
            repeat' (first | (refine wpC_split rfl rfl (fun h => ?_) (fun h => ?_) <;> (try simp -implicitDefEqProofs only [go_sem, Nat.reduceAdd, Nat.reduceLeDiff, Nat.reduceEqDiff, Nat.reduceBEq, Nat.reduceLT, h])) | (refine plan_split rfl rfl (fun h => ?_) (fun h => ?_) <;> simp -implicitDefEqProofs only [go_sem, Nat.reduceAdd, Nat.reduceLeDiff, Nat.reduceEqDiff, Nat.reduceBEq, Nat.reduceLT, h]) | (refine planD_split rfl rfl (fun h => ?_) (fun h => ?_) <;> simp -implicitDefEqProofs only [go_sem, Nat.reduceAdd, Nat.reduceLeDiff, Nat.reduceEqDiff, Nat.reduceBEq, Nat.reduceLT, h]) | (refine go ?_; try simp -implicitDefEqProofs only [go_sem, Nat.reduceAdd, Nat.reduceLeDiff, Nat.reduceEqDiff, Nat.reduceBEq, Nat.reduceLT]) | ((with_reducible refine wpC_id ?_); simp -implicitDefEqProofs only [go_sem, Nat.reduceAdd, Nat.reduceLeDiff, Nat.reduceEqDiff, Nat.reduceBEq, Nat.reduceLT]) | ((with_reducible first | refine quiet_id ?_ | refine wrote_id ?_ | refine resQ_id ?_); simp -implicitDefEqProofs only [go_sem, Nat.reduceAdd, Nat.reduceLeDiff, Nat.reduceEqDiff, Nat.reduceBEq, Nat.reduceLT]) | fail)
            rw [eP]
            exact ⟨_, rfl, wk_tup1 (.sl _ _), (hA.new h7 _).le⟩
          | some tk =>
            have hR : lexR s i = consE ⟨tk.1, tk.2, i⟩ (lexF s (s.length - i) (i + tk.2.length)) := by
              unfold lexR
              rw [lexF, hbl]
              simp only [hc, ht]
            rw [ht] at hr
            obtain ⟨l1, l2⟩ := tokAt_len hc ht
            simp only [OneRes] at hr
            subst hr
            simp -implicitDefEqProofs only [go_sem, Nat.reduceAdd, Nat.reduceLeDiff, Nat.reduceEqDiff, Nat.reduceBEq, Nat.reduceLT]
            intro id7 h7
            simp -implicitDefEqProofs only [go_sem, Nat.reduceAdd, Nat.reduceLeDiff, Nat.reduceEqDiff, Nat.reduceBEq, Nat.reduceLT]
            repeat' (first | (refine wpC_split rfl rfl (fun h => ?_) (fun h => ?_) <;> (try simp -implicitDefEqProofs only [go_sem, Nat.reduceAdd, Nat.reduceLeDiff, Nat.reduceEqDiff, Nat.reduceBEq, Nat.reduceLT, h])) | (refine plan_split rfl rfl (fun h => ?_) (fun h => ?_) <;> simp -implicitDefEqProofs only [go_sem, Nat.reduceAdd, Nat.reduceLeDiff, Nat.reduceEqDiff, Nat.reduceBEq, Nat.reduceLT, h]) | (refine planD_split rfl rfl (fun h => ?_) (fun h => ?_) <;> simp -implicitDefEqProofs only [go_sem, Nat.reduceAdd, Nat.reduceLeDiff, Nat.reduceEqDiff, Nat.reduceBEq, Nat.reduceLT, h]) | (refine go ?_; try simp -implicitDefEqProofs only [go_sem, Nat.reduceAdd, Nat.reduceLeDiff, Nat.reduceEqDiff, Nat.reduceBEq, Nat.reduceLT]) | ((with_reducible refine wpC_id ?_); simp -implicitDefEqProofs only [go_sem, Nat.reduceAdd, Nat.reduceLeDiff, Nat.reduceEqDiff, Nat.reduceBEq, Nat.reduceLT]) | ((with_reducible first | refine quiet_id ?_ | refine wrote_id ?_ | refine resQ_id ?_); simp -implicitDefEqProofs only [go_sem, Nat.reduceAdd, Nat.reduceLeDiff, Nat.reduceEqDiff, Nat.reduceBEq, Nat.reduceLT]) | fail)
            refine (hA.new h7 _).app (tokRows_len _) (by simp) (tokRows_sz _) (by simp) (by simp [AVal.one]) (by simp; omega) fun t' H3 hA2 hk => ?_
            have h72 := hk id7 _ (Hp.upd_same _ _ _) (by simp)
            have e2 : wAdd .i64 (i : Int) (sLen tk.2) = ((i + tk.2.length : Nat) : Int) := by rw [sLen_eq, wAdd_i64] <;> omega
            repeat' (first | (refine wpC_split rfl rfl (fun h => ?_) (fun h => ?_) <;> (try simp -implicitDefEqProofs only [go_sem, Nat.reduceAdd, Nat.reduceLeDiff, Nat.reduceEqDiff, Nat.reduceBEq, Nat.reduceLT, h, h72, e2])) | (refine plan_split rfl rfl (fun h => ?_) (fun h => ?_) <;> simp -implicitDefEqProofs only [go_sem, Nat.reduceAdd, Nat.reduceLeDiff, Nat.reduceEqDiff, Nat.reduceBEq, Nat.reduceLT, h, h72, e2]) | (refine planD_split rfl rfl (fun h => ?_) (fun h => ?_) <;> simp -implicitDefEqProofs only [go_sem, Nat.reduceAdd, Nat.reduceLeDiff, Nat.reduceEqDiff, Nat.reduceBEq, Nat.reduceLT, h, h72, e2]) | (refine go ?_; try simp -implicitDefEqProofs only [go_sem, Nat.reduceAdd, Nat.reduceLeDiff, Nat.reduceEqDiff, Nat.reduceBEq, Nat.reduceLT, h72, e2]) | ((with_reducible refine wpC_id ?_); simp -implicitDefEqProofs only [go_sem, Nat.reduceAdd, Nat.reduceLeDiff, Nat.reduceEqDiff, Nat.reduceBEq, Nat.reduceLT, h72, e2]) | ((with_reducible first | refine quiet_id ?_ | refine wrote_id ?_ | refine resQ_id ?_); simp -implicitDefEqProofs only [go_sem, Nat.reduceAdd, Nat.reduceLeDiff, Nat.reduceEqDiff, Nat.reduceBEq, Nat.reduceLT, h72, e2]) | fail)
            refine ⟨s.length - (i + tk.2.length), by omega, i + tk.2.length, acc ++ [⟨tk.1, tk.2, i⟩], t', H3, l2, rfl, by simp; omega, ?_, by simpa using hA2, ?_⟩
            · rw [hE, hR]
              unfold lexR
              rw [lexF_fuel s _ _ l2 (by omega)]
              cases lexF s (s.length - (i + tk.2.length) + 1) (i + tk.2.length) <;> simp [appE, consE]
            · have := tokRows_app acc ⟨tk.1, tk.2, i⟩
              simp only at this
              rw [this]
      · have hge := iLt_false.1 h
        rw [sLen_eq] at hge
        have hi2 : i = s.length := by omega
        have hR : lexR s i = .ok [⟨7, [], s.length⟩] := by
          unfold lexR
          rw [lexF, hi2, blanks_end, List.getElem?_eq_none (Nat.le_refl _)]
        rw [hE, hR] at eP
        repeat' (first | (refine wpC_split rfl rfl (fun h => ?_) (fun h => ?_) <;> (try simp -implicitDefEqProofs only [go_sem, Nat.reduceAdd, Nat.reduceLeDiff, Nat.reduceEqDiff, Nat.reduceBEq, Nat.reduceLT, h, sLen_eq])) | (refine plan_split rfl rfl (fun h => ?_) (fun h => ?_) <;> simp -implicitDefEqProofs only [go_sem, Nat.reduceAdd, Nat.reduceLeDiff, Nat.reduceEqDiff, Nat.reduceBEq, Nat.reduceLT, h, sLen_eq]) | (refine planD_split rfl rfl (fun h => ?_) (fun h => ?_) <;> simp -implicitDefEqProofs only [go_sem, Nat.reduceAdd, Nat.reduceLeDiff, Nat.reduceEqDiff, Nat.reduceBEq, Nat.reduceLT, h, sLen_eq]) | (refine go ?_; try simp -implicitDefEqProofs only [go_sem, Nat.reduceAdd, Nat.reduceLeDiff, Nat.reduceEqDiff, Nat.reduceBEq, Nat.reduceLT, sLen_eq]) | ((with_reducible refine wpC_id ?_); simp -implicitDefEqProofs only [go_sem, Nat.reduceAdd, Nat.reduceLeDiff, Nat.reduceEqDiff, Nat.reduceBEq, Nat.reduceLT, sLen_eq]) | ((with_reducible first | refine quiet_id ?_ | refine wrote_id ?_ | refine resQ_id ?_); simp -implicitDefEqProofs only [go_sem, Nat.reduceAdd, Nat.reduceLeDiff, Nat.reduceEqDiff, Nat.reduceBEq, Nat.reduceLT, sLen_eq]) | fail)
        refine hA.app (tokRows_len _) (by simp) (tokRows_sz _) (by simp) (by simp [AVal.one]) (by simp; omega) fun t' H2 hA2 hk => ?_
        simp -implicitDefEqProofs only [go_sem, Nat.reduceAdd, Nat.reduceLeDiff, Nat.reduceEqDiff, Nat.reduceBEq, Nat.reduceLT]
        repeat' (first | (refine wpC_split rfl rfl (fun h => ?_) (fun h => ?_) <;> (try simp -implicitDefEqProofs only [go_sem, Nat.reduceAdd, Nat.reduceLeDiff, Nat.reduceEqDiff, Nat.reduceBEq, Nat.reduceLT, h])) | (refine plan_split rfl rfl (fun h => ?_) (fun h => ?_) <;> simp -implicitDefEqProofs only [go_sem, Nat.reduceAdd, Nat.reduceLeDiff, Nat.reduceEqDiff, Nat.reduceBEq, Nat.reduceLT, h]) | (refine planD_split rfl rfl (fun h => ?_) (fun h => ?_) <;> simp -implicitDefEqProofs only [go_sem, Nat.reduceAdd, Nat.reduceLeDiff, Nat.reduceEqDiff, Nat.reduceBEq, Nat.reduceLT, h]) | (refine go ?_; try simp -implicitDefEqProofs only [go_sem, Nat.reduceAdd, Nat.reduceLeDiff, Nat.reduceEqDiff, Nat.reduceBEq, Nat.reduceLT]) | ((with_reducible refine wpC_id ?_); simp -implicitDefEqProofs only [go_sem, Nat.reduceAdd, Nat.reduceLeDiff, Nat.reduceEqDiff, Nat.reduceBEq, Nat.reduceLT]) | ((with_reducible first | refine quiet_id ?_ | refine wrote_id ?_ | refine resQ_id ?_); simp -implicitDefEqProofs only [go_sem, Nat.reduceAdd, Nat.reduceLeDiff, Nat.reduceEqDiff, Nat.reduceBEq, Nat.reduceLT]) | fail)
        rw [eP]
        refine ⟨_, rfl, wk_tup1 ?_, hA2.le⟩
        have := tokRows_app acc ⟨7, [], s.length⟩
        simp only at this
        rw [this]
        exact .sl _ _

end Go.Proofs.YtkcljempplchkaaDoor

/- The examples; the laws on tokens and on names. -/
set_option maxRecDepth 100000
set_option linter.unusedVariables false
set_option linter.unusedSimpArgs false
namespace Go.Proofs.YtkcljempplchkaaDoor
open Go.Eng

theorem lex1 : lexP [102, 32, 120, 32, 61, 32, 120, 43, 43, 121] = ([⟨1, [102], 0⟩, ⟨1, [120], 2⟩, ⟨5, [61], 4⟩, ⟨1, [120], 6⟩, ⟨3, [43, 43], 7⟩, ⟨1, [121], 9⟩, ⟨7, [], 10⟩], 0, 0) := by kernel_rfl
theorem lex2 : lexP [48, 49] = ([], 0, 4) := by kernel_rfl
theorem lex3 : lexP [39, 90] = ([⟨5, [39], 0⟩, ⟨2, [90], 1⟩, ⟨7, [], 2⟩], 0, 0) := by kernel_rfl


theorem awake_pure : PureCall lexC f_awake [] (.bool true) := fun H => by
  have t1 := Tokens_pure [102, 32, 120, 32, 61, 32, 120, 43, 43, 121]; rw [lex1] at t1
  have t2 := Tokens_pure [48, 49]; rw [lex2] at t2
  have t3 := Tokens_pure [39, 90]; rw [lex3] at t3
  simp only [tokRows, List.map_cons, List.map_nil, tokRow] at t1 t2 t3
  have i4 : iaddrA 3 [[.int .i64 1, .str [102], .int .i64 0], [.int .i64 1, .str [120], .int .i64 2], [.int .i64 5, .str [61], .int .i64 4], [.int .i64 1, .str [120], .int .i64 6], [.int .i64 3, .str [43, 43], .int .i64 7], [.int .i64 1, .str [121], .int .i64 9], [.int .i64 7, .str [], .int .i64 10]] 4 = some (.ip [.int .i64 3, .str [43, 43], .int .i64 7]) := rfl
  have i6 : iaddrA 3 [[.int .i64 1, .str [102], .int .i64 0], [.int .i64 1, .str [120], .int .i64 2], [.int .i64 5, .str [61], .int .i64 4], [.int .i64 1, .str [120], .int .i64 6], [.int .i64 3, .str [43, 43], .int .i64 7], [.int .i64 1, .str [121], .int .i64 9], [.int .i64 7, .str [], .int .i64 10]] 6 = some (.ip [.int .i64 7, .str [], .int .i64 10]) := rfl
  have i0 : iaddrA 3 [[.int .i64 5, .str [39], .int .i64 0], [.int .i64 2, .str [90], .int .i64 1], [.int .i64 7, .str [], .int .i64 2]] 0 = some (.ip [.int .i64 5, .str [39], .int .i64 0]) := rfl
  have r7 : rLen [[.int .i64 1, .str [102], .int .i64 0], [.int .i64 1, .str [120], .int .i64 2], [.int .i64 5, .str [61], .int .i64 4], [.int .i64 1, .str [120], .int .i64 6], [.int .i64 3, .str [43, 43], .int .i64 7], [.int .i64 1, .str [121], .int .i64 9], [.int .i64 7, .str [], .int .i64 10]] = 7 := rfl
  have r3 : rLen [[.int .i64 5, .str [39], .int .i64 0], [.int .i64 2, .str [90], .int .i64 1], [.int .i64 7, .str [], .int .i64 2]] = 3 := rfl
  have q : eqCells [(0, .int), (1, .str), (2, .int)] [.int .i64 3, .str [43, 43], .int .i64 7] [.int .i64 3, .str [43, 43], .int .i64 7] = some true := by decide
  have z0 : ((0 : Nat) : Int) = 0 := rfl
  refine entry h_awake rfl ?_; simp -implicitDefEqProofs only [go_sem, Nat.reduceAdd, Nat.reduceLeDiff, Nat.reduceEqDiff, Nat.reduceBEq, Nat.reduceLT, c_awake]
  repeat' (first | ((with_reducible refine PureCall.step (t1) ?_); simp -implicitDefEqProofs only [go_sem, Nat.reduceAdd, Nat.reduceLeDiff, Nat.reduceEqDiff, Nat.reduceBEq, Nat.reduceLT, i4, i6, i0, r7, r3, q, z0]) | ((with_reducible refine PureCall.step (t2) ?_); simp -implicitDefEqProofs only [go_sem, Nat.reduceAdd, Nat.reduceLeDiff, Nat.reduceEqDiff, Nat.reduceBEq, Nat.reduceLT, i4, i6, i0, r7, r3, q, z0]) | ((with_reducible refine PureCall.step (t3) ?_); simp -implicitDefEqProofs only [go_sem, Nat.reduceAdd, Nat.reduceLeDiff, Nat.reduceEqDiff, Nat.reduceBEq, Nat.reduceLT, i4, i6, i0, r7, r3, q, z0]) | (refine wpC_split rfl rfl (fun h => ?_) (fun h => ?_) <;> (try simp -implicitDefEqProofs only [go_sem, Nat.reduceAdd, Nat.reduceLeDiff, Nat.reduceEqDiff, Nat.reduceBEq, Nat.reduceLT, h, i4, i6, i0, r7, r3, q, z0])) | (refine plan_split rfl rfl (fun h => ?_) (fun h => ?_) <;> simp -implicitDefEqProofs only [go_sem, Nat.reduceAdd, Nat.reduceLeDiff, Nat.reduceEqDiff, Nat.reduceBEq, Nat.reduceLT, h, i4, i6, i0, r7, r3, q, z0]) | (refine planD_split rfl rfl (fun h => ?_) (fun h => ?_) <;> simp -implicitDefEqProofs only [go_sem, Nat.reduceAdd, Nat.reduceLeDiff, Nat.reduceEqDiff, Nat.reduceBEq, Nat.reduceLT, h, i4, i6, i0, r7, r3, q, z0]) | (refine go ?_; try simp -implicitDefEqProofs only [go_sem, Nat.reduceAdd, Nat.reduceLeDiff, Nat.reduceEqDiff, Nat.reduceBEq, Nat.reduceLT, i4, i6, i0, r7, r3, q, z0]) | ((with_reducible refine wpC_id ?_); simp -implicitDefEqProofs only [go_sem, Nat.reduceAdd, Nat.reduceLeDiff, Nat.reduceEqDiff, Nat.reduceBEq, Nat.reduceLT, i4, i6, i0, r7, r3, q, z0]) | ((with_reducible first | refine quiet_id ?_ | refine wrote_id ?_ | refine resQ_id ?_); simp -implicitDefEqProofs only [go_sem, Nat.reduceAdd, Nat.reduceLeDiff, Nat.reduceEqDiff, Nat.reduceBEq, Nat.reduceLT, i4, i6, i0, r7, r3, q, z0]) | fail)

theorem lexF_len (s : List UInt8) : ∀ (f i : Nat) (l : List Token), i ≤ s.length → lexF s f i = .ok l → l.length + i ≤ s.length + 1
  | 0, i, l, _, h => by cases h
  | f + 1, i, l, hi, h => by
    obtain ⟨b1, b2⟩ := blanksTo_le hi
    rw [lexF] at h
    split at h
    · cases h; simp; omega
    · rename_i c hc
      split at h
      · cases h
      · rename_i t ht
        obtain ⟨h1, h2⟩ := tokAt_len hc ht
        cases hr : lexF s f (blanksTo s i + t.2.length) with
        | error e => rw [hr] at h; cases h
        | ok r =>
          rw [hr] at h
          cases h
          have := lexF_len s f _ r h2 hr
          simp; omega
theorem lexP_len (s : List UInt8) : (lexP s).1.length < 1000000 := by
  unfold lexP
  split
  · simp
  · cases h : lexE s with
    | error e => simp [lexRes]
    | ok l =>
      have := lexF_len s _ _ l (Nat.zero_le _) h
      simp only [lexRes]
      omega

theorem sameT_self (w : Bool) (x : Token) : sameT w x x = true := by simp [sameT, iEq_self, sEq_self]
theorem sameL_self (w : Bool) : ∀ l : List Token, sameL w l l = true
  | [] => rfl
  | x :: l => by rw [sameL, sameT_self, sameL_self w l]; rfl

theorem LawTokens_pure (s : List UInt8) : PureCall lexC f_LawTokens [.str s] (.bool true) := fun H => by
  have hlen := lexP_len s
  have hs := rSame_pure (O := lexC) _ _ hlen hlen .no .no true
  rw [sameL_self] at hs
  refine entry h_LawTokens rfl ?_; simp -implicitDefEqProofs only [go_sem, Nat.reduceAdd, Nat.reduceLeDiff, Nat.reduceEqDiff, Nat.reduceBEq, Nat.reduceLT, c_LawTokens]
  repeat' (first | ((with_reducible refine PureCall.step (Tokens_pure _) ?_); simp -implicitDefEqProofs only [go_sem, Nat.reduceAdd, Nat.reduceLeDiff, Nat.reduceEqDiff, Nat.reduceBEq, Nat.reduceLT]) | ((with_reducible refine PureCall.step (rTokens_pure _) ?_); simp -implicitDefEqProofs only [go_sem, Nat.reduceAdd, Nat.reduceLeDiff, Nat.reduceEqDiff, Nat.reduceBEq, Nat.reduceLT]) | ((with_reducible refine PureCall.step (hs) ?_); simp -implicitDefEqProofs only [go_sem, Nat.reduceAdd, Nat.reduceLeDiff, Nat.reduceEqDiff, Nat.reduceBEq, Nat.reduceLT]) | ((with_reducible refine PureCall.step (awake_pure) ?_); simp -implicitDefEqProofs only [go_sem, Nat.reduceAdd, Nat.reduceLeDiff, Nat.reduceEqDiff, Nat.reduceBEq, Nat.reduceLT]) | (refine wpC_split rfl rfl (fun h => ?_) (fun h => ?_) <;> (try simp -implicitDefEqProofs only [go_sem, Nat.reduceAdd, Nat.reduceLeDiff, Nat.reduceEqDiff, Nat.reduceBEq, Nat.reduceLT, h])) | (refine plan_split rfl rfl (fun h => ?_) (fun h => ?_) <;> simp -implicitDefEqProofs only [go_sem, Nat.reduceAdd, Nat.reduceLeDiff, Nat.reduceEqDiff, Nat.reduceBEq, Nat.reduceLT, h]) | (refine planD_split rfl rfl (fun h => ?_) (fun h => ?_) <;> simp -implicitDefEqProofs only [go_sem, Nat.reduceAdd, Nat.reduceLeDiff, Nat.reduceEqDiff, Nat.reduceBEq, Nat.reduceLT, h]) | (refine go ?_; try simp -implicitDefEqProofs only [go_sem, Nat.reduceAdd, Nat.reduceLeDiff, Nat.reduceEqDiff, Nat.reduceBEq, Nat.reduceLT]) | ((with_reducible refine wpC_id ?_); simp -implicitDefEqProofs only [go_sem, Nat.reduceAdd, Nat.reduceLeDiff, Nat.reduceEqDiff, Nat.reduceBEq, Nat.reduceLT]) | ((with_reducible first | refine quiet_id ?_ | refine wrote_id ?_ | refine resQ_id ?_); simp -implicitDefEqProofs only [go_sem, Nat.reduceAdd, Nat.reduceLeDiff, Nat.reduceEqDiff, Nat.reduceBEq, Nat.reduceLT]) | fail)

theorem LawNames_pure (s : List UInt8) : PureCall lexC f_LawNames [.str s] (.bool true) := fun H => by
  have hw := rSameStrings_pure (O := lexC) words words (by decide) (by decide) .no .full
  rw [beq_self_eq_true] at hw
  refine entry h_LawNames rfl ?_; simp -implicitDefEqProofs only [go_sem, Nat.reduceAdd, Nat.reduceLeDiff, Nat.reduceEqDiff, Nat.reduceBEq, Nat.reduceLT, c_LawNames]
  repeat' (first | ((with_reducible refine PureCall.step (IsSmall_pure _) ?_); simp -implicitDefEqProofs only [go_sem, Nat.reduceAdd, Nat.reduceLeDiff, Nat.reduceEqDiff, Nat.reduceBEq, Nat.reduceLT, IsSmall_eq, IsCapital_eq, IsOp_eq]) | ((with_reducible refine PureCall.step (rIsSmall_pure _) ?_); simp -implicitDefEqProofs only [go_sem, Nat.reduceAdd, Nat.reduceLeDiff, Nat.reduceEqDiff, Nat.reduceBEq, Nat.reduceLT, IsSmall_eq, IsCapital_eq, IsOp_eq]) | ((with_reducible refine PureCall.step (IsCapital_pure _) ?_); simp -implicitDefEqProofs only [go_sem, Nat.reduceAdd, Nat.reduceLeDiff, Nat.reduceEqDiff, Nat.reduceBEq, Nat.reduceLT, IsSmall_eq, IsCapital_eq, IsOp_eq]) | ((with_reducible refine PureCall.step (rIsCapital_pure _) ?_); simp -implicitDefEqProofs only [go_sem, Nat.reduceAdd, Nat.reduceLeDiff, Nat.reduceEqDiff, Nat.reduceBEq, Nat.reduceLT, IsSmall_eq, IsCapital_eq, IsOp_eq]) | ((with_reducible refine PureCall.step (IsOp_pure _) ?_); simp -implicitDefEqProofs only [go_sem, Nat.reduceAdd, Nat.reduceLeDiff, Nat.reduceEqDiff, Nat.reduceBEq, Nat.reduceLT, IsSmall_eq, IsCapital_eq, IsOp_eq]) | ((with_reducible refine PureCall.step (rIsOp_pure _) ?_); simp -implicitDefEqProofs only [go_sem, Nat.reduceAdd, Nat.reduceLeDiff, Nat.reduceEqDiff, Nat.reduceBEq, Nat.reduceLT, IsSmall_eq, IsCapital_eq, IsOp_eq]) | ((with_reducible refine PureCall.step (Words_pure) ?_); simp -implicitDefEqProofs only [go_sem, Nat.reduceAdd, Nat.reduceLeDiff, Nat.reduceEqDiff, Nat.reduceBEq, Nat.reduceLT, IsSmall_eq, IsCapital_eq, IsOp_eq]) | ((with_reducible refine PureCall.step (rWords_pure) ?_); simp -implicitDefEqProofs only [go_sem, Nat.reduceAdd, Nat.reduceLeDiff, Nat.reduceEqDiff, Nat.reduceBEq, Nat.reduceLT, IsSmall_eq, IsCapital_eq, IsOp_eq]) | ((with_reducible refine PureCall.step (hw) ?_); simp -implicitDefEqProofs only [go_sem, Nat.reduceAdd, Nat.reduceLeDiff, Nat.reduceEqDiff, Nat.reduceBEq, Nat.reduceLT, IsSmall_eq, IsCapital_eq, IsOp_eq]) | ((with_reducible refine PureCall.step (awake_pure) ?_); simp -implicitDefEqProofs only [go_sem, Nat.reduceAdd, Nat.reduceLeDiff, Nat.reduceEqDiff, Nat.reduceBEq, Nat.reduceLT, IsSmall_eq, IsCapital_eq, IsOp_eq]) | (refine wpC_split rfl rfl (fun h => ?_) (fun h => ?_) <;> (try simp -implicitDefEqProofs only [go_sem, Nat.reduceAdd, Nat.reduceLeDiff, Nat.reduceEqDiff, Nat.reduceBEq, Nat.reduceLT, h, IsSmall_eq, IsCapital_eq, IsOp_eq])) | (refine plan_split rfl rfl (fun h => ?_) (fun h => ?_) <;> simp -implicitDefEqProofs only [go_sem, Nat.reduceAdd, Nat.reduceLeDiff, Nat.reduceEqDiff, Nat.reduceBEq, Nat.reduceLT, h, IsSmall_eq, IsCapital_eq, IsOp_eq]) | (refine planD_split rfl rfl (fun h => ?_) (fun h => ?_) <;> simp -implicitDefEqProofs only [go_sem, Nat.reduceAdd, Nat.reduceLeDiff, Nat.reduceEqDiff, Nat.reduceBEq, Nat.reduceLT, h, IsSmall_eq, IsCapital_eq, IsOp_eq]) | (refine go ?_; try simp -implicitDefEqProofs only [go_sem, Nat.reduceAdd, Nat.reduceLeDiff, Nat.reduceEqDiff, Nat.reduceBEq, Nat.reduceLT, IsSmall_eq, IsCapital_eq, IsOp_eq]) | ((with_reducible refine wpC_id ?_); simp -implicitDefEqProofs only [go_sem, Nat.reduceAdd, Nat.reduceLeDiff, Nat.reduceEqDiff, Nat.reduceBEq, Nat.reduceLT, IsSmall_eq, IsCapital_eq, IsOp_eq]) | ((with_reducible first | refine quiet_id ?_ | refine wrote_id ?_ | refine resQ_id ?_); simp -implicitDefEqProofs only [go_sem, Nat.reduceAdd, Nat.reduceLeDiff, Nat.reduceEqDiff, Nat.reduceBEq, Nat.reduceLT, IsSmall_eq, IsCapital_eq, IsOp_eq]) | fail)

end Go.Proofs.YtkcljempplchkaaDoor

