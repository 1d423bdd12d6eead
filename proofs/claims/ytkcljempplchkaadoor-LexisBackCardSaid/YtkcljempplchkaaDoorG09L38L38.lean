/- LexisBack: the law answers true. -/
import Derived.Test.YtkcljempplchkaaDoorG08LF0L36
set_option maxRecDepth 100000
set_option linter.unusedVariables false
set_option linter.unusedSimpArgs false
namespace Go.Proofs.YtkcljempplchkaaDoor
open Go.Eng

/-- Where a token stands. -/
theorem tok_place {s : List UInt8} {p : Nat} {x : TokR} {r : List TokR} (hp : p ≤ s.length) (h : lexT (s.drop p) = some (x :: r)) :
    ∃ a : Nat, (conv s.length x).pos = (a : Int) ∧ p ≤ a ∧ a + x.2.1.length ≤ s.length ∧ (s.take (a + x.2.1.length)).drop a = x.2.1 ∧
      ((x.1 = 7 ∧ r = [] ∧ x.2.1 = [] ∧ a = s.length) ∨ (iEq x.1 7 = false ∧ r ≠ [] ∧ sEq x.2.1 [] = false ∧ lexT (s.drop (a + x.2.1.length)) = some r)) := by
  rcases lexT_inv h with ⟨h1, h2⟩ | ⟨v, t, ts', hv, hne, ht, h', h2⟩
  · simp only [List.cons.injEq] at h2
    obtain ⟨rfl, rfl⟩ := h2
    exact ⟨s.length, rfl, hp, by simp, by simp, .inl ⟨rfl, rfl, rfl, rfl⟩⟩
  · simp only [List.cons.injEq] at h2
    obtain ⟨rfl, rfl⟩ := h2
    obtain ⟨k1, k2⟩ := tokS_kind ht
    obtain ⟨k3, k4⟩ := tokS_len ht
    obtain ⟨w, hw⟩ := bl_suffix _ (s.drop p) rfl
    rw [hv] at hw
    have hlen := congrArg List.length hw
    rw [List.length_drop, List.length_append] at hlen
    have hva : v = s.drop (s.length - v.length) := by
      have e1 : s.drop (s.length - v.length) = (s.drop p).drop w.length := by
        rw [List.drop_drop]; congr 1; omega
      rw [e1, hw, List.drop_left]
    have htx := tokS_text ht
    refine ⟨s.length - v.length, rfl, by omega, by simp only; omega, ?_, .inr ⟨k2, lexT_ne h', ?_, ?_⟩⟩
    · simp only
      rw [List.drop_take, show s.length - v.length + t.2.length - (s.length - v.length) = t.2.length by omega, ← hva, htx]
      conv => lhs; rw [List.take_left' rfl]
    · cases hs : sEq t.2 [] with
      | false => rfl
      | true => have := sEq_true.1 hs; rw [this] at k3; simp at k3
    · simp only
      rw [← List.drop_drop, ← hva]; exact h'

theorem last_tok {s : List UInt8} {ts : List TokR} : ∀ (n : Nat) (l : List UInt8) (ts : List TokR), l.length = n → lexT l = some ts → ∃ r, ts = r ++ [(7, [], 0)] := by
  intro n
  induction n using Nat.strongRecOn with
  | _ n ih =>
    intro l ts hn h
    rcases lexT_inv h with ⟨h1, rfl⟩ | ⟨v, t, ts', hv, hne, ht, h', rfl⟩
    · exact ⟨[], rfl⟩
    · obtain ⟨k3, k4⟩ := tokS_len ht
      have hb := bl_len _ l rfl
      rw [hv] at hb
      obtain ⟨r, rfl⟩ := ih _ (by rw [List.length_drop]; omega) _ ts' rfl h'
      exact ⟨_ :: r, rfl⟩

theorem LawBack_pure (s : List UInt8) (hs : s.length ≤ 140737488351232) : PureCall lexC f_LawBack [.str s] (.bool true) := by
  have z0 : ((0 : Nat) : Int) = 0 := rfl
  have z5 : iEq 5 0 = false := by decide
  have z4 : iEq 4 0 = false := by decide
  have z54 : iEq 5 4 = false := by decide
  have z55 : iEq 5 5 = true := by decide
  have z44 : iEq 4 4 = true := by decide
  have z00 : iEq 0 0 = true := by decide
  by_cases h12 : 12000 < s.length
  · have t1 := Tokens_pure s
    rw [show lexP s = ([], 0, 5) by rw [lexP, if_pos h12]] at t1
    have g1 : iLt 12000 (sLen s) = true := by rw [sLen_eq, iLt_true]; omega
    have g2 : iEq (rLen (tokRows [])) 0 = true := by decide
    intro H
    refine entry h_LawBack rfl ?_; simp -implicitDefEqProofs only [go_sem, Nat.reduceAdd, Nat.reduceLeDiff, Nat.reduceEqDiff, Nat.reduceBEq, Nat.reduceLT, c_LawBack]
    repeat' (first | ((with_reducible refine PureCall.step (t1) ?_); simp -implicitDefEqProofs only [go_sem, Nat.reduceAdd, Nat.reduceLeDiff, Nat.reduceEqDiff, Nat.reduceBEq, Nat.reduceLT, z0, z5, z54, z55, g1, g2]) | ((with_reducible refine PureCall.step (awake_pure) ?_); simp -implicitDefEqProofs only [go_sem, Nat.reduceAdd, Nat.reduceLeDiff, Nat.reduceEqDiff, Nat.reduceBEq, Nat.reduceLT, z0, z5, z54, z55, g1, g2]) | (refine wpC_split rfl rfl (fun h => ?_) (fun h => ?_) <;> (try simp -implicitDefEqProofs only [go_sem, Nat.reduceAdd, Nat.reduceLeDiff, Nat.reduceEqDiff, Nat.reduceBEq, Nat.reduceLT, h, z0, z5, z54, z55, g1, g2])) | (refine plan_split rfl rfl (fun h => ?_) (fun h => ?_) <;> simp -implicitDefEqProofs only [go_sem, Nat.reduceAdd, Nat.reduceLeDiff, Nat.reduceEqDiff, Nat.reduceBEq, Nat.reduceLT, h, z0, z5, z54, z55, g1, g2]) | (refine planD_split rfl rfl (fun h => ?_) (fun h => ?_) <;> simp -implicitDefEqProofs only [go_sem, Nat.reduceAdd, Nat.reduceLeDiff, Nat.reduceEqDiff, Nat.reduceBEq, Nat.reduceLT, h, z0, z5, z54, z55, g1, g2]) | (refine go ?_; try simp -implicitDefEqProofs only [go_sem, Nat.reduceAdd, Nat.reduceLeDiff, Nat.reduceEqDiff, Nat.reduceBEq, Nat.reduceLT, z0, z5, z54, z55, g1, g2]) | ((with_reducible refine wpC_id ?_); simp -implicitDefEqProofs only [go_sem, Nat.reduceAdd, Nat.reduceLeDiff, Nat.reduceEqDiff, Nat.reduceBEq, Nat.reduceLT, z0, z5, z54, z55, g1, g2]) | ((with_reducible first | refine quiet_id ?_ | refine wrote_id ?_ | refine resQ_id ?_); simp -implicitDefEqProofs only [go_sem, Nat.reduceAdd, Nat.reduceLeDiff, Nat.reduceEqDiff, Nat.reduceBEq, Nat.reduceLT, z0, z5, z54, z55, g1, g2]) | fail)
  · cases hE : lexE s with
    | error e =>
      have t1 := Tokens_pure s
      rw [show lexP s = ([], e, 4) by rw [lexP, if_neg h12, hE]; rfl] at t1
      have g2 : iEq (rLen (tokRows [])) 0 = true := by decide
      intro H
      refine entry h_LawBack rfl ?_; simp -implicitDefEqProofs only [go_sem, Nat.reduceAdd, Nat.reduceLeDiff, Nat.reduceEqDiff, Nat.reduceBEq, Nat.reduceLT, c_LawBack]
      repeat' (first | ((with_reducible refine PureCall.step (t1) ?_); simp -implicitDefEqProofs only [go_sem, Nat.reduceAdd, Nat.reduceLeDiff, Nat.reduceEqDiff, Nat.reduceBEq, Nat.reduceLT, z0, z4, z44, g2]) | ((with_reducible refine PureCall.step (awake_pure) ?_); simp -implicitDefEqProofs only [go_sem, Nat.reduceAdd, Nat.reduceLeDiff, Nat.reduceEqDiff, Nat.reduceBEq, Nat.reduceLT, z0, z4, z44, g2]) | (refine wpC_split rfl rfl (fun h => ?_) (fun h => ?_) <;> (try simp -implicitDefEqProofs only [go_sem, Nat.reduceAdd, Nat.reduceLeDiff, Nat.reduceEqDiff, Nat.reduceBEq, Nat.reduceLT, h, z0, z4, z44, g2])) | (refine plan_split rfl rfl (fun h => ?_) (fun h => ?_) <;> simp -implicitDefEqProofs only [go_sem, Nat.reduceAdd, Nat.reduceLeDiff, Nat.reduceEqDiff, Nat.reduceBEq, Nat.reduceLT, h, z0, z4, z44, g2]) | (refine planD_split rfl rfl (fun h => ?_) (fun h => ?_) <;> simp -implicitDefEqProofs only [go_sem, Nat.reduceAdd, Nat.reduceLeDiff, Nat.reduceEqDiff, Nat.reduceBEq, Nat.reduceLT, h, z0, z4, z44, g2]) | (refine go ?_; try simp -implicitDefEqProofs only [go_sem, Nat.reduceAdd, Nat.reduceLeDiff, Nat.reduceEqDiff, Nat.reduceBEq, Nat.reduceLT, z0, z4, z44, g2]) | ((with_reducible refine wpC_id ?_); simp -implicitDefEqProofs only [go_sem, Nat.reduceAdd, Nat.reduceLeDiff, Nat.reduceEqDiff, Nat.reduceBEq, Nat.reduceLT, z0, z4, z44, g2]) | ((with_reducible first | refine quiet_id ?_ | refine wrote_id ?_ | refine resQ_id ?_); simp -implicitDefEqProofs only [go_sem, Nat.reduceAdd, Nat.reduceLeDiff, Nat.reduceEqDiff, Nat.reduceBEq, Nat.reduceLT, z0, z4, z44, g2]) | fail)
    | ok l =>
      have t1 := Tokens_pure s
      rw [show lexP s = (l, 0, 0) by rw [lexP, if_neg h12, hE]; rfl] at t1
      simp only at t1
      obtain ⟨ts, hts, hl⟩ := lexE_tokens.1 hE
      have hll : l.length ≤ s.length + 1 := by have := lexF_len s _ _ l (Nat.zero_le _) hE; omega
      have hlt : l.length = ts.length := by rw [hl, List.length_map]
      obtain ⟨rr, hrr⟩ := last_tok (s := s) (ts := ts) _ s ts rfl hts
      have hlp : 0 < l.length := by rw [hlt, hrr]; simp
      have hl0 : iEq (rLen (tokRows l)) 0 = false := by rw [rLen_tok, iEq_false]; omega
      have hsub : wSub .i64 (rLen (tokRows l)) 1 = ((l.length - 1 : Nat) : Int) := by rw [rLen_tok, wSub_i64] <;> omega
      obtain ⟨j, m, hJ, hM, hS⟩ := join_back hE
      have hjl := joinF_len _ _ _ _ hJ
      have hkl : ∀ d ∈ l, d.text.length ≤ 281474976710656 := fun d hd => by
        rw [hl] at hd
        obtain ⟨t, ht, rfl⟩ := List.mem_map.1 hd
        have := isKind_len (lexT_kinds _ s ts rfl hts t ht)
        show t.2.1.length ≤ _
        omega
      have hj := Join_pure l .no (by omega) hkl
      rw [hJ] at hj
      simp only [joinT] at hj
      have hlast : l[l.length - 1]? = some ⟨7, [], (s.length : Int)⟩ := by
        rw [hlt, hl, hrr]; simp [conv]
      refine entryF h_LawBack rfl fun H => ?_; simp -implicitDefEqProofs only [go_sem, Nat.reduceAdd, Nat.reduceLeDiff, Nat.reduceEqDiff, Nat.reduceBEq, Nat.reduceLT, c_LawBack]
      refine go ?_; simp -implicitDefEqProofs only [go_sem, Nat.reduceAdd, Nat.reduceLeDiff, Nat.reduceEqDiff, Nat.reduceBEq, Nat.reduceLT]
      refine PureCall.step t1 ?_; simp -implicitDefEqProofs only [go_sem, Nat.reduceAdd, Nat.reduceLeDiff, Nat.reduceEqDiff, Nat.reduceBEq, Nat.reduceLT]
      (refine go ?_; simp -implicitDefEqProofs only [go_sem, Nat.reduceAdd, Nat.reduceLeDiff, Nat.reduceEqDiff, Nat.reduceBEq, Nat.reduceLT, z0, z00]); (refine go ?_; simp -implicitDefEqProofs only [go_sem, Nat.reduceAdd, Nat.reduceLeDiff, Nat.reduceEqDiff, Nat.reduceBEq, Nat.reduceLT, z0, z00]); (refine go ?_; simp -implicitDefEqProofs only [go_sem, Nat.reduceAdd, Nat.reduceLeDiff, Nat.reduceEqDiff, Nat.reduceBEq, Nat.reduceLT, z0, z00])
      refine AC.cut (fun st => ∃ (b : Int) (H' : Hp), H.le H' ∧ st = ⟨mk 145 [(0, .str s), (3, .sl (tokRows l) .no), (6, .int .i64 b), (42, .sl (tokRows l) .no), (43, .int .i64 (rLen (tokRows l))), (44, .int .i64 (l.length : Int))], H', []⟩) ?_ ?_
      · refine go ?_; simp -implicitDefEqProofs only [go_sem, Nat.reduceAdd, Nat.reduceLeDiff, Nat.reduceEqDiff, Nat.reduceBEq, Nat.reduceLT]
        refine go ?_; simp -implicitDefEqProofs only [go_sem, Nat.reduceAdd, Nat.reduceLeDiff, Nat.reduceEqDiff, Nat.reduceBEq, Nat.reduceLT]
        rw [wpC_loop]
        refine AC.loop (fun n st => ∃ (i p : Nat) (H' : Hp), i + n = l.length ∧ H.le H' ∧ p ≤ s.length ∧ (i < l.length → lexT (s.drop p) = some (ts.drop i)) ∧
          st = ⟨mk 145 [(0, .str s), (3, .sl (tokRows l) .no), (6, .int .i64 (p : Int)), (42, .sl (tokRows l) .no), (43, .int .i64 (rLen (tokRows l))), (44, .int .i64 (i : Int))], H', []⟩) l.length ⟨0, 0, H, by omega, fun _ _ h => h, Nat.zero_le _, fun _ => hts, rfl⟩ ?_
        rintro n _ ⟨i, p, H', hi, hH, hp, hL, rfl⟩
        simp -implicitDefEqProofs only [go_sem, Nat.reduceAdd, Nat.reduceLeDiff, Nat.reduceEqDiff, Nat.reduceBEq, Nat.reduceLT, l_LawBack_0]
        refine go ?_; simp -implicitDefEqProofs only [go_sem, Nat.reduceAdd, Nat.reduceLeDiff, Nat.reduceEqDiff, Nat.reduceBEq, Nat.reduceLT]
        refine go ?_
        refine wpC_split rfl rfl (fun h => ?_) (fun h => ?_) <;> simp -implicitDefEqProofs only [go_sem, Nat.reduceAdd, Nat.reduceLeDiff, Nat.reduceEqDiff, Nat.reduceBEq, Nat.reduceLT]
        · have hlt2 := iLt_true.1 h
          rw [rLen_tok] at hlt2
          have hil : i < l.length := by omega
          obtain ⟨x, hx⟩ : ∃ x, ts[i]? = some x := ⟨_, List.getElem?_eq_getElem (by omega)⟩
          have hd : l[i]? = some (conv s.length x) := by rw [hl, List.getElem?_map, hx]; rfl
          have hdrop : ts.drop i = x :: ts.drop (i + 1) := by
            have hi2 := (List.getElem?_eq_some_iff.1 hx).1
            rw [List.drop_eq_getElem_cons hi2]
            rw [List.getElem?_eq_getElem hi2] at hx
            cases hx; rfl
          have hL2 := hL hil
          rw [hdrop] at hL2
          obtain ⟨a, ha, hpa, hae, hsl, hcase⟩ := tok_place hp hL2
          have ek : (conv s.length x).kind = x.1 := rfl
          have et : (conv s.length x).text = x.2.1 := rfl
          have ix := iaddrA_tok hd
          rw [ha, ek, et] at ix
          have e : wAdd .i64 (i : Int) 1 = ((i + 1 : Nat) : Int) := by rw [wAdd_i64] <;> omega
          have e2 : wAdd .i64 (a : Int) (sLen x.2.1) = ((a + x.2.1.length : Nat) : Int) := by rw [sLen_eq, wAdd_i64] <;> omega
          have c1 : iLt (a : Int) (p : Int) = false := by rw [iLt_false]; omega
          have c2 : iLt (sLen s) ((a + x.2.1.length : Nat) : Int) = false := by rw [sLen_eq, iLt_false]; omega
          have c3 : slSA s (some (.int .i64 (a : Int))) (some (.int .i64 ((a + x.2.1.length : Nat) : Int))) = some (.str x.2.1) := by rw [slSA_both (by omega) hae, hsl]
          refine go ?_; simp -implicitDefEqProofs only [go_sem, Nat.reduceAdd, Nat.reduceLeDiff, Nat.reduceEqDiff, Nat.reduceBEq, Nat.reduceLT, ix]
          intro id hid
          simp -implicitDefEqProofs only [go_sem, Nat.reduceAdd, Nat.reduceLeDiff, Nat.reduceEqDiff, Nat.reduceBEq, Nat.reduceLT]
          have hle : H.le (H'.upd id (.cells [.int .i64 x.1, .str x.2.1, .int .i64 (a : Int)])) := fun j o hj => le_upd hid j o (hH j o hj)
          have hb := Hp.upd_same H' id (.cells [.int .i64 x.1, .str x.2.1, .int .i64 (a : Int)])
          generalize H'.upd id (.cells [.int .i64 x.1, .str x.2.1, .int .i64 (a : Int)]) = H2 at hle hb
          refine go ?_; simp -implicitDefEqProofs only [go_sem, Nat.reduceAdd, Nat.reduceLeDiff, Nat.reduceEqDiff, Nat.reduceBEq, Nat.reduceLT, hb, e2]
          rcases hcase with ⟨q1, q2, q3, q4⟩ | ⟨q1, q2, q3, q4⟩
          · have hil2 : i = l.length - 1 := by
              have := congrArg List.length q2
              rw [List.length_drop, List.length_nil] at this; omega
            have c4 : iEq x.1 7 = true := by rw [q1]; decide
            have c5 : iEq (i : Int) ((l.length - 1 : Nat) : Int) = true := by rw [iEq_true]; omega
            have c6 : sEq x.2.1 [] = true := by rw [q3]; decide
            repeat' (first | (refine wpC_split rfl rfl (fun h => ?_) (fun h => ?_) <;> (try simp -implicitDefEqProofs only [go_sem, Nat.reduceAdd, Nat.reduceLeDiff, Nat.reduceEqDiff, Nat.reduceBEq, Nat.reduceLT, h, hb, e, c1, c2, c3, c4, c5, c6, hsub, sEq_self])) | (refine plan_split rfl rfl (fun h => ?_) (fun h => ?_) <;> simp -implicitDefEqProofs only [go_sem, Nat.reduceAdd, Nat.reduceLeDiff, Nat.reduceEqDiff, Nat.reduceBEq, Nat.reduceLT, h, hb, e, c1, c2, c3, c4, c5, c6, hsub, sEq_self]) | (refine planD_split rfl rfl (fun h => ?_) (fun h => ?_) <;> simp -implicitDefEqProofs only [go_sem, Nat.reduceAdd, Nat.reduceLeDiff, Nat.reduceEqDiff, Nat.reduceBEq, Nat.reduceLT, h, hb, e, c1, c2, c3, c4, c5, c6, hsub, sEq_self]) | (refine go ?_; try simp -implicitDefEqProofs only [go_sem, Nat.reduceAdd, Nat.reduceLeDiff, Nat.reduceEqDiff, Nat.reduceBEq, Nat.reduceLT, hb, e, c1, c2, c3, c4, c5, c6, hsub, sEq_self]) | ((with_reducible refine wpC_id ?_); simp -implicitDefEqProofs only [go_sem, Nat.reduceAdd, Nat.reduceLeDiff, Nat.reduceEqDiff, Nat.reduceBEq, Nat.reduceLT, hb, e, c1, c2, c3, c4, c5, c6, hsub, sEq_self]) | ((with_reducible first | refine quiet_id ?_ | refine wrote_id ?_ | refine resQ_id ?_); simp -implicitDefEqProofs only [go_sem, Nat.reduceAdd, Nat.reduceLeDiff, Nat.reduceEqDiff, Nat.reduceBEq, Nat.reduceLT, hb, e, c1, c2, c3, c4, c5, c6, hsub, sEq_self]) | fail)
            exact ⟨n - 1, by omega, i + 1, a + x.2.1.length, H2, by omega, hle, hae, fun h => absurd h (by omega), rfl⟩
          · have hil2 : i < l.length - 1 := by
              have : 0 < (ts.drop (i + 1)).length := List.length_pos_iff.2 q2
              rw [List.length_drop] at this; omega
            have c5 : iEq (i : Int) ((l.length - 1 : Nat) : Int) = false := by rw [iEq_false]; omega
            repeat' (first | (refine wpC_split rfl rfl (fun h => ?_) (fun h => ?_) <;> (try simp -implicitDefEqProofs only [go_sem, Nat.reduceAdd, Nat.reduceLeDiff, Nat.reduceEqDiff, Nat.reduceBEq, Nat.reduceLT, h, hb, e, c1, c2, c3, q1, c5, q3, hsub, sEq_self])) | (refine plan_split rfl rfl (fun h => ?_) (fun h => ?_) <;> simp -implicitDefEqProofs only [go_sem, Nat.reduceAdd, Nat.reduceLeDiff, Nat.reduceEqDiff, Nat.reduceBEq, Nat.reduceLT, h, hb, e, c1, c2, c3, q1, c5, q3, hsub, sEq_self]) | (refine planD_split rfl rfl (fun h => ?_) (fun h => ?_) <;> simp -implicitDefEqProofs only [go_sem, Nat.reduceAdd, Nat.reduceLeDiff, Nat.reduceEqDiff, Nat.reduceBEq, Nat.reduceLT, h, hb, e, c1, c2, c3, q1, c5, q3, hsub, sEq_self]) | (refine go ?_; try simp -implicitDefEqProofs only [go_sem, Nat.reduceAdd, Nat.reduceLeDiff, Nat.reduceEqDiff, Nat.reduceBEq, Nat.reduceLT, hb, e, c1, c2, c3, q1, c5, q3, hsub, sEq_self]) | ((with_reducible refine wpC_id ?_); simp -implicitDefEqProofs only [go_sem, Nat.reduceAdd, Nat.reduceLeDiff, Nat.reduceEqDiff, Nat.reduceBEq, Nat.reduceLT, hb, e, c1, c2, c3, q1, c5, q3, hsub, sEq_self]) | ((with_reducible first | refine quiet_id ?_ | refine wrote_id ?_ | refine resQ_id ?_); simp -implicitDefEqProofs only [go_sem, Nat.reduceAdd, Nat.reduceLeDiff, Nat.reduceEqDiff, Nat.reduceBEq, Nat.reduceLT, hb, e, c1, c2, c3, q1, c5, q3, hsub, sEq_self]) | fail)
            exact ⟨n - 1, by omega, i + 1, a + x.2.1.length, H2, by omega, hle, hae, fun _ => q4, rfl⟩
        · have hge := iLt_false.1 h
          rw [rLen_tok] at hge
          have : i = l.length := by omega
          subst this
          exact ⟨_, H', hH, rfl⟩
      · rintro _ ⟨b, H', hH, rfl⟩
        refine go ?_; simp -implicitDefEqProofs only [go_sem, Nat.reduceAdd, Nat.reduceLeDiff, Nat.reduceEqDiff, Nat.reduceBEq, Nat.reduceLT]
        refine PureCall.step hj ?_; simp -implicitDefEqProofs only [go_sem, Nat.reduceAdd, Nat.reduceLeDiff, Nat.reduceEqDiff, Nat.reduceBEq, Nat.reduceLT]
        have ix := iaddrA_tok hlast
        have c1 : iEq (s.length : Int) (sLen s) = true := by rw [sLen_eq, iEq_true]
        (refine go ?_; simp -implicitDefEqProofs only [go_sem, Nat.reduceAdd, Nat.reduceLeDiff, Nat.reduceEqDiff, Nat.reduceBEq, Nat.reduceLT, z00, hl0, hsub, ix, c1])
        by_cases hj12 : 12000 < j.length
        · have t2 := Tokens_pure j
          rw [show lexP j = ([], 0, 5) by rw [lexP, if_pos hj12]] at t2
          have g1 : iLt 12000 (sLen j) = true := by rw [sLen_eq, iLt_true]; omega
          repeat' (first | ((with_reducible refine PureCall.step (t2) ?_); simp -implicitDefEqProofs only [go_sem, Nat.reduceAdd, Nat.reduceLeDiff, Nat.reduceEqDiff, Nat.reduceBEq, Nat.reduceLT, z0, g1, z55]) | ((with_reducible refine PureCall.step (awake_pure) ?_); simp -implicitDefEqProofs only [go_sem, Nat.reduceAdd, Nat.reduceLeDiff, Nat.reduceEqDiff, Nat.reduceBEq, Nat.reduceLT, z0, g1, z55]) | (refine wpC_split rfl rfl (fun h => ?_) (fun h => ?_) <;> (try simp -implicitDefEqProofs only [go_sem, Nat.reduceAdd, Nat.reduceLeDiff, Nat.reduceEqDiff, Nat.reduceBEq, Nat.reduceLT, h, z0, g1, z55])) | (refine plan_split rfl rfl (fun h => ?_) (fun h => ?_) <;> simp -implicitDefEqProofs only [go_sem, Nat.reduceAdd, Nat.reduceLeDiff, Nat.reduceEqDiff, Nat.reduceBEq, Nat.reduceLT, h, z0, g1, z55]) | (refine planD_split rfl rfl (fun h => ?_) (fun h => ?_) <;> simp -implicitDefEqProofs only [go_sem, Nat.reduceAdd, Nat.reduceLeDiff, Nat.reduceEqDiff, Nat.reduceBEq, Nat.reduceLT, h, z0, g1, z55]) | (refine go ?_; try simp -implicitDefEqProofs only [go_sem, Nat.reduceAdd, Nat.reduceLeDiff, Nat.reduceEqDiff, Nat.reduceBEq, Nat.reduceLT, z0, g1, z55]) | ((with_reducible refine wpC_id ?_); simp -implicitDefEqProofs only [go_sem, Nat.reduceAdd, Nat.reduceLeDiff, Nat.reduceEqDiff, Nat.reduceBEq, Nat.reduceLT, z0, g1, z55]) | ((with_reducible first | refine quiet_id ?_ | refine wrote_id ?_ | refine resQ_id ?_); simp -implicitDefEqProofs only [go_sem, Nat.reduceAdd, Nat.reduceLeDiff, Nat.reduceEqDiff, Nat.reduceBEq, Nat.reduceLT, z0, g1, z55]) | fail)
          exact ⟨_, rfl, .refl _, hH⟩
        · have t2 := Tokens_pure j
          rw [show lexP j = (m, 0, 0) by rw [lexP, if_neg hj12, hM]; rfl] at t2
          simp only at t2
          have g1 : iLt 12000 (sLen j) = false := by rw [sLen_eq, iLt_false]; omega
          have hml : m.length ≤ j.length + 1 := by have := lexF_len j _ _ m (Nat.zero_le _) hM; omega
          have hsm := rSame_pure (O := lexC) l m (by omega) (by omega) .no .no false
          rw [hS] at hsm
          repeat' (first | ((with_reducible refine PureCall.step (t2) ?_); simp -implicitDefEqProofs only [go_sem, Nat.reduceAdd, Nat.reduceLeDiff, Nat.reduceEqDiff, Nat.reduceBEq, Nat.reduceLT, z0, g1, z00]) | ((with_reducible refine PureCall.step (hsm) ?_); simp -implicitDefEqProofs only [go_sem, Nat.reduceAdd, Nat.reduceLeDiff, Nat.reduceEqDiff, Nat.reduceBEq, Nat.reduceLT, z0, g1, z00]) | ((with_reducible refine PureCall.step (awake_pure) ?_); simp -implicitDefEqProofs only [go_sem, Nat.reduceAdd, Nat.reduceLeDiff, Nat.reduceEqDiff, Nat.reduceBEq, Nat.reduceLT, z0, g1, z00]) | (refine wpC_split rfl rfl (fun h => ?_) (fun h => ?_) <;> (try simp -implicitDefEqProofs only [go_sem, Nat.reduceAdd, Nat.reduceLeDiff, Nat.reduceEqDiff, Nat.reduceBEq, Nat.reduceLT, h, z0, g1, z00])) | (refine plan_split rfl rfl (fun h => ?_) (fun h => ?_) <;> simp -implicitDefEqProofs only [go_sem, Nat.reduceAdd, Nat.reduceLeDiff, Nat.reduceEqDiff, Nat.reduceBEq, Nat.reduceLT, h, z0, g1, z00]) | (refine planD_split rfl rfl (fun h => ?_) (fun h => ?_) <;> simp -implicitDefEqProofs only [go_sem, Nat.reduceAdd, Nat.reduceLeDiff, Nat.reduceEqDiff, Nat.reduceBEq, Nat.reduceLT, h, z0, g1, z00]) | (refine go ?_; try simp -implicitDefEqProofs only [go_sem, Nat.reduceAdd, Nat.reduceLeDiff, Nat.reduceEqDiff, Nat.reduceBEq, Nat.reduceLT, z0, g1, z00]) | ((with_reducible refine wpC_id ?_); simp -implicitDefEqProofs only [go_sem, Nat.reduceAdd, Nat.reduceLeDiff, Nat.reduceEqDiff, Nat.reduceBEq, Nat.reduceLT, z0, g1, z00]) | ((with_reducible first | refine quiet_id ?_ | refine wrote_id ?_ | refine resQ_id ?_); simp -implicitDefEqProofs only [go_sem, Nat.reduceAdd, Nat.reduceLeDiff, Nat.reduceEqDiff, Nat.reduceBEq, Nat.reduceLT, z0, g1, z00]) | fail)
          exact ⟨_, rfl, .refl _, hH⟩

end Go.Proofs.YtkcljempplchkaaDoor

