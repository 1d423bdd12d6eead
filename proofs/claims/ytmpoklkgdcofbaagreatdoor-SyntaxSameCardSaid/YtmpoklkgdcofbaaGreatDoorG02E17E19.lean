/- The plan of a region whose order is open holds whatever the order: the theorem. -/
import Derived.Test.YtmpoklkgdcofbaaGreatDoorG01E10E16
import Derived.Scope
set_option linter.unusedVariables false
set_option linter.unusedSimpArgs false
namespace Go.Eng
open Go.RowKit (Below)

theorem ready_spec {ops : Array Oper} {listed : Array Bool} (hs : listed.size = ops.size) {i : Nat} (h : i ∈ Region.ready .any ops listed) :
    i < ops.size ∧ ¬ LS listed i ∧ ∃ o, ops[i]? = some o ∧ ∀ e ∈ o.after, Region.binds .any e = true → LS listed e.on := by
  simp only [Region.ready, List.mem_filter, List.mem_range, Bool.and_eq_true, Bool.not_eq_true'] at h
  obtain ⟨h1, h2, h3⟩ := h
  refine ⟨h1, ?_, ?_⟩
  · unfold LS
    simp only [Array.getD_eq_getD_getElem?, Array.getElem?_eq_getElem (hs ▸ h1 : i < listed.size), Option.getD_some] at h2 ⊢
    simp [h2]
  · rw [Array.getElem?_eq_getElem h1] at h3
    refine ⟨_, Array.getElem?_eq_getElem h1, fun e he hb => ?_⟩
    simp only [Option.map_some, Option.getD_some, Array.all_eq_true'] at h3
    have := h3 e he
    simpa [hb, LS] using this

theorem ready_of {ops : Array Oper} {listed : Array Bool} (hs : listed.size = ops.size) {i : Nat} {o : Oper} (ho : ops[i]? = some o) (hl : ¬ LS listed i) (h : ∀ e ∈ o.after, Region.binds .any e = true → LS listed e.on) :
    i ∈ Region.ready .any ops listed := by
  have hi : i < ops.size := (Array.getElem?_eq_some_iff.1 ho).1
  simp only [Region.ready, List.mem_filter, List.mem_range, Bool.and_eq_true, Bool.not_eq_true']
  refine ⟨hi, ?_, ?_⟩
  · unfold LS at hl
    simp only [Array.getD_eq_getD_getElem?, Array.getElem?_eq_getElem (hs ▸ hi : i < listed.size), Option.getD_some] at hl ⊢
    simpa using hl
  · rw [ho]
    simp only [Option.map_some, Option.getD_some, Array.all_eq_true']
    intro e he
    cases hb : Region.binds .any e with
    | false => rfl
    | true => simpa [LS] using h e he hb

/-- How many are still to come. -/
def leftN (listed : Array Bool) : Nat := listed.toList.countP (· == false)

theorem leftN_set {listed : Array Bool} {i : Nat} (hi : i < listed.size) (hl : ¬ LS listed i) : leftN (listed.setIfInBounds i true) + 1 = leftN listed := by
  have h0 : listed.toList[i]'(by simpa using hi) = false := by
    unfold LS at hl
    simp only [Array.getD_eq_getD_getElem?, Array.getElem?_eq_getElem hi, Option.getD_some] at hl
    simpa using hl
  have h1 : 0 < listed.toList.countP (· == false) := List.countP_pos_iff.2 ⟨_, List.getElem_mem (by simpa using hi), by rw [h0]; rfl⟩
  unfold leftN
  rw [Array.toList_setIfInBounds, List.countP_set (by simpa using hi), h0]
  simp only [beq_self_eq_true, if_true]
  rw [if_neg (by decide)]
  omega

theorem leftN_zero {listed : Array Bool} (h : leftN listed = 0) {i : Nat} (hi : i < listed.size) : LS listed i := by
  unfold leftN at h
  have := List.countP_eq_zero.1 h (listed.toList[i]'(by simpa using hi)) (List.getElem_mem _)
  unfold LS
  simp only [Array.getD_eq_getD_getElem?, Array.getElem?_eq_getElem hi, Option.getD_some]
  simpa using this

theorem put_size (a : Act) (d : Option Nat) (u : Value) : (a.put d u).tmps.size = a.tmps.size := by cases d <;> simp [Act.put]
theorem put_ne {a : Act} {d : Option Nat} {u : Value} {t : Nat} (h : d ≠ some t) : (a.put d u).tmps[t]? = a.tmps[t]? := by
  cases d with
  | none => rfl
  | some d => simp only [Act.put, Array.getElem?_setIfInBounds]; rw [if_neg (fun e => h (by rw [e]))]
theorem put_eq {a : Act} {d : Nat} {u v : Value} (h : (a.put (some d) u).tmps[d]? = some v) : v = u := by
  simp only [Act.put, Array.getElem?_setIfInBounds, if_pos] at h
  split at h
  · cases h; rfl
  · cases h

section
variable {O : Cfg} {P : Program} {base : Nat} {w0 : World} {Q : Post} {sp : S} {ops : Array Oper} {rs : List DRec} {H0 : Hp} {G0 : Gh} {w1 : World}

open Classical in
/-- What the slots are known to hold now. -/
noncomputable def maskTm (rs : List DRec) (listed : Array Bool) (p : Nat) (tm : List AVal) : List AVal :=
  tm.mapIdx fun t av => if (∀ (k : Nat) x, rs[k]? = some x → x.op.dst = some t → k < p ∧ LS listed x.i) then av else .unk

theorem DInv.mask {listed : Array Bool} {p : Nat} {s : S} {G : Gh} {w : World} {a : Act} {β : Nat → Nat} (h : DInv O P base w0 Q sp ops rs H0 G0 w1 listed p s G w a β) : Reps G w (maskTm rs listed p s.tm) a.tmps.toList := by
  refine ⟨by simp [maskTm, h.tlen], fun t av u hav hu => ?_⟩
  simp only [maskTm, List.getElem?_mapIdx] at hav
  cases hs : s.tm[t]? with
  | none => rw [hs] at hav; cases hav
  | some v =>
    rw [hs] at hav
    simp only [Option.map_some, Option.some.injEq] at hav
    split at hav
    · rename_i hc; subst hav; exact h.tm t v u hs (by simpa using hu) hc
    · subst hav; exact .unk _

theorem mask_ins (st : Stat P ops rs) {listed : Array Bool} {p : Nat} {s : S} (hd : DC ops listed) {k : Nat} {x : DRec} (hx : rs[k]? = some x) (hk : k ≤ p) {o : Oper} (ho : ops[x.i]? = some o) (he : ∀ e ∈ o.after, Region.binds .any e = true → LS listed e.on) :
    ∀ t ∈ x.op.ins, (maskTm rs listed p s.tm).getD t .unk = s.tm.getD t .unk := by
  intro t ht
  simp only [maskTm, List.getD_eq_getElem?_getD, List.getElem?_mapIdx]
  cases hs : s.tm[t]? with
  | none => rfl
  | some v =>
    simp only [Option.map_some, Option.getD_some]
    rw [if_pos]
    intro l y hy hdy
    rcases Nat.lt_trichotomy l k with hlk | hlk | hlk
    · exact ⟨by omega, st.anc listed hd k x o hx ho he _ ((pair_dst (st.pair l k y x hlk hy hx) hdy).2 ht)⟩
    · subst hlk
      rw [hx] at hy; cases hy
      exact absurd ht (self_dst (st.self l x hx) hdy)
    · exact absurd ht (pair_anti (st.pair k l x y hlk hx hy) hdy)

theorem DC.set {listed : Array Bool} (hd : DC ops listed) (hs : listed.size = ops.size) {i : Nat} {o : Oper} (ho : ops[i]? = some o) (he : ∀ e ∈ o.after, Region.binds .any e = true → LS listed e.on) : DC ops (listed.setIfInBounds i true) := by
  have hi : i < listed.size := by rw [hs]; exact (Array.getElem?_eq_some_iff.1 ho).1
  intro j o' ho' hj e h1 h2
  rw [LS.set hi] at hj ⊢
  rcases hj with rfl | hj
  · rw [ho] at ho'; cases ho'
    exact .inr (he e h1 h2)
  · exact .inr (hd j o' ho' hj e h1 h2)

theorem same_pos (st : Stat P ops rs) {k l : Nat} {x y : DRec} (hx : rs[k]? = some x) (hy : rs[l]? = some y) (h : x.i = y.i) : k = l := by
  rcases Nat.lt_trichotomy k l with hlk | hlk | hlk
  · exact absurd h (pair_ne (st.pair k l x y hlk hx hy))
  · exact hlk
  · exact absurd h.symm (pair_ne (st.pair l k y x hlk hy hx))

theorem dst_ne (st : Stat P ops rs) {k l : Nat} {x y : DRec} (hx : rs[k]? = some x) (hy : rs[l]? = some y) (h : k ≠ l) {d : Nat} (hd : y.op.dst = some d) : x.op.dst ≠ some d := by
  rcases Nat.lt_trichotomy k l with hlk | hlk | hlk
  · exact fun e => (pair_dst (st.pair k l x y hlk hx hy) e).1 hd
  · exact absurd hlk h
  · exact (pair_dst (st.pair l k y x hlk hy hx) hd).1

/-- The one that is next in the plan comes up. -/
theorem DInv.next (st : Stat P ops rs) {listed : Array Bool} {p : Nat} {s : S} {G : Gh} {w : World} {a : Act} {β : Nat → Nat} (h : DInv O P base w0 Q sp ops rs H0 G0 w1 listed p s G w a β)
    {x : DRec} (hx : rs[p]? = some x) {o : Oper} (ho : ops[x.i]? = some o) (hnl : ¬ LS listed x.i) (he : ∀ e ∈ o.after, Region.binds .any e = true → LS listed e.on)
    {v : AVal} {u : Value} {H' : Hp} {ds' : List ADef} {df : List Deferred} {G' : Gh} {w' : World} (hpl : planD O P Q sp ((attach [] rs).drop (p + 1)) ⟨setTm s.tm x.op.dst v, H', ds'⟩)
    (hr : Rep G' w' v u) (hw : Wr base w0 H' G' w') (hg : GExt G w G' w') (hf : Fr s.hp G w H' G' w') (hds : DsRep G' w' ds' df)
    (hlate : ∀ (k : Nat) y, rs[k]? = some y → k < p → ¬ LS listed y.i → y.op.op.heapy = true → gdA y.op.gd s.tm = some true → ∀ v0, rop y.op.op s.tm s.hp = some v0 → (∀ d, y.op.dst = some d → d < s.tm.length → s.tm[d]? = some v0) →
      ∃ v', rop y.op.op (setTm s.tm x.op.dst v) H' = some v' ∧ ∀ d, y.op.dst = some d → d < s.tm.length → (setTm s.tm x.op.dst v)[d]? = some v') :
    DInv O P base w0 Q sp ops rs H0 G0 w1 (listed.setIfInBounds x.i true) (p + 1) ⟨setTm s.tm x.op.dst v, H', ds'⟩ G' w' (({ a with defers := df } : Act).put x.op.dst u) β := by
  have hi : x.i < listed.size := by rw [h.size]; exact self_lt (st.self p x hx)
  have back : ∀ (k : Nat) y, rs[k]? = some y → k ≠ p → LS (listed.setIfInBounds x.i true) y.i → LS listed y.i := fun k y hy hk hl => by
    rw [LS.set hi] at hl
    rcases hl with e | hl
    · exact absurd (same_pos st hy hx e) hk
    · exact hl
  refine ⟨by simpa using h.size, h.dc.set h.size ho he, hpl, hw, h.ext.trans hg, h.fr.trans h.ext.size hf, by rw [put_defers]; exact hds, fun k y hy hk hc => ?_, fun k y hy hk hl => h.early k y hy (by omega) (back k y hy (by omega) hl), ?_, fun t av u' hav hu hcond => ?_, ?_, fun k y hy hk hl => ?_, fun k y hy hk hl => ?_, fun k l y z hy hz hk hl h1 h2 => h.inj k l y z hy hz (by omega) (by omega) (back k y hy (by omega) h1) (back l z hz (by omega) h2), h.spun⟩
  · rw [LS.set hi]
    rcases Nat.lt_or_ge k p with hk' | hk'
    · exact .inr (h.done k y hy hk' hc)
    · have : k = p := by omega
      subst this
      rw [hx] at hy; cases hy
      exact .inl rfl
  · rw [put_size, setTm_len]; exact h.tlen
  · by_cases e : x.op.dst = some t
    · simp only [e] at hav hu
      rw [setTm_get, if_pos rfl] at hav
      split at hav
      · cases hav
        rw [put_eq hu]; exact hr
      · cases hav
    · simp only at hav
      rw [setTm_ne e] at hav
      rw [put_ne e] at hu
      refine (h.tm t av u' hav hu fun k y hy hdy => ?_).mono hg
      obtain ⟨q1, q2⟩ := hcond k y hy hdy
      have hkp : k ≠ p := fun e' => by
        subst e'
        rw [hx] at hy; cases hy
        exact e hdy
      exact ⟨by omega, back k y hy hkp q2⟩
  · exact Reps.put_unk (a := { a with defers := df }) (h.sptm.mono hg) x.op.dst (h.spun p x hx)
  · have hkp : k ≠ p := fun e => by
      subst e
      rw [hx] at hy; cases hy
      exact hl ((LS.set hi).2 (.inl rfl))
    have hk' : k < p := by omega
    have hl' : ¬ LS listed y.i := fun e => hl ((LS.set hi).2 (.inr e))
    have hanti : ∀ t ∈ y.op.ins, (setTm s.tm x.op.dst v).getD t .unk = s.tm.getD t .unk := fun t ht => setTm_getD (fun e => pair_anti (st.pair k p y x hk' hy hx) e ht)
    have hdne : ∀ d', y.op.dst = some d' → (setTm s.tm x.op.dst v)[d']? = s.tm[d']? := fun d' hd' => setTm_ne (fun e => (pair_dst (st.pair k p y x hk' hy hx) hd').1 e)
    rcases h.late k y hy hk' hl' with ⟨g1, v', g2, g3⟩ | ⟨g1, g2⟩
    · refine .inl ⟨by rw [gd_ins hanti]; exact g1, ?_⟩
      cases hh : y.op.op.heapy with
      | false =>
        refine ⟨v', by rw [rop_congr (ev_ins hanti), rop_pure hh _ _ s.hp]; exact g2, fun d' hd' hlt => ?_⟩
        rw [hdne d' hd']
        exact g3 d' hd' (by simpa [setTm_len] using hlt)
      | true =>
        obtain ⟨v2, k1, k2⟩ := hlate k y hy hk' hl' hh g1 v' g2 g3
        exact ⟨v2, k1, fun d' hd' hlt => k2 d' hd' (by simpa [setTm_len] using hlt)⟩
    · refine .inr ⟨by rw [gd_ins hanti]; exact g1, fun d' hd' hlt => ?_⟩
      rw [hdne d' hd']
      exact g2 d' hd' (by simpa [setTm_len] using hlt)
  · have hkp : k ≠ p := by omega
    obtain ⟨q1, q2, q3, q4, q5, q6⟩ := h.ear k y hy (by omega) (back k y hy hkp hl)
    obtain ⟨f1, f2⟩ := hf.kept _ q3 q5
    refine ⟨q1, q2, Nat.lt_of_lt_of_le q3 hg.size, by rw [f2]; exact q4, hf.unk _ q3 q5, ?_⟩
    have hput : ∀ d, y.op.dst = some d → (({ a with defers := df } : Act).put x.op.dst u).tmps[d]? = a.tmps[d]? := fun d hd => put_ne (dst_ne st hx hy (fun e => hkp e.symm) hd)
    revert q6
    split
    · intro ⟨vs, ty, r1, r2, r3⟩
      exact ⟨vs, ty, by rw [f1]; exact r1, r2.mono hg, fun d u' hd hu => r3 d u' hd (by rw [← hput d hd]; exact hu)⟩
    · intro ⟨r1, r3⟩
      exact ⟨by rw [f1]; exact r1, fun d u' hd hu => r3 d u' hd (by rw [← hput d hd]; exact hu)⟩
    · exact fun q => q

/-- A quiet one of those before comes up late. -/
theorem DInv.later (st : Stat P ops rs) {listed : Array Bool} {p : Nat} {s : S} {G : Gh} {w : World} {a : Act} {β : Nat → Nat} (h : DInv O P base w0 Q sp ops rs H0 G0 w1 listed p s G w a β)
    {k : Nat} (hk : k < p) {x : DRec} (hx : rs[k]? = some x) {o : Oper} (ho : ops[x.i]? = some o) (hnl : ¬ LS listed x.i) (he : ∀ e ∈ o.after, Region.binds .any e = true → LS listed e.on)
    {v : AVal} {u : Value} {w' : World} (hslot : ∀ d, x.op.dst = some d → d < s.tm.length → s.tm[d]? = some v)
    (hr : Rep G w' v u) (hw : Wr base w0 s.hp G w') (hg : GExt G w G w') (hf : Fr s.hp G w s.hp G w') :
    DInv O P base w0 Q sp ops rs H0 G0 w1 (listed.setIfInBounds x.i true) p s G w' (a.put x.op.dst u) β := by
  have hi : x.i < listed.size := by rw [h.size]; exact self_lt (st.self k x hx)
  have back : ∀ (l : Nat) y, rs[l]? = some y → l ≠ k → LS (listed.setIfInBounds x.i true) y.i → LS listed y.i := fun l y hy hl hh => by
    rw [LS.set hi] at hh
    rcases hh with e | hh
    · exact absurd (same_pos st hy hx e) hl
    · exact hh
  refine ⟨by simpa using h.size, h.dc.set h.size ho he, h.pl, hw, h.ext.trans hg, h.fr.trans h.ext.size hf, by rw [put_defers]; exact h.ds.mono hg, fun l y hy hl hc => (LS.set hi).2 (.inr (h.done l y hy hl hc)), fun l y hy hl hh => h.early l y hy hl (back l y hy (by omega) hh), by rw [put_size]; exact h.tlen, fun t av u' hav hu hcond => ?_, Reps.put_unk (h.sptm.mono hg) x.op.dst (h.spun k x hx), fun l y hy hl hh => h.late l y hy hl (fun e => hh ((LS.set hi).2 (.inr e))), fun l y hy hl hh => ?_, fun l m y z hy hz hl hm h1 h2 => h.inj l m y z hy hz hl hm (back l y hy (by omega) h1) (back m z hz (by omega) h2), h.spun⟩
  · by_cases e : x.op.dst = some t
    · rw [e] at hu
      have hlt : t < s.tm.length := (List.getElem?_eq_some_iff.1 hav).1
      have := hslot t e hlt
      rw [hav] at this; cases this
      rw [put_eq hu]; exact hr
    · rw [put_ne e] at hu
      refine (h.tm t av u' hav hu fun l y hy hdy => ?_).mono hg
      obtain ⟨q1, q2⟩ := hcond l y hy hdy
      refine ⟨q1, back l y hy (fun e' => ?_) q2⟩
      subst e'
      rw [hx] at hy; cases hy
      exact e hdy
  · have hlk : l ≠ k := by omega
    obtain ⟨q1, q2, q3, q4, q5, q6⟩ := h.ear l y hy hl (back l y hy hlk hh)
    obtain ⟨f1, f2⟩ := hf.kept _ q3 q5
    refine ⟨q1, q2, Nat.lt_of_lt_of_le q3 hg.size, q4, q5, ?_⟩
    have hput : ∀ d, y.op.dst = some d → (a.put x.op.dst u).tmps[d]? = a.tmps[d]? := fun d hd => put_ne (dst_ne st hx hy (fun e => hlk e.symm) hd)
    revert q6
    split
    · intro ⟨vs, ty, r1, r2, r3⟩
      exact ⟨vs, ty, by rw [f1]; exact r1, r2.mono hg, fun d u' hd hu => r3 d u' hd (by rw [← hput d hd]; exact hu)⟩
    · intro ⟨r1, r3⟩
      exact ⟨by rw [f1]; exact r1, fun d u' hd hu => r3 d u' hd (by rw [← hput d hd]; exact hu)⟩
    · exact fun q => q

/-- An allocation comes up early. -/
theorem DInv.soon (st : Stat P ops rs) {listed : Array Bool} {p : Nat} {s : S} {G : Gh} {w : World} {a : Act} {β : Nat → Nat} (h : DInv O P base w0 Q sp ops rs H0 G0 w1 listed p s G w a β)
    {k : Nat} (hk : p < k) {x : DRec} (hx : rs[k]? = some x) {o : Oper} (ho : ops[x.i]? = some o) (hnl : ¬ LS listed x.i) (he : ∀ e ∈ o.after, Region.binds .any e = true → LS listed e.on)
    (hA : cls x.op.op = .A) {u : Value} {ob : Obj} (hob : ∀ G' w', GExt G w G' w' → w'.heap[w.heap.size]? = some ob → match x.op.op with
      | .alloc z => ∃ vs ty, w'.heap[w.heap.size]? = some (.cells (List.toArray vs) ty (0, 0)) ∧ Reps G' w' z vs ∧ u = .pointer (some ⟨w.heap.size, 0, none⟩)
      | .mkmap => w'.heap[w.heap.size]? = some (.map #[] 0) ∧ u = .map (some w.heap.size)
      | _ => False) (hnew : ∃ ab id, G.st id = .unused ∧ s.hp id = none ∧ Wr base w0 (s.hp.upd id ab) (G.setSt id (.obj w.heap.size) w.heap.size (some 0)) (w.alloc ob) ∧ GExt G w (G.setSt id (.obj w.heap.size) w.heap.size (some 0)) (w.alloc ob)) :
    ∃ G' β', DInv O P base w0 Q sp ops rs H0 G0 w1 (listed.setIfInBounds x.i true) p s G' (w.alloc ob) (a.put x.op.dst u) β' := by
  have hi : x.i < listed.size := by rw [h.size]; exact self_lt (st.self k x hx)
  have back : ∀ (l : Nat) y, rs[l]? = some y → l ≠ k → LS (listed.setIfInBounds x.i true) y.i → LS listed y.i := fun l y hy hl hh => by
    rw [LS.set hi] at hh
    rcases hh with e | hh
    · exact absurd (same_pos st hy hx e) hl
    · exact hh
  obtain ⟨ab, id, hun, hH, hw, hg⟩ := hnew
  have hle : s.hp.le (s.hp.upd id ab) := fun i o' hi' => by
    rw [Hp.upd_ne]; exact hi'
    intro e; subst e; rw [hH] at hi'; cases hi'
  have hf : Fr s.hp G w s.hp (G.setSt id (.obj w.heap.size) w.heap.size (some 0)) (w.alloc ob) := (Fr.newOb (ob := ab) rfl).le hle
  refine ⟨_, fun j => if j = k then w.heap.size else β j, by simpa using h.size, h.dc.set h.size ho he, h.pl, hw.le' hle, h.ext.trans hg, h.fr.trans h.ext.size hf, by rw [put_defers]; exact h.ds.mono hg, fun l y hy hl hc => (LS.set hi).2 (.inr (h.done l y hy hl hc)), fun l y hy hl hh => ?_, by rw [put_size]; exact h.tlen, fun t av u' hav hu hcond => ?_, Reps.put_unk (h.sptm.mono hg) x.op.dst (h.spun k x hx), fun l y hy hl hh => h.late l y hy hl (fun e => hh ((LS.set hi).2 (.inr e))), fun l y hy hl hh => ?_, fun l m y z hy hz hl hm h1 h2 hb => ?_, h.spun⟩
  · by_cases e : l = k
    · subst e; rw [hx] at hy; cases hy; exact hA
    · exact h.early l y hy hl (back l y hy e hh)
  · have e : x.op.dst ≠ some t := fun e => by
      have := (hcond k x hx e).1
      omega
    rw [put_ne e] at hu
    refine (h.tm t av u' hav hu fun l y hy hdy => ?_).mono hg
    obtain ⟨q1, q2⟩ := hcond l y hy hdy
    exact ⟨q1, back l y hy (by omega) q2⟩
  · by_cases e : l = k
    · subst e; rw [hx] at hy; cases hy
      simp only [if_pos]
      refine ⟨h.wr.le, ?_, by simp, by simp [Gh.setSt], fun i hi' hc => ?_, ?_⟩
      · exact h.ext.size
      · have hne : i ≠ id := fun e => hi' (e ▸ hH)
        have : (G.setSt id (.obj w.heap.size) w.heap.size (some 0)).st i = G.st i := by simp [Gh.setSt, hne]
        rw [this] at hc
        cases ho' : s.hp i with
        | none => exact hi' ho'
        | some o' =>
          obtain ⟨b, b1, b2, _⟩ := (h.wr.ob i o' ho').lt
          rw [hc] at b1; cases b1
          omega
      · have hq := hob _ _ hg (heap_push_eq w ob)
        generalize x.op.op = aop at hq ⊢
        cases aop with
        | alloc z =>
          obtain ⟨vs, ty, r1, r2, r3⟩ := hq
          refine ⟨vs, ty, r1, r2, fun d u' hd hu => ?_⟩
          rw [hd] at hu
          rw [put_eq hu]; exact r3
        | mkmap =>
          obtain ⟨r1, r3⟩ := hq
          refine ⟨r1, fun d u' hd hu => ?_⟩
          rw [hd] at hu
          rw [put_eq hu]; exact r3
        | _ => exact hq.elim
    · simp only [if_neg e]
      obtain ⟨q1, q2, q3, q4, q5, q6⟩ := h.ear l y hy hl (back l y hy e hh)
      obtain ⟨f1, f2⟩ := hf.kept _ q3 q5
      refine ⟨q1, q2, Nat.lt_of_lt_of_le q3 hg.size, by rw [f2]; exact q4, hf.unk _ q3 q5, ?_⟩
      have hput : ∀ d, y.op.dst = some d → (a.put x.op.dst u).tmps[d]? = a.tmps[d]? := fun d hd => put_ne (dst_ne st hx hy (fun e' => e e'.symm) hd)
      revert q6
      split
      · intro ⟨vs, ty, r1, r2, r3⟩
        exact ⟨vs, ty, by rw [f1]; exact r1, r2.mono hg, fun d u' hd hu => r3 d u' hd (by rw [← hput d hd]; exact hu)⟩
      · intro ⟨r1, r3⟩
        exact ⟨by rw [f1]; exact r1, fun d u' hd hu => r3 d u' hd (by rw [← hput d hd]; exact hu)⟩
      · exact fun q => q
  · have hlt : ∀ (j : Nat) y', rs[j]? = some y' → p ≤ j → j ≠ k → LS (listed.setIfInBounds x.i true) y'.i → β j < w.heap.size := fun j y' hy' hj hjk hh => (h.ear j y' hy' hj (back j y' hy' hjk hh)).2.2.1
    by_cases e : l = k
    · by_cases e' : m = k
      · rw [e, e']
      · simp only [if_pos e, if_neg e'] at hb
        have := hlt m z hz hm e' h2
        omega
    · by_cases e' : m = k
      · simp only [if_pos e', if_neg e] at hb
        have := hlt l y hy hl e h1
        omega
      · simp only [if_neg e, if_neg e'] at hb
        exact h.inj l m y z hy hz hl hm (back l y hy e h1) (back m z hz e' h2) hb

/-- All has come up: the plan is at its end. -/
theorem DInv.finish (st : Stat P ops rs) {listed : Array Bool} {p : Nat} {s : S} {G : Gh} {w : World} {a : Act} {β : Nat → Nat} (h : DInv O P base w0 Q sp ops rs H0 G0 w1 listed p s G w a β) (hst : Stop rs listed p)
    (hr : Region.ready .any ops listed = []) : Meets O base w0 H0 G0 w1 Q .normal a w := by
  have hall : ∀ (k : Nat) x, rs[k]? = some x → LS listed x.i := by
    intro k
    induction k using Nat.strongRecOn with
    | _ k ih =>
      intro x hx
      apply Classical.byContradiction
      intro hn
      obtain ⟨o, ho, hc, hd⟩ := st.recs k x hx
      obtain ⟨d1, d2⟩ := self_deps (st.self k x hx)
      have hm := ready_of h.size ho hn fun e he hb => by
        have hmem : e.on ∈ x.deps := by
          rw [hd]
          simp only [depsOf, List.mem_map, List.mem_filter]
          exact ⟨e, ⟨by simpa using he, hb⟩, rfl⟩
        obtain ⟨l, y, hy, hyi⟩ := st.all e.on (d1 _ hmem)
        rw [← hyi]
        rcases Nat.lt_trichotomy l k with hlk | hlk | hlk
        · exact ih l hlk y hy
        · subst hlk
          rw [hx] at hy; cases hy
          exact absurd (hyi ▸ hmem) d2
        · exact absurd (hyi ▸ hmem) (pair_lin (st.pair k l x y hlk hx hy))
      rw [hr] at hm
      cases hm
  have hp : rs[p]? = none := by
    cases hx : rs[p]? with
    | none => rfl
    | some x => exact absurd (hall p x hx) (hst x hx).1
  have hpl := h.pl
  have hlen : (attach [] rs).length ≤ p := by
    have := attach_none rs [] p hp
    rcases Nat.lt_or_ge p (attach [] rs).length with hl | hl
    · rw [List.getElem?_eq_getElem hl] at this; cases this
    · exact hl
  rw [List.drop_eq_nil_of_le hlen] at hpl
  have hplt : ∀ (k : Nat) x, rs[k]? = some x → k < p := fun k x hx => by
    rcases Nat.lt_or_ge k p with hk | hk
    · exact hk
    · rw [List.getElem?_eq_none_iff] at hp
      have := (List.getElem?_eq_some_iff.1 hx).1
      omega
  refine ⟨s, G, hpl, h.wr, h.ext, ⟨by simpa using h.tlen.symm, fun t av u hav hu => h.tm t av u hav (by simpa using hu) fun k x hx _ => ⟨hplt k x hx, hall k x hx⟩⟩, h.ds, h.fr⟩

theorem draw_ok (st : Stat P ops rs) (hL : O.L base w0) : ∀ (fuel p : Nat) (listed : Array Bool) (s : S) (G : Gh) (w : World) (a : Act) (β : Nat → Nat), leftN listed ≤ fuel →
    DInv O P base w0 Q sp ops rs H0 G0 w1 listed p s G w a β → Stop rs listed p → wpAny P .any ops (Meets O base w0 H0 G0 w1 Q) fuel listed a w := by
  intro fuel
  induction fuel with
  | zero =>
    intro p listed s G w a β hn h hst
    have hr : Region.ready .any ops listed = [] := by
      apply List.eq_nil_iff_forall_not_mem.2
      intro i hi
      obtain ⟨h1, h2, _⟩ := ready_spec h.size hi
      exact h2 (leftN_zero (by omega) (by rw [h.size]; exact h1))
    exact ⟨hr, h.finish st hst hr⟩
  | succ fuel ih =>
    intro p listed s G w a β hn h hst
    refine ⟨h.finish st hst, fun i hi => ?_⟩
    obtain ⟨h1, hnl, o, ho, he⟩ := ready_spec h.size hi
    obtain ⟨k, x, hx, rfl⟩ := st.all i h1
    obtain ⟨o', ho', hco, _⟩ := st.recs k x hx
    rw [ho] at ho'; cases ho'
    have hfuel : leftN (listed.setIfInBounds x.i true) ≤ fuel := by
      have := leftN_set (listed := listed) (i := x.i) (by rw [h.size]; exact h1) hnl
      omega
    have stop' : k ≠ p → Stop rs (listed.setIfInBounds x.i true) p := fun hkp z hz => by
      obtain ⟨q1, q2⟩ := hst z hz
      refine ⟨fun hl => ?_, q2⟩
      rw [LS.set (by rw [h.size]; exact h1)] at hl
      rcases hl with e | hl
      · exact hkp (same_pos st hx hz e.symm)
      · exact q1 hl
    have hmask := h.mask
    simp only [wpOp, ho]
    rcases Nat.lt_trichotomy k p with hk | hk | hk
    · -- late
      have hins := mask_ins (s := s) st h.dc hx (Nat.le_of_lt hk) ho he
      rcases h.late k x hx hk hnl with ⟨g1, v, g2, g3⟩ | ⟨g1, g2⟩
      · obtain ⟨e1, e2, e3⟩ := wanted_ok hco hmask (by rw [gd_ins hins]; exact g1)
        rw [if_pos e3]
        obtain ⟨u, w', q1, q2, q3, q4, q5⟩ := rop_ok (v := v) e2 (by rw [rop_congr (ev_ins hins)]; exact g2) h.wr hmask
        refine .inl ?_
        unfold Oper.wp
        rw [q1, Oper.upon_value, e1]
        exact ih p _ s G w' _ β hfuel (h.later st hk hx ho hnl he g3 q2 q3 q4 q5) (stop' (by omega))
      · obtain ⟨e1, e2, e3⟩ := wanted_ok hco hmask (by rw [gd_ins hins]; exact g1)
        rw [if_neg (by simp [e3]), e1]
        exact ih p _ s G w _ β hfuel (h.later st hk hx ho hnl he g2 (Rep.tup' Reps.nil) h.wr (GExt.refl _ _) (Fr.refl _ _ _)) (stop' (by omega))
    · -- the next
      subst hk
      have hins := mask_ins (s := s) st h.dc hx (Nat.le_refl _) ho he
      have hpl := planD_at hx h.pl
      have hgm : gdA x.op.gd (maskTm rs listed k s.tm) = gdA x.op.gd s.tm := gd_ins hins
      have step : ∀ (s' : S) (G' : Gh) (w' : World) (a' : Act), DInv O P base w0 Q sp ops rs H0 G0 w1 (listed.setIfInBounds x.i true) (k + 1) s' G' w' a' β → wpAny P .any ops (Meets O base w0 H0 G0 w1 Q) fuel (listed.setIfInBounds x.i true) a' w' := fun s' G' w' a' hd => by
        obtain ⟨p', s2, G2, hd2, hs2⟩ := advance st rs.length (k + 1) _ s' G' w' a' β (by omega) hd
        exact ih p' _ s2 G2 w' a' β hfuel hd2 hs2
      split at hpl
      · rename_i hg
        obtain ⟨e1, e2, e3⟩ := wanted_ok hco hmask (hgm.trans hg)
        rw [if_pos e3]
        have hlateA : ∀ v id ob, s.hp id = none → ∀ (l : Nat) y, rs[l]? = some y → l < k → ¬ LS listed y.i → y.op.op.heapy = true → gdA y.op.gd s.tm = some true → ∀ v0, rop y.op.op s.tm s.hp = some v0 → (∀ d, y.op.dst = some d → d < s.tm.length → s.tm[d]? = some v0) →
            ∃ v', rop y.op.op (setTm s.tm x.op.dst v) (s.hp.upd id ob) = some v' ∧ ∀ d, y.op.dst = some d → d < s.tm.length → (setTm s.tm x.op.dst v)[d]? = some v' := by
          intro v id ob hH l y hy hlk hl' hh g1 v0 g2 g3
          have hanti : ∀ t ∈ y.op.ins, (setTm s.tm x.op.dst v).getD t .unk = s.tm.getD t .unk := fun t ht => setTm_getD (fun e => pair_anti (st.pair l k y x hlk hy hx) e ht)
          refine ⟨v0, rop_fresh hH (by rw [rop_congr (ev_ins hanti)]; exact g2), fun d hd hlt => ?_⟩
          rw [setTm_ne (fun e => (pair_dst (st.pair l k y x hlk hy hx) hd).1 e)]
          exact g3 d hd hlt
        let R' : Res := fun v H' ds' => planD O P Q sp ((attach [] rs).drop (k + 1)) ⟨setTm s.tm x.op.dst v, H', ds'⟩ ∧
          ∀ (l : Nat) y, rs[l]? = some y → l < k → ¬ LS listed y.i → y.op.op.heapy = true → gdA y.op.gd s.tm = some true → ∀ v0, rop y.op.op s.tm s.hp = some v0 → (∀ d, y.op.dst = some d → d < s.tm.length → s.tm[d]? = some v0) →
            ∃ v', rop y.op.op (setTm s.tm x.op.dst v) H' = some v' ∧ ∀ d, y.op.dst = some d → d < s.tm.length → (setTm s.tm x.op.dst v)[d]? = some v'
        have hopR : opR O P x.op.op s.tm s.hp s.ds R' (elseQ sp Q) := by
          cases hcl : cls x.op.op with
          | R => exact absurd hcl (hst x hx).2
          | A =>
            revert hpl
            cases hop : x.op.op <;> rw [hop] at hcl <;> simp only [cls, reduceCtorEq] at hcl
            · intro hpl id hid
              exact ⟨(hpl id hid).2, hlateA _ id _ hid⟩
            · intro hpl id hid
              exact ⟨(hpl id hid).2, hlateA _ id _ hid⟩
          | W =>
            refine opR_mono (fun v H' ds' hR => ⟨hR.2, ?_⟩) hpl
            intro l y hy hlk hl' hh g1 v0 g2 g3
            have hmem : ∀ (L : List AOper) (s' : S), chkAll s' L → ∀ r ∈ L, chkOk s' r := by
              intro L
              induction L with
              | nil => intro s' _ r hr; cases hr
              | cons q L ihL =>
                intro s' hc r hr
                rcases List.mem_cons.1 hr with rfl | hr
                · exact hc.1
                · exact ihL s' hc.2 r hr
            have hck := hmem _ _ hR.1 y.op (by
              refine List.mem_map.2 ⟨y, List.mem_filter.2 ⟨List.mem_of_getElem? (i := l) (by rw [List.getElem?_take, if_pos hlk]; exact hy), ?_⟩, rfl⟩
              have hb : x.anc.testBit y.i = false := by
                cases hb : x.anc.testBit y.i with
                | false => rfl
                | true => exact absurd (st.anc listed h.dc k x o hx ho he _ hb) hl'
              simp [hh, hb, hcl])
            have hanti : ∀ t ∈ y.op.ins, (setTm s.tm x.op.dst v).getD t .unk = s.tm.getD t .unk := fun t ht => setTm_getD (fun e => pair_anti (st.pair l k y x hlk hy hx) e ht)
            unfold chkOk at hck
            rw [show gdA y.op.gd (setTm s.tm x.op.dst v) = some true by rw [gd_ins hanti]; exact g1] at hck
            refine ⟨_, hck, fun d hd hlt => ?_⟩
            have hlt' : d < (setTm s.tm x.op.dst v).length := by simpa [setTm_len] using hlt
            simp only [hd, getTm, List.getD_eq_getElem?_getD]
            rw [List.getElem?_eq_getElem hlt']
            rfl
        have hstep := opR_ok hL e2 (opR_congr (ev_ins fun t ht => (hins t ht).symm) hopR) h.wr hmask h.ds
        refine .inl (Oper.wp_mono2 ?_ ?_ ?_ hstep)
        · intro a' w' ⟨v, u, H', ds', df, G', hR, ha, hr, hw', hxt, hf, hds'⟩
          subst ha
          rw [e1]
          exact step _ G' w' _ (h.next st hx ho hnl he hR.1 hr hw' hxt hf hds' hR.2)
        · intro c a' w' ⟨ha, v, u, H', ds', G', q1, q2, q3, q4, q5, q6, q7⟩
          subst ha
          exact ⟨v, u, ⟨sp.tm, H', ds'⟩, G', q1, q2, q3, q4, h.ext.trans q5, h.sptm.mono q5, q7, h.fr.trans h.ext.size q6⟩
        · intro a' w' ho'; exact ho'
      · rename_i hg
        obtain ⟨e1, e2, e3⟩ := wanted_ok hco hmask (hgm.trans hg)
        rw [if_neg (by simp [e3]), e1]
        refine step _ G w _ (h.next st hx ho hnl he (df := a.defers) hpl (Rep.tup' Reps.nil) h.wr (GExt.refl _ _) (Fr.refl _ _ _) h.ds ?_)
        intro l y hy hlk hl' hh g1 v0 g2 g3
        have hanti : ∀ t ∈ y.op.ins, (setTm s.tm x.op.dst (.tup [])).getD t .unk = s.tm.getD t .unk := fun t ht => setTm_getD (fun e => pair_anti (st.pair l k y x hlk hy hx) e ht)
        refine ⟨v0, by rw [rop_congr (ev_ins hanti)]; exact g2, fun d hd hlt => ?_⟩
        rw [setTm_ne (fun e => (pair_dst (st.pair l k y x hlk hy hx) hd).1 e)]
        exact g3 d hd hlt
      · exact hpl.elim
    · -- early
      obtain ⟨z, hz⟩ : ∃ z, rs[p]? = some z := ⟨rs[p]'(by have := (List.getElem?_eq_some_iff.1 hx).1; omega), List.getElem?_eq_getElem _⟩
      have hA : cls x.op.op = .A := by
        apply Classical.byContradiction
        intro hA
        exact (hst z hz).1 (st.anc listed h.dc k x o hx ho he _ (pair_cls (st.pair p k z x hk hz hx) (hst z hz).2 hA))
      obtain ⟨hg, d, hd⟩ := self_A (st.self k x hx) hA
      obtain ⟨e1, e2, e3⟩ := wanted_ok (b := true) hco hmask (by rw [hg]; rfl)
      rw [if_pos e3]
      have hW : isW x.op.op = true := by
        cases hop : x.op.op <;> rw [hop] at hA <;> simp only [cls, reduceCtorEq] at hA <;> rfl
      have hv := winv e2 hW
      obtain ⟨id, hun, hH, _⟩ := fresh_id h.wr
      refine .inl ?_
      obtain ⟨dst, op, type, pos, after, guard⟩ := o
      simp only at hv e1
      subst e1
      generalize hop : x.op.op = aop at hv
      cases hv with
      | @alloc t z' hl =>
        cases hz : P.info? t with
        | none => simp [litCells, hz] at hl
        | some i =>
          cases hz' : i.zero with
          | none => simp [litCells, hz, hz'] at hl
          | some v =>
            simp only [litCells, hz, Option.bind_some, hz', Option.map_some, Option.some.injEq] at hl
            have hr : ∀ G w, Reps G w z' v.cells.toList := fun G w => by
              rw [← hl]
              refine ⟨by simp, fun i x u hx hu => ?_⟩
              rw [List.getElem?_map, hu] at hx
              cases hx
              exact lit0_rep G w 2 u
            have hnew := h.wr.newOb hun hH (.cells v.cells t) (.obj w.heap.size) 0 (.cells z') rfl (.inl rfl) (fun G' w' hx g1 g2 g3 => ⟨_, v.cells.toList, t, [], g1, h.wr.le, g2, by simpa using g3, hr G' w', fun _ h => by cases h⟩)
            obtain ⟨G', β', hd'⟩ := h.soon st hk hx ho hnl he hA (u := .pointer (some ⟨w.heap.size, 0, none⟩)) (ob := .cells v.cells t) (fun G' w' hx' hb => by
              rw [hop]
              exact ⟨v.cells.toList, t, by simpa using hb, hr G' w', rfl⟩) ⟨_, id, hun, hH, hnew⟩
            have hzv : (zeroValue t).run P w = .ok v w := by simp [zeroValue, typeInfo, hz, hz']
            unfold Oper.wp
            rw [show (execOp a.eval ⟨x.op.dst, .alloc t, type, pos, after, guard⟩).run P w = .ok (.value (.pointer (some ⟨w.heap.size, 0, none⟩))) (w.alloc (.cells v.cells t)) by simp [execOp, Instr.alloc, hzv, newVar, newRow], Oper.upon_value]
            exact ih p _ s G' _ _ β' hfuel hd' (stop' (by omega))
      | @mkmap t =>
        have hnew := h.wr.newOb hun hH (.map #[] 0) (.obj w.heap.size) 0 (.map []) rfl (.inl rfl) (fun G' w' hx g1 g2 g3 => ⟨_, #[], 0, g1, h.wr.le, g2, g3, rfl, fun i p e hp => by simp at hp, fun i j e f he => by simp at he⟩)
        obtain ⟨G', β', hd'⟩ := h.soon st hk hx ho hnl he hA (u := .map (some w.heap.size)) (ob := .map #[] 0) (fun G' w' hx' hb => by
          rw [hop]
          exact ⟨hb, rfl⟩) ⟨_, id, hun, hH, hnew⟩
        unfold Oper.wp
        rw [show (execOp a.eval ⟨x.op.dst, .makeMap t none, type, pos, after, guard⟩).run P w = .ok (.value (.map (some w.heap.size))) (w.alloc (.map #[] 0)) by simp [execOp, Instr.makeMap], Oper.upon_value]
        exact ih p _ s G' _ _ β' hfuel hd' (stop' (by omega))
      | _ => rw [hop] at hA; simp [cls] at hA

theorem forgetD_keeps (l : List AOperD) : ∀ (s : S) (k : Option Nat), getTm s.tm k = .unk → getTm (forgetD s l).tm k = .unk := by
  induction l with
  | nil => intro s k h; exact h
  | cons o l ih => intro s k h; exact ih _ k (set_unk_getD _ _ _ h)
theorem forgetD_unk (l : List AOperD) : ∀ (s : S), ∀ o ∈ l, getTm (forgetD s l).tm o.op.dst = .unk := by
  induction l with
  | nil => intro s o h; simp at h
  | cons o l ih =>
    intro s o' h
    rcases List.mem_cons.1 h with rfl | h
    · exact forgetD_keeps l _ _ (set_unk_same _ _)
    · exact ih _ o' h
theorem Reps.forgetD {G : Gh} {w : World} {vs : List Value} (l : List AOperD) : ∀ (s : S), Reps G w s.tm vs → Reps G w (Eng.forgetD s l).tm vs := by
  induction l with
  | nil => intro s h; exact h
  | cons o l ih => intro s h; exact ih _ (h.setUnk _)

theorem AWp.dregion {s : S} {id : Nat} {κ : List Nat} {as : List AOperD} (hm : P.follows .mixedOrders = true) (hc : compDraw P ops κ = some as) (h : planD O P Q (forgetD s as) as s) : AWp O P (.region id ops true) Q s := by
  intro base w0 G w a hL h1 h2 h3
  obtain ⟨rs, st, rfl⟩ := stat_of hc
  refine wp_region_any hm ?_
  obtain ⟨k1, k2⟩ := h1.drew
  have hnot : ∀ j, ¬ LS (Array.replicate ops.size false) j := fun j hj => by
    unfold LS at hj
    rw [Array.getD_eq_getD_getElem?, Array.getElem?_replicate] at hj
    split at hj <;> simp at hj
  have hinv : DInv O P base w0 Q (forgetD s (attach [] rs)) ops rs s.hp G w (Array.replicate ops.size false) 0 s G w.drew a (fun _ => 0) := by
    refine ⟨by simp, fun i o ho hl => absurd hl (hnot i), h, k1, k2, Fr.drew, h3.mono k2, fun k x hx hk => by omega, fun k x hx hk hl => absurd hl (hnot _), by have := h2.1; simpa using this.symm, fun t av u hav hu _ => (h2.2 t av u hav (by simpa using hu)).mono k2, (h2.forgetD _ s).mono k2, fun k x hx hk => by omega, fun k x hx hk hl => absurd hl (hnot _), fun k l x y hx hy hk hl h' => absurd h' (hnot _), fun k x hx => ?_⟩
    have := attach_get rs [] k x hx
    exact forgetD_unk _ s _ (List.mem_of_getElem? this)
  obtain ⟨p', s', G', hd, hst⟩ := advance st rs.length 0 _ s G w.drew a (fun _ => 0) (by omega) hinv
  refine draw_ok st hL _ p' _ s' G' w.drew a (fun _ => 0) ?_ hd hst
  have : leftN (Array.replicate ops.size false) ≤ (Array.replicate ops.size false).toList.length := List.countP_le_length
  simpa using this

end
end Go.Eng

/- The compiled code's precondition, statement by statement; functions. -/
set_option linter.unusedVariables false
set_option linter.unusedSimpArgs false
namespace Go.Eng

/-- What the compiled code is asked. -/
def AC (O : Cfg) (P : Program) (ks : Tab) (ac : ACode) (Q : Post) (s : S) : Prop := ∀ c, compCode P ks c = some ac → AWp O P c Q s

/-- Then the other one. -/
def thenP (O : Cfg) (P : Program) (ks : Tab) (b : ACode) (Q : Post) : Post := andThen (AC O P ks b Q) Q

def killP (d : List Nat) (Q : Post) : Post
  | .normal, s => Q .normal ⟨killTm d s.tm, s.hp, s.ds⟩
  | e, s => Q e s

/-- No jump inside. -/
def noGoA (Q : Post) : Post
  | .goto _, _ => False
  | e, s => Q e s

def condL (t : Bool) (A B : Unit → Prop) : Prop := (t = true → A ()) ∧ (t = false → B ())

def condA (v : AVal) (A B : Unit → Prop) : Prop :=
  match v with
  | .bool t => condL t A B
  | _ => False

/-- A slot is forgotten. -/
def dropO (dr : Bool) (o : Opd) (s : S) : S :=
  match dr, o with
  | true, .t i => ⟨s.tm.set i .unk, s.hp, s.ds⟩
  | _, _ => s

/-- One statement is gone into. -/
def wpC (O : Cfg) (P : Program) (ks : Tab) : ACode → Post → S → Prop
  | .skip, Q, s => Q .normal s
  | .ret, Q, s => Q .ret s
  | .exit id, Q, s => Q (.exit id) s
  | .goto l, Q, s => Q (.goto l) s
  | .label _, Q, s => Q .normal s
  | .block id b, Q, s => wpC O P ks b (inBlk id Q) s
  | .scope b, Q, s => wpC O P ks b (noGoA Q) s
  | .loop b, Q, s => AC O P ks (.loop b) Q s
  | .seq a b, Q, s => wpC O P ks a (thenP O P ks b Q) s
  | .cond o dr a b, Q, s => condA (ev s.tm o) (fun _ => wpC O P ks a Q (dropO dr o s)) (fun _ => wpC O P ks b Q (dropO dr o s))
  | .reg as d, Q, s => plan O P (killP d Q) (forget s as) as s
  | .dreg as d, Q, s => planD O P (killP d Q) (forgetD s as) as s

theorem Reps.kill {G : Gh} {w : World} {tm : List AVal} {vs : List Value} (d : List Nat) (h : Reps G w tm vs) : Reps G w (killTm d tm) vs := by
  refine ⟨by simpa [killTm] using h.1, fun i a v ha hv => ?_⟩
  simp only [killTm, List.getElem?_mapIdx] at ha
  cases hx : tm[i]? with
  | none => simp [hx] at ha
  | some b =>
    simp only [hx, Option.map_some, Option.some.injEq] at ha
    subst ha
    split
    · exact h.2 i b v hx hv
    · exact .unk v
theorem Reps.drop1 {G : Gh} {w : World} {tm : List AVal} {vs : List Value} (n : Nat) (h : Reps G w tm vs) : Reps G w (tm.set n .unk) vs := by
  refine ⟨by simp [h.1], fun i b u hb hu => ?_⟩
  rw [List.getElem?_set] at hb
  split at hb
  · split at hb
    · cases hb; exact .unk u
    · cases hb
  · exact h.2 i b u hb hu

section
variable {O : Cfg} {P : Program} {ks : Tab}

theorem AWp.kill {c : Code} {Q : Post} {s : S} {d : List Nat} (h : AWp O P c (killP d Q) s) : AWp O P c Q s := by
  intro base w0 G w a hL h1 h2 h3
  refine Code.wp_mono ?_ (h base w0 G w a hL h1 h2 h3)
  intro e a' w' hm
  cases e with
  | normal =>
    obtain ⟨s', G', hq, hg⟩ := hm
    exact ⟨_, G', hq, hg.wr, hg.ext, hg.tm.kill d, hg.ds, hg.fr⟩
  | exit id => exact hm
  | goto l => exact hm
  | ret => exact hm
  | panic v => exact hm
  | outgrown => exact hm

theorem AWp.scope {c : Code} {Q : Post} {s : S} (h : AWp O P c (noGoA Q) s) : AWp O P (.scope c) Q s := by
  intro base w0 G w a hL h1 h2 h3
  refine wp_scope_straight (Code.wp_mono ?_ (h base w0 G w a hL h1 h2 h3))
  intro e a' w' hm
  cases e with
  | goto l => obtain ⟨s', G', hq, hg⟩ := hm; exact hq.elim
  | normal => exact hm
  | exit id => exact hm
  | ret => exact hm
  | panic v => exact hm
  | outgrown => exact hm

theorem AC.mono {ac : ACode} {Q Q' : Post} {s : S} (h : AC O P ks ac Q s) (hq : ∀ e s, Q e s → Q' e s) : AC O P ks ac Q' s := fun c hc => (h c hc).mono hq

theorem AWp.dropO {c : Code} {Q : Post} {s : S} (dr : Bool) (o : Opd) (h : AWp O P c Q (dropO dr o s)) : AWp O P c Q s := by
  cases dr with
  | false => exact h
  | true => cases o with
    | t i => exact fun base w0 G w a hL h1 h2 h3 => h base w0 G w a hL h1 (h2.drop1 i) h3
    | c v => exact h
    | f f => exact h

theorem AC.of (hm : P.follows .mixedOrders = true) : ∀ (c : Code) {ac : ACode} {Q : Post} {s : S}, compCode P ks c = some ac → wpC O P ks ac Q s → AWp O P c Q s := by
  intro c
  induction c with
  | skip => intro ac Q s hc h; cases hc; exact .skip h
  | ret => intro ac Q s hc h; cases hc; exact .ret h
  | exit id => intro ac Q s hc h; cases hc; exact .exit h
  | goto l => intro ac Q s hc h; cases hc; exact .goto h
  | label l => intro ac Q s hc h; cases hc; exact .label h
  | block id b ih =>
    intro ac Q s hc h
    simp only [compCode] at hc
    cases hb : compCode P ks b with
    | none => rw [hb] at hc; cases hc
    | some ab =>
      rw [hb] at hc; cases hc
      exact .block (ih hb h)
  | scope b ih =>
    intro ac Q s hc h
    simp only [compCode] at hc
    cases hb : compCode P ks b with
    | none => rw [hb] at hc; cases hc
    | some ab =>
      rw [hb] at hc; cases hc
      exact .scope (ih hb h)
  | loop b ih =>
    intro ac Q s hc h
    simp only [compCode] at hc
    cases hb : compCode P ks b with
    | none => rw [hb] at hc; cases hc
    | some ab =>
      rw [hb] at hc; cases hc
      exact h _ (by simp only [compCode, hb]; rfl)
  | seq a b iha ihb =>
    intro ac Q s hc h
    simp only [compCode] at hc
    cases ha : compCode P ks a with
    | none => rw [ha] at hc; cases hc
    | some aa =>
      cases hb : compCode P ks b with
      | none => rw [ha, hb] at hc; cases hc
      | some ab =>
        rw [ha, hb] at hc; cases hc
        refine .seq ((iha ha h).mono fun e s' hq => ?_)
        cases e with
        | normal => exact hq b hb
        | exit id => exact hq
        | goto l => exact hq
        | ret => exact hq
        | panic v => exact hq
  | cond x a b iha ihb =>
    intro ac Q s hc h
    simp only [compCode] at hc
    cases ha : compCode P ks a with
    | none => rw [ha] at hc; cases hc
    | some aa =>
      cases hb : compCode P ks b with
      | none => rw [ha, hb] at hc; cases hc
      | some ab =>
        rw [ha, hb] at hc; cases hc
        simp only [wpC, condA] at h
        split at h
        · rename_i t ht
          exact .cond (o := opd x) (fun G w a hr => ev_rep hr x) ht (fun e => AWp.dropO _ (opd x) (iha ha (h.1 e))) (fun e => AWp.dropO _ (opd x) (ihb hb (h.2 e)))
        · exact h.elim
  | region id ops dr =>
    intro ac Q s hc h
    cases dr with
    | false =>
      simp only [compCode] at hc
      cases hb : compOpers P ops ops.toList with
      | none => rw [hb] at hc; cases hc
      | some as =>
        rw [hb] at hc; cases hc
        exact .kill (.region hb h)
    | true =>
      simp only [compCode] at hc
      cases hb : compDraw P ops (kap ks id).1 with
      | none => rw [hb] at hc; cases hc
      | some as =>
        rw [hb] at hc; cases hc
        exact .kill (.dregion hm hb h)
  | _ => intro ac Q s hc h; cases hc

theorem AC.go (hm : P.follows .mixedOrders = true) {ac : ACode} {Q : Post} {s : S} (h : wpC O P ks ac Q s) : AC O P ks ac Q s := fun c hc => AC.of hm c hc h

theorem comp_loop_inv {c : Code} {ab : ACode} (h : compCode P ks c = some (.loop ab)) : ∃ b, c = .loop b ∧ compCode P ks b = some ab := by
  cases c with
  | loop b =>
    simp only [compCode, Option.map_eq_some_iff] at h
    obtain ⟨x, h1, h2⟩ := h
    cases h2
    exact ⟨b, rfl, h1⟩
  | region id ops d => cases d <;> simp [compCode] at h
  | seq a b => simp only [compCode] at h; split at h <;> cases h
  | cond x a b => simp only [compCode] at h; split at h <;> cases h
  | _ => simp [compCode] at h

theorem comp_seq_inv {c : Code} {aa ab : ACode} (h : compCode P ks c = some (.seq aa ab)) : ∃ a b, c = .seq a b ∧ compCode P ks a = some aa ∧ compCode P ks b = some ab := by
  cases c with
  | loop b => simp [compCode] at h
  | scope b => simp [compCode] at h
  | region id ops d => cases d <;> simp [compCode] at h
  | seq a b =>
    simp only [compCode] at h
    split at h
    · rename_i x y h1 h2
      cases h
      exact ⟨a, b, rfl, h1, h2⟩
    · cases h
  | cond x a b => simp only [compCode] at h; split at h <;> cases h
  | _ => simp [compCode] at h

/-- A loop. -/
theorem AC.loop {b : ACode} {Q : Post} {s : S} (I : Nat → S → Prop) (n : Nat) (h0 : I n s) (hr : ∀ n s, I n s → AC O P ks b (andThen (fun s' => ∃ m, m < n ∧ I m s') Q) s) : AC O P ks (.loop b) Q s := by
  intro c hc
  obtain ⟨b', rfl, hb⟩ := comp_loop_inv hc
  exact .loop I h0 fun n s hI => hr n s hI b' hb

/-- What is asked of the state behind a first statement, put in between. -/
theorem AC.cut (M : S → Prop) {a b : ACode} {Q : Post} {s : S} (h : AC O P ks a (andThen M Q) s) (k : ∀ s, M s → AC O P ks b Q s) : AC O P ks (.seq a b) Q s := by
  intro c hc
  obtain ⟨x, y, rfl, ha, hb⟩ := comp_seq_inv hc
  refine .seq ((h x ha).mono fun e s' hq => ?_)
  cases e with
  | normal => exact k s' hq y hb
  | exit id => exact hq
  | goto l => exact hq
  | ret => exact hq
  | panic v => exact hq

/-- Less is known. -/
inductive TmLe : List AVal → List AVal → Prop
  | nil : TmLe [] []
  | same {a : AVal} {as bs : List AVal} (h : TmLe as bs) : TmLe (a :: as) (a :: bs)
  | less {a b : AVal} {as bs : List AVal} (w : Wk a b) (h : TmLe as bs) : TmLe (a :: as) (b :: bs)

theorem Reps.le {G : Gh} {w : World} {tm tm' : List AVal} (h : TmLe tm tm') : ∀ {vs : List Value}, Reps G w tm vs → Reps G w tm' vs := by
  induction h with
  | nil => exact fun h => h
  | same h ih => intro vs k; cases vs with
    | nil => have := k.1; simp at this
    | cons v vs => exact Reps.cons k.head (ih k.tail)
  | less w h ih => intro vs k; cases vs with
    | nil => have := k.1; simp at this
    | cons v vs => exact Reps.cons (k.head.wk w) (ih k.tail)

theorem AWp.le {c : Code} {Q : Post} {tm tm' : List AVal} {H H' : Hp} {ds : List ADef} (ht : TmLe tm tm') (hH : H'.le H) (h : AWp O P c Q ⟨tm', H', ds⟩) : AWp O P c Q ⟨tm, H, ds⟩ := by
  intro base w0 G w a hL h1 h2 h3
  have hw : Wr base w0 H' G w := h1.le' hH
  have hfr : Fr H G w H' G w := (Fr.refl H G w).le hH
  exact Code.wp_mono (fun e a w' => Meets.trans (GExt.refl _ _) hfr) (h base w0 G w a hL hw (h2.le ht) h3)

theorem AC.le {ac : ACode} {Q : Post} {tm tm' : List AVal} {H H' : Hp} {ds : List ADef} (ht : TmLe tm tm') (hH : H'.le H) (h : AC O P ks ac Q ⟨tm', H', ds⟩) : AC O P ks ac Q ⟨tm, H, ds⟩ := fun c hc => (h c hc).le ht hH
theorem AC.leT {ac : ACode} {Q : Post} {tm tm' : List AVal} {H : Hp} {ds : List ADef} (ht : TmLe tm tm') (h : AC O P ks ac Q ⟨tm', H, ds⟩) : AC O P ks ac Q ⟨tm, H, ds⟩ := h.le ht (fun _ _ h => h)

/-- A function, compiled. -/
structure AFn where
  code : ACode
  res : List ARes
  n : Nat

def compFn (P : Program) (ks : Tab) (f : FuncId) : Option AFn :=
  match P.funcs[f]? with
  | some fn => if (fn.name == "runtime.NumGoroutine") = true then none else match fn.body with
    | some c => match compCode P ks c, compRes P fn.results.toList with
      | some ac, some rs => some ⟨ac, rs, fn.ntmps⟩
      | _, _ => none
    | none => none
  | none => none

theorem TmLe.refl : ∀ (tm : List AVal), TmLe tm tm
  | [] => .nil
  | a :: as => .same (TmLe.refl as)
theorem TmLe.unks : ∀ (as : List AVal) (a : AVal) (n : Nat), TmLe (as ++ List.replicate n a) (as ++ List.replicate n .unk)
  | a :: as, b, n => .same (TmLe.unks as b n)
  | [], b, 0 => .nil
  | [], b, n + 1 => .less (.unk b) (TmLe.unks [] b n)

theorem acalls_fn {f : FuncId} {F : AFn} (hc : compFn P ks f = some F) {args : List AVal} {H : Hp} {Q : ARet → Hp → Prop}
    (h : AC O P ks F.code (bodyA F.res Q) ⟨args ++ List.replicate (F.n - args.length) .unk, H, []⟩) : ACalls O P f args H Q := by
  unfold compFn at hc
  split at hc
  · rename_i fn hf
    split at hc
    · cases hc
    · rename_i hn
      split at hc
      · rename_i c hb
        split at hc
        · rename_i ac rs h1 h2
          cases hc
          exact acalls_of_wp hf hb (by simpa using hn) h2 rfl (AC.leT (TmLe.unks args _ _) h c h1)
        · cases hc
      · cases hc
  · cases hc

end
end Go.Eng

/- How the preconditions are evaluated: what 'cbv' leaves as it stands, and what it puts for it. -/
set_option linter.unusedVariables false
set_option linter.unusedSimpArgs false
namespace Go.Eng

def iLt (a b : Int) : Bool := decide (a < b)
def iLe (a b : Int) : Bool := decide (a ≤ b)
def iEq (a b : Int) : Bool := a == b
def sEq (a b : List UInt8) : Bool := a == b
def bEq (a b : Bool) : Bool := a == b
def bNot (a : Bool) : Bool := !a
def bXor (a b : Bool) : Bool := xor a b
def wAdd (k : IntKind) (a b : Int) : Int := k.wrap (a + b)
def wSub (k : IntKind) (a b : Int) : Int := k.wrap (a - b)
def wMul (k : IntKind) (a b : Int) : Int := k.wrap (a * b)
def wInt (k : IntKind) (a : Int) : Int := k.wrap a
def wNeg (k : IntKind) (a : Int) : Int := k.wrap (0 - a)
def sLen (s : List UInt8) : Int := s.length
def rLen (l : List (List AVal)) : Int := l.length
def uC (b : UInt8) : Int := b.toNat
def iMax (a b : Int) : Int := if b > a then b else a
def iMin (a b : Int) : Int := if b < a then b else a
/-- A string's byte. -/
def ixK (s : List UInt8) (n : Int) : Option AVal := if 0 ≤ n then (s[n.toNat]?).map fun b => .int .u8 (uC b) else none
def catK (a b : List UInt8) : Option AVal := if a.length + b.length ≤ 9223372036854775807 then some (.str (a ++ b)) else none


def quiet (v : Option AVal) (R : Res) (H : Hp) (ds : List ADef) : Prop :=
  match v with
  | some v => R v H ds
  | none => False
theorem quiet_some (v : AVal) (R : Res) (H : Hp) (ds : List ADef) : quiet (some v) R H ds = R v H ds := rfl
def wrote (H' : Option Hp) (R : Res) (ds : List ADef) : Prop :=
  match H' with
  | some H' => R (.tup []) H' ds
  | none => False
theorem wrote_some (H' : Hp) (R : Res) (ds : List ADef) : wrote (some H') R ds = R (.tup []) H' ds := rfl
def newCellsT (t : TypeId) (cs : List AVal) (H : Hp) (R : Res) (ds : List ADef) : Prop := ∀ id, H id = none → R (.ref id 0) (H.upd id (.cells cs (some t))) ds
def newCells (cs : List AVal) (H : Hp) (R : Res) (ds : List ADef) : Prop := ∀ id, H id = none → R (.ref id 0) (H.upd id (.cells cs)) ds
def newMap (H : Hp) (R : Res) (ds : List ADef) : Prop := ∀ id, H id = none → R (.map id) (H.upd id (.map [])) ds
def boxed (v : AVal) (H : Hp) (R : Res) (ds : List ADef) : Prop := v.known = true ∧ newCells v.cells H R ds
def called (O : Cfg) (P : Program) (f : AVal) (args : List AVal) (H : Hp) (ds : List ADef) (R E : Res) : Prop :=
  match f with
  | .func (.func g) fs cs => ACalls O P g (fs ++ args ++ cs) H (callPost ds R E)
  | _ => False
theorem called_func (O : Cfg) (P : Program) (g : FuncId) (fs cs args : List AVal) (H : Hp) (ds : List ADef) (R E : Res) : called O P (.func (.func g) fs cs) args H ds R E = ACalls O P g (fs ++ args ++ cs) H (callPost ds R E) := rfl
def defers (f : AVal) (args : List AVal) (H : Hp) (ds : List ADef) (R : Res) : Prop :=
  match f with
  | .func fn fs cs => R (.tup []) H (⟨fn, cs, fs ++ args⟩ :: ds)
  | _ => False
theorem defers_func (fn : Fn) (fs cs args : List AVal) (H : Hp) (ds : List ADef) (R : Res) : defers (.func fn fs cs) args H ds R = R (.tup []) H (⟨fn, cs, fs ++ args⟩ :: ds) := rfl
def panicks (v : AVal) (H : Hp) (ds : List ADef) (E : Res) : Prop :=
  match v with
  | .iface t v => E (.iface t v) H ds
  | _ => False
theorem panicks_iface (t : TypeId) (v : AVal) (H : Hp) (ds : List ADef) (E : Res) : panicks (.iface t v) H ds E = E (.iface t v) H ds := rfl

section
variable (O : Cfg) (P : Program) (tm : List AVal) (H : Hp) (ds : List ADef) (R E : Res)
theorem opR_mv (x : Opd) : opR O P (.mv x) tm H ds R E = quiet (rop (.mv x) tm H) R H ds := rfl
theorem opR_pick (c x y : Opd) : opR O P (.pick c x y) tm H ds R E = quiet (rop (.pick c x y) tm H) R H ds := rfl
theorem opR_build (z : List AVal) (ps : List (Nat × Nat × Opd)) : opR O P (.build z ps) tm H ds R E = quiet (rop (.build z ps) tm H) R H ds := rfl
theorem opR_load (k : Option Nat) (x : Opd) : opR O P (.load k x) tm H ds R E = quiet (rop (.load k x) tm H) R H ds := rfl
theorem opR_nilck (x : Opd) : opR O P (.nilck x) tm H ds R E = quiet (rop (.nilck x) tm H) R H ds := rfl
theorem opR_bin (op : BinOp) (x y : Opd) : opR O P (.bin op x y) tm H ds R E = quiet (rop (.bin op x y) tm H) R H ds := rfl
theorem opR_beq (ng : Bool) (x y : Opd) : opR O P (.beq ng x y) tm H ds R E = quiet (rop (.beq ng x y) tm H) R H ds := rfl
theorem opR_isnil (ng : Bool) (nk : NK) (x : Opd) : opR O P (.isnil ng nk x) tm H ds R E = quiet (rop (.isnil ng nk x) tm H) R H ds := rfl
theorem opR_sleq (ng : Bool) (ks : List (Nat × KK)) (x y : Opd) : opR O P (.sleq ng ks x y) tm H ds R E = quiet (rop (.sleq ng ks x y) tm H) R H ds := rfl
theorem opR_not (x : Opd) : opR O P (.not x) tm H ds R E = quiet (rop (.not x) tm H) R H ds := rfl
theorem opR_neg (x : Opd) : opR O P (.neg x) tm H ds R E = quiet (rop (.neg x) tm H) R H ds := rfl
theorem opR_cint (k : IntKind) (x : Opd) : opR O P (.cint k x) tm H ds R E = quiet (rop (.cint k x) tm H) R H ds := rfl
theorem opR_cstr (x : Opd) : opR O P (.cstr x) tm H ds R E = quiet (rop (.cstr x) tm H) R H ds := rfl
theorem opR_b2s (x : Opd) : opR O P (.b2s x) tm H ds R E = quiet (rop (.b2s x) tm H) R H ds := rfl
theorem opR_s2b (x : Opd) : opR O P (.s2b x) tm H ds R E = quiet (rop (.s2b x) tm H) R H ds := rfl
theorem opR_sls (x : Opd) : opR O P (.sls x) tm H ds R E = quiet (rop (.sls x) tm H) R H ds := rfl
theorem opR_mkif (t : TypeId) (x : Opd) : opR O P (.mkif t x) tm H ds R E = quiet (rop (.mkif t x) tm H) R H ds := rfl
theorem opR_mkfn (fn : Fn) (f c : List Opd) : opR O P (.mkfn fn f c) tm H ds R E = quiet (rop (.mkfn fn f c) tm H) R H ds := rfl
theorem opR_slS (x : Opd) (lo hi : Option Opd) : opR O P (.slS x lo hi) tm H ds R E = quiet (rop (.slS x lo hi) tm H) R H ds := rfl
theorem opR_slL (sz : Nat) (x : Opd) (lo hi mx : Option Opd) : opR O P (.slL sz x lo hi mx) tm H ds R E = quiet (rop (.slL sz x lo hi mx) tm H) R H ds := rfl
theorem opR_faddr (off : Nat) (x : Opd) : opR O P (.faddr off x) tm H ds R E = quiet (rop (.faddr off x) tm H) R H ds := rfl
theorem opR_field (k : Option Nat) (off : Nat) (x : Opd) : opR O P (.field k off x) tm H ds R E = quiet (rop (.field k off x) tm H) R H ds := rfl
theorem opR_iaddr (sz : Nat) (x i : Opd) : opR O P (.iaddr sz x i) tm H ds R E = quiet (rop (.iaddr sz x i) tm H) R H ds := rfl
theorem opR_ixS (x i : Opd) : opR O P (.ixS x i) tm H ds R E = quiet (rop (.ixS x i) tm H) R H ds := rfl
theorem opR_ext (x : Opd) (i : Nat) : opR O P (.ext x i) tm H ds R E = quiet (rop (.ext x i) tm H) R H ds := rfl
theorem opR_lenS (x : Opd) : opR O P (.lenS x) tm H ds R E = quiet (rop (.lenS x) tm H) R H ds := rfl
theorem opR_lenL (x : Opd) : opR O P (.lenL x) tm H ds R E = quiet (rop (.lenL x) tm H) R H ds := rfl
theorem opR_bsl (sz : Nat) (ps : List Opd) : opR O P (.bsl sz ps) tm H ds R E = quiet (rop (.bsl sz ps) tm H) R H ds := rfl
theorem opR_bslf (sz : Nat) (ps : List Opd) : opR O P (.bslf sz ps) tm H ds R E = quiet (rop (.bslf sz ps) tm H) R H ds := rfl
theorem opR_tas (ok : Bool) (t : TypeId) (z : AVal) (x : Opd) : opR O P (.tas ok t z x) tm H ds R E = quiet (rop (.tas ok t z x) tm H) R H ds := rfl
theorem opR_look (ok : Bool) (kk : KK) (z : AVal) (m k : Opd) : opR O P (.look ok kk z m k) tm H ds R E = quiet (rop (.look ok kk z m k) tm H) R H ds := rfl
theorem opR_lenM (m : Opd) : opR O P (.lenM m) tm H ds R E = quiet (rop (.lenM m) tm H) R H ds := rfl
theorem opR_maxi (x y : Opd) : opR O P (.maxi x y) tm H ds R E = quiet (rop (.maxi x y) tm H) R H ds := rfl
theorem opR_mini (x y : Opd) : opR O P (.mini x y) tm H ds R E = quiet (rop (.mini x y) tm H) R H ds := rfl
@[go_sem] theorem opR_allocT (t : TypeId) (z : List AVal) : opR O P (.allocT t z) tm H ds R E = newCellsT t z H R ds := rfl
theorem opR_alloc (z : List AVal) : opR O P (.alloc z) tm H ds R E = newCells z H R ds := rfl
theorem opR_box (x : Opd) : opR O P (.box x) tm H ds R E = boxed (ev tm x) H R ds := rfl
theorem opR_mkmap : opR O P .mkmap tm H ds R E = newMap H R ds := rfl
theorem opR_store (n : Nat) (x v : Opd) : opR O P (.store n x v) tm H ds R E = wrote (storeA H n (ev tm x) (ev tm v)) R ds := rfl
theorem opR_mset (kk : KK) (m k v : Opd) : opR O P (.mset kk m k v) tm H ds R E = wrote (msetA H kk (ev tm m) (ev tm k) (ev tm v)) R ds := rfl
theorem opR_app (sz bytes : Nat) (e : TypeId) (x y : Opd) : opR O P (.app sz bytes e x y) tm H ds R E = appP sz bytes e (ev tm x) (ev tm y) H ds R := rfl
@[go_sem] theorem opR_apps (bytes : Nat) (e : TypeId) (x y : Opd) : opR O P (.apps bytes e x y) tm H ds R E = appsP bytes e (ev tm x) (ev tm y) H ds R := rfl
theorem opR_call (f : Opd) (args : List Opd) : opR O P (.call f args) tm H ds R E = called O P (ev tm f) (args.map (ev tm)) H ds R E := rfl
theorem opR_dfr (f : Opd) (args : List Opd) : opR O P (.dfr f args) tm H ds R E = defers (ev tm f) (args.map (ev tm)) H ds R := rfl
theorem opR_pnc (x : Opd) : opR O P (.pnc x) tm H ds R E = panicks (ev tm x) H ds E := rfl
end

section
variable (O : Cfg) (P : Program) (Q : Post) (sp : S) (tm : List AVal) (H : Hp) (ds : List ADef)
theorem plan_nil : plan O P Q sp [] ⟨tm, H, ds⟩ = Q .normal ⟨tm, H, ds⟩ := rfl
theorem plan_none (d : Option Nat) (op : AOp) (rest : List AOper) : plan O P Q sp (⟨d, op, none⟩ :: rest) ⟨tm, H, ds⟩ = opR O P op tm H ds (thenK ⟨tm, H, ds⟩ d (plan O P Q sp rest)) (elseQ sp Q) := rfl
theorem plan_take (d : Option Nat) (op : AOp) (rest : List AOper) (t : Nat) (b : Bool) (h : tm.getD t .unk = .bool b) : plan O P Q sp (⟨d, op, some (t, b)⟩ :: rest) ⟨tm, H, ds⟩ = opR O P op tm H ds (thenK ⟨tm, H, ds⟩ d (plan O P Q sp rest)) (elseQ sp Q) := by
  simp only [plan, gdA, h, beq_self_eq_true]
theorem plan_skipT (d : Option Nat) (op : AOp) (rest : List AOper) (t : Nat) (h : tm.getD t .unk = .bool false) : plan O P Q sp (⟨d, op, some (t, true)⟩ :: rest) ⟨tm, H, ds⟩ = plan O P Q sp rest ⟨setTm tm d (.tup []), H, ds⟩ := by
  simp only [plan, gdA, h]; rfl
theorem plan_skipF (d : Option Nat) (op : AOp) (rest : List AOper) (t : Nat) (h : tm.getD t .unk = .bool true) : plan O P Q sp (⟨d, op, some (t, false)⟩ :: rest) ⟨tm, H, ds⟩ = plan O P Q sp rest ⟨setTm tm d (.tup []), H, ds⟩ := by
  simp only [plan, gdA, h]; rfl
theorem plan_skipU (d : Option Nat) (op : AOp) (rest : List AOper) (t : Nat) (b : Bool) (h : tm.getD t .unk = .tup []) : plan O P Q sp (⟨d, op, some (t, b)⟩ :: rest) ⟨tm, H, ds⟩ = plan O P Q sp rest ⟨setTm tm d (.tup []), H, ds⟩ := by
  simp only [plan, gdA, h]; rfl

def chkThen (chk : List AOper) (K : S → Prop) (s : S) : Prop := chkAll s chk ∧ K s
theorem chkThen_nil (K : S → Prop) (s : S) : chkThen [] K s = K s := by simp [chkThen, chkAll]
theorem chkThen_cons (c : AOper) (chk : List AOper) (K : S → Prop) (s : S) : chkThen (c :: chk) K s = (chkOk s c ∧ chkThen chk K s) := by simp [chkThen, chkAll, and_assoc]
theorem planD_nil : planD O P Q sp [] ⟨tm, H, ds⟩ = Q .normal ⟨tm, H, ds⟩ := rfl
theorem planD_none (d : Option Nat) (op : AOp) (chk : List AOper) (rest : List AOperD) : planD O P Q sp (⟨⟨d, op, none⟩, chk⟩ :: rest) ⟨tm, H, ds⟩ = opR O P op tm H ds (thenK ⟨tm, H, ds⟩ d (chkThen chk (planD O P Q sp rest))) (elseQ sp Q) := rfl
theorem planD_take (d : Option Nat) (op : AOp) (chk : List AOper) (rest : List AOperD) (t : Nat) (b : Bool) (h : tm.getD t .unk = .bool b) : planD O P Q sp (⟨⟨d, op, some (t, b)⟩, chk⟩ :: rest) ⟨tm, H, ds⟩ = opR O P op tm H ds (thenK ⟨tm, H, ds⟩ d (chkThen chk (planD O P Q sp rest))) (elseQ sp Q) := by
  simp only [planD, gdA, h, beq_self_eq_true]; rfl
theorem planD_skipT (d : Option Nat) (op : AOp) (chk : List AOper) (rest : List AOperD) (t : Nat) (h : tm.getD t .unk = .bool false) : planD O P Q sp (⟨⟨d, op, some (t, true)⟩, chk⟩ :: rest) ⟨tm, H, ds⟩ = planD O P Q sp rest ⟨setTm tm d (.tup []), H, ds⟩ := by
  simp only [planD, gdA, h]; rfl
theorem planD_skipF (d : Option Nat) (op : AOp) (chk : List AOper) (rest : List AOperD) (t : Nat) (h : tm.getD t .unk = .bool true) : planD O P Q sp (⟨⟨d, op, some (t, false)⟩, chk⟩ :: rest) ⟨tm, H, ds⟩ = planD O P Q sp rest ⟨setTm tm d (.tup []), H, ds⟩ := by
  simp only [planD, gdA, h]; rfl
theorem planD_skipU (d : Option Nat) (op : AOp) (chk : List AOper) (rest : List AOperD) (t : Nat) (b : Bool) (h : tm.getD t .unk = .tup []) : planD O P Q sp (⟨⟨d, op, some (t, b)⟩, chk⟩ :: rest) ⟨tm, H, ds⟩ = planD O P Q sp rest ⟨setTm tm d (.tup []), H, ds⟩ := by
  simp only [planD, gdA, h]; rfl
theorem thenK_eq (s : S) (d : Option Nat) (K : S → Prop) (v : AVal) (H' : Hp) (ds' : List ADef) : thenK s d K v H' ds' = K ⟨setTm s.tm d v, H', ds'⟩ := rfl
theorem elseQ_eq (v : AVal) (H' : Hp) (ds' : List ADef) : elseQ sp Q v H' ds' = Q (.panic v) ⟨sp.tm, H', ds'⟩ := rfl
end

section
variable (O : Cfg) (P : Program) (ks : Tab) (Q : Post) (tm : List AVal) (H : Hp) (ds : List ADef)
theorem wpC_skip (s : S) : wpC O P ks .skip Q s = Q .normal s := rfl
theorem wpC_ret (s : S) : wpC O P ks .ret Q s = Q .ret s := rfl
theorem wpC_exit (i : Nat) (s : S) : wpC O P ks (.exit i) Q s = Q (.exit i) s := rfl
theorem wpC_goto (i : Nat) (s : S) : wpC O P ks (.goto i) Q s = Q (.goto i) s := rfl
theorem wpC_label (i : Nat) (s : S) : wpC O P ks (.label i) Q s = Q .normal s := rfl
theorem wpC_block (i : Nat) (b : ACode) (s : S) : wpC O P ks (.block i b) Q s = wpC O P ks b (inBlk i Q) s := rfl
theorem wpC_scope (b : ACode) (s : S) : wpC O P ks (.scope b) Q s = wpC O P ks b (noGoA Q) s := rfl
theorem wpC_loop (b : ACode) (s : S) : wpC O P ks (.loop b) Q s = AC O P ks (.loop b) Q s := rfl
theorem wpC_seq (a b : ACode) (s : S) : wpC O P ks (.seq a b) Q s = wpC O P ks a (thenP O P ks b Q) s := rfl
theorem thenP_normal (b : ACode) (s : S) : thenP O P ks b Q .normal s = AC O P ks b Q s := rfl
theorem thenP_exit (b : ACode) (i : Nat) (s : S) : thenP O P ks b Q (.exit i) s = Q (.exit i) s := rfl
theorem thenP_goto (b : ACode) (i : Nat) (s : S) : thenP O P ks b Q (.goto i) s = Q (.goto i) s := rfl
theorem thenP_ret (b : ACode) (s : S) : thenP O P ks b Q .ret s = Q .ret s := rfl
theorem thenP_panic (b : ACode) (v : AVal) (s : S) : thenP O P ks b Q (.panic v) s = Q (.panic v) s := rfl
theorem wpC_cond (o : Opd) (dr : Bool) (a b : ACode) : wpC O P ks (.cond o dr a b) Q ⟨tm, H, ds⟩ = condA (ev tm o) (fun _ => wpC O P ks a Q (dropO dr o ⟨tm, H, ds⟩)) (fun _ => wpC O P ks b Q (dropO dr o ⟨tm, H, ds⟩)) := rfl
theorem wpC_reg (as : List AOper) (d : List Nat) (s : S) : wpC O P ks (.reg as d) Q s = plan O P (killP d Q) (forget s as) as s := rfl
theorem wpC_dreg (as : List AOperD) (d : List Nat) (s : S) : wpC O P ks (.dreg as d) Q s = planD O P (killP d Q) (forgetD s as) as s := rfl
end

section
variable (Q : Post) (s : S) (K : S → Prop)
theorem andThen_normal : andThen K Q .normal s = K s := rfl
theorem andThen_exit (i : Nat) : andThen K Q (.exit i) s = Q (.exit i) s := rfl
theorem andThen_goto (i : Nat) : andThen K Q (.goto i) s = Q (.goto i) s := rfl
theorem andThen_ret : andThen K Q .ret s = Q .ret s := rfl
theorem andThen_panic (v : AVal) : andThen K Q (.panic v) s = Q (.panic v) s := rfl
theorem inBlk_normal (i : Nat) : inBlk i Q .normal s = Q .normal s := rfl
theorem inBlk_same (i : Nat) : inBlk i Q (.exit i) s = Q .normal s := by simp [inBlk]
theorem inBlk_other (i j : Nat) (h : j ≠ i) : inBlk i Q (.exit j) s = Q (.exit j) s := by simp [inBlk, h]
theorem inBlk_goto (i l : Nat) : inBlk i Q (.goto l) s = Q (.goto l) s := rfl
theorem inBlk_ret (i : Nat) : inBlk i Q .ret s = Q .ret s := rfl
theorem inBlk_panic (i : Nat) (v : AVal) : inBlk i Q (.panic v) s = Q (.panic v) s := rfl
theorem killP_normal (d : List Nat) (tm : List AVal) (H : Hp) (ds : List ADef) : killP d Q .normal ⟨tm, H, ds⟩ = Q .normal ⟨killTm d tm, H, ds⟩ := rfl
theorem killP_panic (d : List Nat) (v : AVal) : killP d Q (.panic v) s = Q (.panic v) s := rfl
theorem noGoA_normal : noGoA Q .normal s = Q .normal s := rfl
theorem noGoA_exit (i : Nat) : noGoA Q (.exit i) s = Q (.exit i) s := rfl
theorem noGoA_ret : noGoA Q .ret s = Q .ret s := rfl
theorem noGoA_panic (v : AVal) : noGoA Q (.panic v) s = Q (.panic v) s := rfl
end

def lenSK : AVal → Option AVal
  | .str s => some (.int .i64 (sLen s))
  | _ => none
def lenLK : AVal → Option AVal
  | .sl rows _ => some (.int .i64 (rLen rows))
  | .slm _ n _ => some (.int .i64 n)
  | _ => none
def ixSK : AVal → AVal → Option AVal
  | .str s, .int _ n => ixK s n
  | _, _ => none
def beqK (ng : Bool) : AVal → AVal → Option AVal
  | .bool a, .bool b => some (.bool (match ng with | true => bXor a b | false => bEq a b))
  | _, _ => none
def notK : AVal → Option AVal
  | .bool a => some (.bool (bNot a))
  | _ => none
def cintK (k : IntKind) : AVal → Option AVal
  | .int _ n => some (.int k (wInt k n))
  | _ => none
def negK : AVal → Option AVal
  | .int k n => some (.int k (wNeg k n))
  | _ => none
def s2bK : AVal → Option AVal
  | .str s => some (.sl (s.map fun b => [.int .u8 (uC b)]) .frz)
  | _ => none
def maxK : AVal → AVal → Option AVal
  | .int k a, .int _ b => some (.int k (iMax a b))
  | _, _ => none
def minK : AVal → AVal → Option AVal
  | .int k a, .int _ b => some (.int k (iMin a b))
  | _, _ => none

theorem rop_beq (ng : Bool) (x y : Opd) (tm : List AVal) (H : Hp) : rop (.beq ng x y) tm H = beqK ng (ev tm x) (ev tm y) := by
  simp only [rop, beqK]
  generalize ev tm x = u
  generalize ev tm y = v
  cases u <;> cases v <;> try rfl
  rename_i a b
  cases ng <;> cases a <;> cases b <;> rfl

theorem rop_mv (x : Opd) (tm : List AVal) (H : Hp) : rop (.mv x) tm H = some (ev tm x) := rfl
theorem rop_pick (c x y : Opd) (tm : List AVal) (H : Hp) : rop (.pick c x y) tm H = (match ev tm c with | .bool b => some (b2i b (ev tm x) (ev tm y)) | _ => none) := rfl
theorem rop_build (z : List AVal) (ps : List (Nat × Nat × Opd)) (tm : List AVal) (H : Hp) : rop (.build z ps) tm H = (match fillA z (ps.map fun p => (p.1, p.2.1, ev tm p.2.2)) with | some x => some (.agg x) | none => none) := by
  simp only [rop]; cases fillA z (ps.map fun p => (p.1, p.2.1, ev tm p.2.2)) <;> rfl
theorem rop_load (k : Option Nat) (x : Opd) (tm : List AVal) (H : Hp) : rop (.load k x) tm H = loadA H k (ev tm x) := rfl
theorem rop_nilck (x : Opd) (tm : List AVal) (H : Hp) : rop (.nilck x) tm H = nilckA (ev tm x) := rfl
theorem rop_bin (op : BinOp) (x y : Opd) (tm : List AVal) (H : Hp) : rop (.bin op x y) tm H = binA op (ev tm x) (ev tm y) := rfl
def isnilK (ng : Bool) : Option Bool → Option AVal
  | some b => some (.bool (bXor ng b))
  | none => none
theorem rop_isnil (ng : Bool) (nk : NK) (x : Opd) (tm : List AVal) (H : Hp) : rop (.isnil ng nk x) tm H = isnilK ng (isNilA nk (ev tm x)) := by
  simp only [rop]; cases isNilA nk (ev tm x) <;> rfl
def sleqK (ng : Bool) (ks : List (Nat × KK)) : AVal → AVal → Option AVal
  | .agg a, .agg b => (eqCells ks a b).map fun r => .bool (xor ng r)
  | _, _ => none
theorem rop_sleq (ng : Bool) (ks : List (Nat × KK)) (x y : Opd) (tm : List AVal) (H : Hp) : rop (.sleq ng ks x y) tm H = sleqK ng ks (ev tm x) (ev tm y) := by
  simp only [rop]
  unfold sleqK; rfl
theorem rop_not (x : Opd) (tm : List AVal) (H : Hp) : rop (.not x) tm H = notK (ev tm x) := by
  simp only [rop]; unfold notK bNot; rfl
theorem rop_neg (x : Opd) (tm : List AVal) (H : Hp) : rop (.neg x) tm H = negK (ev tm x) := by
  simp only [rop]; unfold negK wNeg; rfl
theorem rop_cint (k : IntKind) (x : Opd) (tm : List AVal) (H : Hp) : rop (.cint k x) tm H = cintK k (ev tm x) := by
  simp only [rop]; unfold cintK wInt; rfl
def cstrK : AVal → Option AVal
  | .str s => some (.str s)
  | _ => none
theorem rop_cstr (x : Opd) (tm : List AVal) (H : Hp) : rop (.cstr x) tm H = cstrK (ev tm x) := by
  simp only [rop]; unfold cstrK; rfl
def b2sK : AVal → Option AVal
  | .sl rows _ => (bytesOf rows).map .str
  | _ => none
theorem rop_b2s (x : Opd) (tm : List AVal) (H : Hp) : rop (.b2s x) tm H = b2sK (ev tm x) := by
  simp only [rop]; unfold b2sK; rfl
theorem rop_s2b (x : Opd) (tm : List AVal) (H : Hp) : rop (.s2b x) tm H = s2bK (ev tm x) := by
  simp only [rop]; unfold s2bK uC; rfl
def slsK : AVal → Option AVal
  | .sl rows .frz => some (.sl rows .frz)
  | _ => none
theorem rop_sls (x : Opd) (tm : List AVal) (H : Hp) : rop (.sls x) tm H = slsK (ev tm x) := by
  simp only [rop]; unfold slsK; rfl
theorem rop_mkif (t : TypeId) (x : Opd) (tm : List AVal) (H : Hp) : rop (.mkif t x) tm H = some (.iface t (ev tm x)) := rfl
theorem rop_mkfn (fn : Fn) (f c : List Opd) (tm : List AVal) (H : Hp) : rop (.mkfn fn f c) tm H = some (.func fn (f.map (ev tm)) (c.map (ev tm))) := rfl
def slSK (lo hi : Option AVal) : AVal → Option AVal
  | .str s => slSA s lo hi
  | _ => none
theorem rop_slS (x : Opd) (lo hi : Option Opd) (tm : List AVal) (H : Hp) : rop (.slS x lo hi) tm H = slSK (lo.map (ev tm)) (hi.map (ev tm)) (ev tm x) := by
  simp only [rop]; unfold slSK; rfl
def slLK (sz : Nat) (lo hi mx : Option AVal) : AVal → Option AVal
  | .sl rows t => slLA sz rows t lo hi mx
  | .slm id n sz' => slMA sz id n sz' lo hi mx
  | _ => none
theorem rop_slL (sz : Nat) (x : Opd) (lo hi mx : Option Opd) (tm : List AVal) (H : Hp) : rop (.slL sz x lo hi mx) tm H = slLK sz (lo.map (ev tm)) (hi.map (ev tm)) (mx.map (ev tm)) (ev tm x) := by
  simp only [rop]; unfold slLK; rfl
theorem rop_faddr (off : Nat) (x : Opd) (tm : List AVal) (H : Hp) : rop (.faddr off x) tm H = faddrA off (ev tm x) := rfl
def fieldK (k : Option Nat) (off : Nat) : AVal → Option AVal
  | .agg cs => partA k off cs
  | _ => none
theorem rop_field (k : Option Nat) (off : Nat) (x : Opd) (tm : List AVal) (H : Hp) : rop (.field k off x) tm H = fieldK k off (ev tm x) := by
  simp only [rop]; unfold fieldK; rfl
def iaddrK (sz : Nat) : AVal → AVal → Option AVal
  | .sl rows _, .int _ n => iaddrA sz rows n
  | .slm id n sz', .int _ k => iaddrM sz id n sz' k
  | _, _ => none
theorem rop_iaddr (sz : Nat) (x i : Opd) (tm : List AVal) (H : Hp) : rop (.iaddr sz x i) tm H = iaddrK sz (ev tm x) (ev tm i) := by
  simp only [rop]; unfold iaddrK; rfl
theorem rop_ixS (x i : Opd) (tm : List AVal) (H : Hp) : rop (.ixS x i) tm H = ixSK (ev tm x) (ev tm i) := by
  simp only [rop]; unfold ixSK ixK uC; rfl
def extK (i : Nat) : AVal → Option AVal
  | .tup vs => vs[i]?
  | _ => none
theorem rop_ext (x : Opd) (i : Nat) (tm : List AVal) (H : Hp) : rop (.ext x i) tm H = extK i (ev tm x) := by
  simp only [rop]; unfold extK; rfl
theorem rop_lenS (x : Opd) (tm : List AVal) (H : Hp) : rop (.lenS x) tm H = lenSK (ev tm x) := by
  simp only [rop]; unfold lenSK sLen; rfl
theorem rop_lenL (x : Opd) (tm : List AVal) (H : Hp) : rop (.lenL x) tm H = lenLK (ev tm x) := by
  simp only [rop]; unfold lenLK rLen; rfl
theorem rop_bsl (sz : Nat) (ps : List Opd) (tm : List AVal) (H : Hp) : rop (.bsl sz ps) tm H = (match rowsA sz (ps.map (ev tm)) with | some rows => some (.sl rows .full) | none => none) := by
  simp only [rop]; cases rowsA sz (ps.map (ev tm)) <;> rfl
theorem rop_bslf (sz : Nat) (ps : List Opd) (tm : List AVal) (H : Hp) : rop (.bslf sz ps) tm H = (match rowsA sz (ps.map (ev tm)) with | some rows => some (.sl rows .frz) | none => none) := by
  simp only [rop]; cases rowsA sz (ps.map (ev tm)) <;> rfl
theorem rop_tas (ok : Bool) (t : TypeId) (z : AVal) (x : Opd) (tm : List AVal) (H : Hp) : rop (.tas ok t z x) tm H = tasA ok t z (ev tm x) := rfl
theorem rop_look (ok : Bool) (kk : KK) (z : AVal) (m k : Opd) (tm : List AVal) (H : Hp) : rop (.look ok kk z m k) tm H = lookA H ok kk z (ev tm m) (ev tm k) := rfl
theorem rop_maxi (x y : Opd) (tm : List AVal) (H : Hp) : rop (.maxi x y) tm H = maxK (ev tm x) (ev tm y) := by
  simp only [rop]; unfold maxK iMax; rfl
theorem rop_mini (x y : Opd) (tm : List AVal) (H : Hp) : rop (.mini x y) tm H = minK (ev tm x) (ev tm y) := by
  simp only [rop]; unfold minK iMin; rfl

theorem binA_lss (k : IntKind) (a b : Int) : binA .lss (.int k a) (.int k b) = some (.bool (iLt a b)) := by simp [binA, iLt]
theorem binA_leq (k : IntKind) (a b : Int) : binA .leq (.int k a) (.int k b) = some (.bool (iLe a b)) := by simp [binA, iLe]
theorem binA_gtr (k : IntKind) (a b : Int) : binA .gtr (.int k a) (.int k b) = some (.bool (iLt b a)) := by simp [binA, iLt]
theorem binA_geq (k : IntKind) (a b : Int) : binA .geq (.int k a) (.int k b) = some (.bool (iLe b a)) := by simp [binA, iLe]
theorem binA_eql (k : IntKind) (a b : Int) : binA .eql (.int k a) (.int k b) = some (.bool (iEq a b)) := by simp [binA, iEq]
theorem binA_neq (k : IntKind) (a b : Int) : binA .neq (.int k a) (.int k b) = some (.bool (bNot (iEq a b))) := by simp [binA, iEq, bNot, bne]
theorem binA_add (k : IntKind) (a b : Int) : binA .add (.int k a) (.int k b) = some (.int k (wAdd k a b)) := by simp [binA, wAdd]
theorem binA_sub (k : IntKind) (a b : Int) : binA .sub (.int k a) (.int k b) = some (.int k (wSub k a b)) := by simp [binA, wSub]
theorem binA_mul (k : IntKind) (a b : Int) : binA .mul (.int k a) (.int k b) = some (.int k (wMul k a b)) := by simp [binA, wMul]
theorem binA_sadd (a b : List UInt8) : binA .add (.str a) (.str b) = catK a b := by simp [binA, catK]
theorem binA_seql (a b : List UInt8) : binA .eql (.str a) (.str b) = some (.bool (sEq a b)) := by simp [binA, sEq]
/-- Is a string greater? -/
def sGt (a b : List UInt8) : Bool := !(Op.bytesLess a b || a == b)
theorem binA_sgtr (a b : List UInt8) : binA .gtr (.str a) (.str b) = some (.bool (sGt a b)) := by simp [binA, sGt]
theorem binA_sneq (a b : List UInt8) : binA .neq (.str a) (.str b) = some (.bool (bNot (sEq a b))) := by simp [binA, sEq, bNot]

/-! ### Small evaluations -/
theorem ev_t (tm : List AVal) (i : Nat) : ev tm (.t i) = tm.getD i .unk := rfl
theorem ev_c (tm : List AVal) (v : AVal) : ev tm (.c v) = v := rfl
theorem ev_f (tm : List AVal) (f : FuncId) : ev tm (.f f) = .func (.func f) [] [] := rfl
theorem setTm_some (tm : List AVal) (d : Nat) (v : AVal) : setTm tm (some d) v = tm.set d v := rfl
theorem setTm_none (tm : List AVal) (v : AVal) : setTm tm none v = tm := rfl
/-! ### States, written by what is known of them -/
def look : List (Nat × AVal) → Nat → AVal
  | [], _ => .unk
  | (k, v) :: m, i => bif Nat.beq k i then v else look m i
/-- The slots below n: those that are listed, with what they hold. -/
def mk (n : Nat) (m : List (Nat × AVal)) : List AVal := (List.range n).map (look m)
def argM : Nat → List AVal → List (Nat × AVal)
  | _, [] => []
  | i, a :: as => (i, a) :: argM (i + 1) as
def pickM (ks : List Nat) (m : List (Nat × AVal)) : List (Nat × AVal) := ks.map fun k => (k, look m k)
def eraseM (i : Nat) : List (Nat × AVal) → List (Nat × AVal)
  | [] => []
  | (k, v) :: m => bif Nat.beq k i then eraseM i m else (k, v) :: eraseM i m

theorem beq_no {k i : Nat} (h : (k == i) = false) : Nat.beq k i = false := by
  rw [Bool.eq_false_iff]
  intro e
  rw [Nat.eq_of_beq_eq_true e] at h
  simp at h
theorem look_hit (i : Nat) (v : AVal) (m : List (Nat × AVal)) : look ((i, v) :: m) i = v := by simp [look]
theorem look_miss (k i : Nat) (v : AVal) (m : List (Nat × AVal)) (h : (k == i) = false) : look ((k, v) :: m) i = look m i := by
  have : Nat.beq k i = false := beq_no h
  simp only [look, this, cond_false]
theorem eraseM_nil (i : Nat) : eraseM i [] = [] := rfl
theorem eraseM_hit (i : Nat) (v : AVal) (m : List (Nat × AVal)) : eraseM i ((i, v) :: m) = eraseM i m := by simp [eraseM]
theorem eraseM_miss (k i : Nat) (v : AVal) (m : List (Nat × AVal)) (h : (k == i) = false) : eraseM i ((k, v) :: m) = (k, v) :: eraseM i m := by
  have : Nat.beq k i = false := beq_no h
  simp only [eraseM, this, cond_false]
theorem look_eraseM (i j : Nat) : ∀ m : List (Nat × AVal), look (eraseM i m) j = if j = i then .unk else look m j
  | [] => by simp [eraseM, look]
  | (k, v) :: m => by
    have ih := look_eraseM i j m
    unfold eraseM
    by_cases h : k = i
    · subst h
      rw [show Nat.beq k k = true from Nat.beq_refl k, cond_true, ih]
      by_cases hj : j = k
      · simp [hj]
      · rw [if_neg hj, if_neg hj, look_miss _ _ _ _ (by simpa using fun e => hj e.symm)]
    · rw [beq_no (by simpa using h), cond_false]
      by_cases hk : k = j
      · subst hk
        rw [look_hit, if_neg h, look_hit]
      · rw [look_miss _ _ _ _ (by simpa using hk), look_miss _ _ _ _ (by simpa using hk), ih]
theorem mk_len (n : Nat) (m : List (Nat × AVal)) : (mk n m).length = n := by simp [mk]
theorem mk_at (n : Nat) (m : List (Nat × AVal)) (i : Nat) : (mk n m)[i]? = if i < n then some (look m i) else none := by
  unfold mk
  rw [List.getElem?_map]
  by_cases h : i < n
  · rw [List.getElem?_range h, if_pos h]; rfl
  · rw [List.getElem?_eq_none (by simpa using h), if_neg h]; rfl
theorem mk_getD (n : Nat) (m : List (Nat × AVal)) (i : Nat) (h : i < n) : (mk n m).getD i .unk = look m i := by
  rw [List.getD_eq_getElem?_getD, mk_at, if_pos h]; rfl
theorem mk_ext {n : Nat} {m m' : List (Nat × AVal)} (h : ∀ i, look m i = look m' i) : mk n m = mk n m' := by
  unfold mk; exact List.map_congr_left fun i _ => h i
theorem mk_set (n : Nat) (m : List (Nat × AVal)) (d : Nat) (v : AVal) : (mk n m).set d v = mk n ((d, v) :: m) := by
  apply List.ext_getElem?
  intro i
  rw [List.getElem?_set, mk_at, mk_at, mk_len]
  by_cases h : d = i
  · subst h; rw [if_pos rfl, look_hit]
  · rw [if_neg h, look_miss _ _ _ _ (by simpa using h)]
theorem mk_erase (n : Nat) (m : List (Nat × AVal)) (d : Nat) : (mk n m).set d .unk = mk n (eraseM d m) := by
  rw [mk_set]
  refine mk_ext fun i => ?_
  rw [look_eraseM]
  by_cases h : d = i
  · subst h; rw [look_hit, if_pos rfl]
  · rw [look_miss _ _ _ _ (by simpa using h), if_neg (fun e => h e.symm)]
theorem look_pickM (i : Nat) (m : List (Nat × AVal)) : ∀ ks : List Nat, look (pickM ks m) i = if ks.contains i = true then look m i else .unk
  | [] => by simp [pickM, look]
  | k :: ks => by
    have ih := look_pickM i m ks
    show look ((k, look m k) :: pickM ks m) i = _
    by_cases h : k = i
    · subst h; rw [look_hit]; simp
    · rw [look_miss _ _ _ _ (by simpa using h), ih, List.contains_cons]
      have : (i == k) = false := by simpa using fun e => h e.symm
      rw [this, Bool.false_or]
theorem mk_kill (n : Nat) (m : List (Nat × AVal)) (ks : List Nat) : killTm ks (mk n m) = mk n (pickM ks m) := by
  apply List.ext_getElem?
  intro i
  simp only [killTm, List.getElem?_mapIdx, mk_at]
  by_cases h : i < n
  · rw [if_pos h, if_pos h, look_pickM]; rfl
  · rw [if_neg h, if_neg h]; rfl
theorem look_argM : ∀ (as : List AVal) (j i : Nat), look (argM j as) i = if i < j then .unk else as.getD (i - j) .unk
  | [], j, i => by simp [argM, look]
  | a :: as, j, i => by
    unfold argM
    by_cases h : j = i
    · subst h; rw [look_hit, if_neg (by omega), Nat.sub_self]; rfl
    · rw [look_miss _ _ _ _ (by simpa using h), look_argM as (j + 1) i]
      by_cases h' : i < j
      · rw [if_pos h', if_pos (by omega)]
      · rw [if_neg h', if_neg (by omega), show i - j = (i - (j + 1)) + 1 by omega, List.getD_cons_succ]
theorem mk_args (n : Nat) (as : List AVal) (h : Nat.ble as.length n = true) : as ++ List.replicate (n - as.length) .unk = mk n (argM 0 as) := by
  have h' : as.length ≤ n := by simpa [Nat.ble_eq] using h
  apply List.ext_getElem?
  intro i
  by_cases h2 : i < n
  · rw [mk_at, if_pos h2, look_argM, if_neg (by omega), Nat.sub_zero, List.getD_eq_getElem?_getD]
    by_cases h1 : i < as.length
    · rw [List.getElem?_append_left h1, List.getElem?_eq_getElem h1]; rfl
    · rw [List.getElem?_append_right (by omega), List.getElem?_replicate, List.getElem?_eq_none (l := as) (by omega), if_pos (by omega)]; rfl
  · rw [mk_at, if_neg h2, List.getElem?_eq_none (by rw [List.length_append, List.length_replicate]; omega)]
theorem argM_nil (i : Nat) : argM i [] = [] := rfl
theorem argM_cons (i : Nat) (a : AVal) (as : List AVal) : argM i (a :: as) = (i, a) :: argM (i + 1) as := rfl
theorem pickM_nil (m : List (Nat × AVal)) : pickM [] m = [] := rfl
theorem pickM_cons (k : Nat) (ks : List Nat) (m : List (Nat × AVal)) : pickM (k :: ks) m = (k, look m k) :: pickM ks m := rfl
def dropM (dr : Bool) (i : Nat) (m : List (Nat × AVal)) : List (Nat × AVal) :=
  match dr with
  | true => eraseM i m
  | false => m
theorem dropM_true (i : Nat) (m : List (Nat × AVal)) : dropM true i m = eraseM i m := rfl
theorem dropM_false (i : Nat) (m : List (Nat × AVal)) : dropM false i m = m := rfl
theorem mk_drop (n : Nat) (m : List (Nat × AVal)) (H : Hp) (ds : List ADef) (dr : Bool) (i : Nat) : dropO dr (.t i) ⟨mk n m, H, ds⟩ = ⟨mk n (dropM dr i m), H, ds⟩ := by
  cases dr with
  | true => simp only [dropO, mk_erase, dropM]
  | false => rfl
theorem mk_condT (O : Cfg) (P : Program) (ks : Tab) (Q : Post) (n : Nat) (m : List (Nat × AVal)) (H : Hp) (ds : List ADef) (dr : Bool) (i : Nat) (a b : ACode) (hi : i < n) (h : look m i = .bool true) :
    wpC O P ks (.cond (.t i) dr a b) Q ⟨mk n m, H, ds⟩ = wpC O P ks a Q ⟨mk n (dropM dr i m), H, ds⟩ := by
  simp only [wpC_cond, ev_t, mk_getD _ _ _ hi, h, condA, condL, mk_drop]; simp
theorem mk_condF (O : Cfg) (P : Program) (ks : Tab) (Q : Post) (n : Nat) (m : List (Nat × AVal)) (H : Hp) (ds : List ADef) (dr : Bool) (i : Nat) (a b : ACode) (hi : i < n) (h : look m i = .bool false) :
    wpC O P ks (.cond (.t i) dr a b) Q ⟨mk n m, H, ds⟩ = wpC O P ks b Q ⟨mk n (dropM dr i m), H, ds⟩ := by
  simp only [wpC_cond, ev_t, mk_getD _ _ _ hi, h, condA, condL, mk_drop]; simp
/-- A branch that is not decided. -/
theorem wpC_split {O : Cfg} {P : Program} {ks : Tab} {Q : Post} {n : Nat} {m : List (Nat × AVal)} {H : Hp} {ds : List ADef} {dr : Bool} {i : Nat} {a b : ACode} {c : Bool} (hi' : Nat.blt i n = true) (h : look m i = .bool c)
    (h1 : c = true → wpC O P ks a Q ⟨mk n (dropM dr i m), H, ds⟩) (h2 : c = false → wpC O P ks b Q ⟨mk n (dropM dr i m), H, ds⟩) : wpC O P ks (.cond (.t i) dr a b) Q ⟨mk n m, H, ds⟩ := by
  have hi : i < n := by simpa [Nat.blt_eq] using hi'
  cases c with
  | true => rw [mk_condT (hi := hi) (h := h)]; exact h1 rfl
  | false => rw [mk_condF (hi := hi) (h := h)]; exact h2 rfl
/-- A test that is not decided. -/
theorem plan_split {O : Cfg} {P : Program} {Q : Post} {sp : S} {n : Nat} {m : List (Nat × AVal)} {H : Hp} {ds : List ADef} {d : Option Nat} {op : AOp} {rest : List AOper} {t : Nat} {b c : Bool} (_ : Nat.blt t n = true) (_ : look m t = .bool c)
    (h1 : c = true → plan O P Q sp (⟨d, op, some (t, b)⟩ :: rest) ⟨mk n m, H, ds⟩) (h2 : c = false → plan O P Q sp (⟨d, op, some (t, b)⟩ :: rest) ⟨mk n m, H, ds⟩) : plan O P Q sp (⟨d, op, some (t, b)⟩ :: rest) ⟨mk n m, H, ds⟩ := by
  cases c with
  | true => exact h1 rfl
  | false => exact h2 rfl
theorem planD_split {O : Cfg} {P : Program} {Q : Post} {sp : S} {n : Nat} {m : List (Nat × AVal)} {H : Hp} {ds : List ADef} {d : Option Nat} {op : AOp} {chk : List AOper} {rest : List AOperD} {t : Nat} {b c : Bool} (_ : Nat.blt t n = true) (_ : look m t = .bool c)
    (h1 : c = true → planD O P Q sp (⟨⟨d, op, some (t, b)⟩, chk⟩ :: rest) ⟨mk n m, H, ds⟩) (h2 : c = false → planD O P Q sp (⟨⟨d, op, some (t, b)⟩, chk⟩ :: rest) ⟨mk n m, H, ds⟩) : planD O P Q sp (⟨⟨d, op, some (t, b)⟩, chk⟩ :: rest) ⟨mk n m, H, ds⟩ := by
  cases c with
  | true => exact h1 rfl
  | false => exact h2 rfl
theorem b2i_true (x y : AVal) : b2i true x y = x := rfl
theorem b2i_false (x y : AVal) : b2i false x y = y := rfl
theorem isNil_nilptr : isNilA .ptr .nilptr = some true := rfl
theorem isNil_ref (i o : Nat) : isNilA .ptr (.ref i o) = some false := rfl
theorem isNil_ip (cs : List AVal) : isNilA .ptr (.ip cs) = some false := rfl
theorem isNil_nilmap : isNilA .map .nilmap = some true := rfl
theorem isNil_map (i : Nat) : isNilA .map (.map i) = some false := rfl
theorem isNil_nilfunc : isNilA .func .nilfunc = some true := rfl
theorem isNil_func (f : Fn) (a b : List AVal) : isNilA .func (.func f a b) = some false := rfl
theorem isNil_nilif : isNilA .iface .nilif = some true := rfl
theorem isNil_iface (t : TypeId) (v : AVal) : isNilA .iface (.iface t v) = some false := rfl
theorem pickK_bool (b : Bool) (x y : AVal) : (match AVal.bool b with | .bool b => some (b2i b x y) | _ => none) = some (b2i b x y) := rfl
theorem retOne (v : AVal) : one1 [v] = v := rfl
theorem retTwo (u v : AVal) (vs : List AVal) : one1 (u :: v :: vs) = .tup (u :: v :: vs) := rfl
def resQ (vs : Option (List AVal)) (Q : ARet → Hp → Prop) (H : Hp) : Prop :=
  match vs with
  | some vs => Q (.ret (one1 vs)) H
  | none => False
theorem resQ_some (vs : List AVal) (Q : ARet → Hp → Prop) (H : Hp) : resQ (some vs) Q H = Q (.ret (one1 vs)) H := rfl
theorem bodyA_normal (rs : List ARes) (Q : ARet → Hp → Prop) (tm : List AVal) (H : Hp) : bodyA rs Q .normal ⟨tm, H, []⟩ = resQ (resA ⟨tm, H, []⟩ rs) Q H := by
  simp only [bodyA, resQ, true_and]
  cases resA ⟨tm, H, []⟩ rs <;> rfl
theorem bodyA_ret (rs : List ARes) (Q : ARet → Hp → Prop) (tm : List AVal) (H : Hp) : bodyA rs Q .ret ⟨tm, H, []⟩ = resQ (resA ⟨tm, H, []⟩ rs) Q H := by
  simp only [bodyA, resQ, true_and]
  cases resA ⟨tm, H, []⟩ rs <;> rfl
theorem bodyA_panic (rs : List ARes) (Q : ARet → Hp → Prop) (v : AVal) (tm : List AVal) (H : Hp) : bodyA rs Q (.panic v) ⟨tm, H, []⟩ = Q (.panic v) H := by simp [bodyA]
theorem resA_nil (s : S) : resA s [] = some [] := rfl
theorem resA_tmp (tm : List AVal) (H : Hp) (ds : List ADef) (t : Nat) (rest : List ARes) : resA ⟨tm, H, ds⟩ (.tmp t :: rest) = (resA ⟨tm, H, ds⟩ rest).map (tm.getD t .unk :: ·) := rfl
theorem callPost_ret (ds : List ADef) (R E : Res) (v : AVal) (H : Hp) : callPost ds R E (.ret v) H = R v H ds := rfl

attribute [go_sem] ev_t ev_c ev_f setTm_some setTm_none mk_getD mk_set mk_kill mk_condT mk_condF dropM_true dropM_false look_hit look_miss eraseM_nil eraseM_hit eraseM_miss argM_nil argM_cons pickM_nil pickM_cons b2i_true b2i_false isNil_nilptr isNil_ref isNil_ip isNil_nilmap isNil_map isNil_nilfunc isNil_func isNil_nilif isNil_iface
  retOne retTwo resQ_some bodyA_normal bodyA_ret bodyA_panic resA_nil resA_tmp callPost_ret List.getD_cons_zero List.getD_cons_succ List.set_cons_zero List.set_cons_succ List.map_cons List.map_nil List.cons_append List.nil_append List.append_nil Option.map_some Option.map_none
  nilckA faddrA lenSK lenLK ixSK beqK notK cintK negK s2bK maxK minK isnilK cstrK slsK slSK slLK fieldK iaddrK extK pickK_bool fillA partA List.getElem?_cons_zero List.getElem?_cons_succ AVal.cells AVal.known
attribute [go_sem] quiet_some wrote_some called_func defers_func panicks_iface opR_mv opR_pick opR_build opR_load opR_nilck opR_bin opR_beq opR_isnil opR_sleq opR_not opR_neg opR_cint opR_cstr opR_b2s opR_s2b opR_sls opR_mkif opR_mkfn opR_slS opR_slL opR_faddr opR_field opR_iaddr opR_ixS opR_ext opR_lenS opR_lenL opR_bsl opR_tas opR_look opR_lenM opR_maxi opR_mini opR_alloc opR_box opR_mkmap opR_store opR_mset opR_app opR_call opR_dfr opR_pnc plan_nil plan_none plan_take plan_skipT plan_skipF plan_skipU chkThen_nil chkThen_cons planD_nil planD_none planD_take planD_skipT planD_skipF planD_skipU thenK_eq elseQ_eq wpC_skip wpC_ret wpC_exit wpC_goto wpC_label wpC_block wpC_scope wpC_seq thenP_normal thenP_exit thenP_goto thenP_ret thenP_panic  wpC_reg wpC_dreg andThen_normal andThen_exit andThen_goto andThen_ret andThen_panic inBlk_normal inBlk_same inBlk_other inBlk_goto inBlk_ret inBlk_panic killP_normal killP_panic noGoA_normal noGoA_exit noGoA_ret noGoA_panic rop_mv rop_beq rop_pick rop_build rop_load rop_nilck rop_bin rop_isnil rop_sleq rop_not rop_neg rop_cint rop_cstr rop_b2s rop_s2b rop_sls rop_mkif rop_mkfn rop_slS rop_slL rop_faddr rop_field rop_iaddr rop_ixS rop_ext rop_lenS rop_lenL rop_bsl rop_bslf opR_bslf rop_tas rop_look rop_maxi rop_mini binA_lss binA_leq binA_gtr binA_geq binA_eql binA_neq binA_add binA_sub binA_mul binA_sadd binA_seql binA_sneq binA_sgtr Hp.upd_same

end Go.Eng

