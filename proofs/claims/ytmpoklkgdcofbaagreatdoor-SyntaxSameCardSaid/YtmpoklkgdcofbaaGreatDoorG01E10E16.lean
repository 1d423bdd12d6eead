/- Rows that grow. -/
import Derived.Test.YtmpoklkgdcofbaaGreatDoorG00E0E9
import Derived.Laws.AppendOwn
import Derived.Deep.AppendSrc
set_option linter.unusedVariables false
set_option linter.unusedSimpArgs false
namespace Go.Eng
open Go.RowKit (Below)

/-- One cell, and known. -/
def AVal.one : AVal → Bool
  | .agg _ | .tup _ | .unk => false
  | _ => true

theorem Rep.one {G : Gh} {w : World} {a : AVal} {v : Value} (h : Rep G w a v) (h1 : a.one = true) : v.oneCell' = true := by
  cases h <;> first | rfl | (simp [AVal.one] at h1; done)

theorem Reps.one {G : Gh} {w : World} {as : List AVal} {vs : List Value} (h : Reps G w as vs) (h1 : as.all AVal.one = true) : ∀ u ∈ vs, u.oneCell' = true := by
  intro u hu
  obtain ⟨i, hi⟩ := List.mem_iff_getElem?.1 hu
  have hlt : i < as.length := by rw [h.1]; exact (List.getElem?_eq_some_iff.1 hi).1
  exact (h.2 i _ u (List.getElem?_eq_getElem hlt) hi).one (List.all_eq_true.1 h1 _ (List.getElem_mem hlt))

def tkO (o : Option TypeId) (e : TypeId) : Option TypeId := if o = some e then some e else none
@[simp] theorem tkO_same (e : TypeId) : tkO (some e) e = some e := by simp [tkO]

section
variable {P : Program} {base : Nat} {w0 : World} {H : Hp} {G : Gh} {w : World} {tm : List AVal} {a : Act}

/-- What the second argument of an append yields. -/
structure SrcA (P : Program) (size : Nat) (tx : TypeId) (x : Value) (n : Nat) (news : List Value) (w : World) : Prop where
  kind : (∃ e', P.underlying tx = some (.slice e')) ∨ P.underlying tx = some .string
  len : ∀ w' : World, (Builtin.lenOf x).run P w' = .ok n w'
  cells : (Builtin.firstCells size n x).run P w = .ok news.toArray w
  cellsD : (Builtin.firstCells size n x).run P w.drew = .ok news.toArray w.drew
  newsLen : news.length = n * size

theorem SrcA.str {tx : TypeId} (hk : P.underlying tx = some .string) (s : ByteArray) : SrcA P 1 tx (.string s) s.size (byteCells s) w :=
  ⟨.inr hk, fun _ => rfl, firstCells_string s w, firstCells_string s w.drew, by rw [byteCells_length, Nat.mul_one]⟩

theorem append_room (t tx ty e e' : TypeId) (i : TypeInfo) (ht : P.underlying t = some (.slice e)) (hi : P.info? e = some i)
    (g sLen sCap : Nat) (cur : Array Value) (hg : w.heap[g]? = some (.cells cur e' (0, 0)))
    (x : Value) (m : Nat) (news : List Value) (hs : SrcA P i.size tx x m news w) (h1 : ∀ u ∈ news, u.oneCell' = true)
    (hroom : sLen + m ≤ sCap) (hfit : sLen * i.size + news.length ≤ cur.size) :
    (Builtin.append_ #[t, tx] ty #[.slice (some ⟨g, 0, none⟩) sLen sCap, x]).run P w =
      .ok (.slice (some ⟨g, 0, none⟩) (sLen + m) sCap) (w.setRow g (cur.toList.take (sLen * i.size) ++ news ++ cur.toList.drop (sLen * i.size + news.length)).toArray) := by
  have hst := run_storeCells_at P g (sLen * i.size) e' news 0 cur w hg (by simpa using hfit) h1
  simp only [Nat.add_zero] at hst
  rcases hs.kind with ⟨e', hk⟩ | hk <;> simp [Builtin.append_, run_underlying ht, run_underlying hk, sizeOf, typeInfo, hi, hs.len, hroom, hs.cells, Addr.add_lit, hst]

theorem append_grow (t tx ty e : TypeId) (i : TypeInfo) (z : Value) (ht : P.underlying t = some (.slice e)) (hi : P.info? e = some i) (hz : i.zero = some z) (base : Option Addr) (sLen sCap : Nat) (olds : List Value)
    (hold : (Builtin.firstCells i.size sLen (.slice base sLen sCap)).run P w.drew = .ok olds.toArray w.drew) (x : Value) (n : Nat) (news : List Value) (hs : SrcA P i.size tx x n news w)
    (hg : sCap < sLen + n) (h63 : ((sLen + n : Nat) : Int) ≤ 9223372036854775807) (hfit : Builtin.nextslicecap (sLen + n) sCap * i.bytes ≤ 281474976710656) :
    (Builtin.append_ #[t, tx] ty #[.slice base sLen sCap, x]).run P w =
      .ok (.slice (some ⟨w.heap.size, 0, none⟩) (sLen + n) (grownCap w (sLen + n) sCap e))
        (w.drew.alloc (.cells (olds.toArray ++ news.toArray ++ Builtin.zeroCells z.cells (grownCap w (sLen + n) sCap e - (sLen + n))) e)) := by
  have hn : ¬ (sLen + n ≤ sCap) := by omega
  have h63' : ¬ (9223372036854775807 < ((sLen : Int) + (n : Int))) := by omega
  have h48' : ¬ (281474976710656 < Builtin.nextslicecap (sLen + n) sCap * i.bytes) := by omega
  rcases hs.kind with ⟨e', hk⟩ | hk <;>
    (simp [Builtin.append_, run_underlying ht, run_underlying hk, sizeOf, typeInfo, zeroValue, hi, hz, hs.len, hn, h63', h48', Question.forced, hs.cellsD, hold, newRow, grownCap]
     congr 2
     apply Array.ext'
     simp [List.append_assoc])

theorem append_none (t u ty e : TypeId) (i : TypeInfo) (ht : P.underlying t = some (.slice e)) {d : TypeId} (hu : P.underlying u = some (.slice d)) (hi : P.info? e = some i) (s : Option Addr) (n cap : Nat) (b : Option Addr) (c : Nat) (hn : n ≤ cap) :
    (Builtin.append_ #[t, u] ty #[.slice s n cap, .slice b 0 c]).run P w = .ok (.slice s n cap) w := by
  cases b <;> cases s <;> simp [Builtin.append_, run_underlying ht, run_underlying hu, sizeOf, typeInfo, hi, Builtin.lenOf, hn, Builtin.firstCells, loadCells, loadCellsFrom, storeCells]

/-- The token's row, moved or not. -/
theorem Wr.moveTok (h : Wr base w0 H G w) {id b b' n m sz : Nat} {o o' : Option TypeId} (hH : H id = some (.tok n sz o)) (hst : G.st id = .tok b n sz) (hm : n ≤ m) (he : n = m → b' = b) (hb' : base ≤ b')
    (hother : ∀ j, H j ≠ none → (G.st j).block = some b' → j = id)
    (w' : World) (hsz : w.heap.size ≤ w'.heap.size) (hblt : b' < w'.heap.size) (hwo : w'.os = w.os) (hwt : w'.tape = w.tape) (hwu : w'.output = w.output)
    (hoth : ∀ k, k < w.heap.size → k ≠ b' → w'.heap[k]? = w.heap[k]?) (hfr : ∀ k, w.heap.size ≤ k → k < w'.heap.size → k = b')
    (hown : b' < w.heap.size → w'.shape? b' = w.shape? b' ∧ ∃ f, G.fr b' = some f ∧ f ≤ m * sz ∧ ∀ o, o < f → w'.cell? ⟨b', o, none⟩ = w.cell? ⟨b', o, none⟩)
    (c : Array Value) (ty : TypeId) (hcell : w'.heap[b']? = some (.cells c ty (0, 0))) (hle : m * sz ≤ c.size) (hty : ∀ e, o' = some e → ty = e) :
    Wr base w0 (H.upd id (.tok m sz o')) (G.setSt id (.tok b' m sz) b' (some (m * sz))) w' ∧ GExt G w (G.setSt id (.tok b' m sz) b' (some (m * sz))) w' := by
  have hst' : ∀ i, i ≠ id → (G.setSt id (.tok b' m sz) b' (some (m * sz))).st i = G.st i := fun i hi => by simp only [Gh.setSt]; rw [if_neg hi]
  have hfr' : ∀ k, k ≠ b' → (G.setSt id (.tok b' m sz) b' (some (m * sz))).fr k = G.fr k := fun k hk => by simp only [Gh.setSt]; rw [if_neg hk]
  have hfrb : (G.setSt id (.tok b' m sz) b' (some (m * sz))).fr b' = some (m * sz) := by simp [Gh.setSt]
  have hstid : (G.setSt id (.tok b' m sz) b' (some (m * sz))).st id = .tok b' m sz := by simp [Gh.setSt]
  have x : GExt G w (G.setSt id (.tok b' m sz) b' (some (m * sz))) w' := {
    size := hsz
    shape := fun k hk => by
      by_cases e : k = b'
      · subst e; exact (hown hk).1
      · exact shape?_of_heap (hoth k hk e)
    imm := fun k hk hf => by
      have e : k ≠ b' := fun e => by
        subst e
        obtain ⟨_, f, hf', _⟩ := hown hk
        rw [hf] at hf'; cases hf'
      exact ⟨(hfr' k e).trans hf, hoth k hk e⟩
    own := fun k q hk hf => by
      by_cases e : k = b'
      · subst e
        obtain ⟨_, f, hf', hle', hc⟩ := hown hk
        rw [hf] at hf'; cases hf'
        exact ⟨fun n' hn' => by rw [hfrb] at hn'; cases hn'; exact hle', hc⟩
      · exact ⟨fun n' hn' => by rw [hfr' k e, hf] at hn'; cases hn'; exact Nat.le_refl _, fun o _ => cell?_of_heap (hoth k hk e)⟩
    obj := fun i q hi => by rw [hst' i (fun e => by subst e; rw [hst] at hi; cases hi)]; exact hi
    dead := fun i hi => by rw [hst' i (fun e => by subst e; rw [hst] at hi; cases hi)]; exact hi
    tok := fun i q k s hi => by
      by_cases e : i = id
      · subst e
        rw [hst] at hi; cases hi
        exact .inr ⟨b', m, sz, hstid, hm, fun e => ⟨he e, rfl⟩⟩
      · exact .inr ⟨q, k, s, (hst' i e).trans hi, Nat.le_refl _, fun _ => ⟨rfl, rfl⟩⟩ }
  refine ⟨⟨h.below.trans ⟨hwo, hwt, hwu, hsz, fun k hk => hoth k (by have := h.le; omega) (by omega)⟩, Nat.le_trans h.le hsz, fun k hk => ?_, fun k hk => ?_, fun i o hi => ?_, fun i j k hi hj h1 h2 => ?_, ?_⟩, x⟩
  · rw [hfr' k (by omega)]; exact h.old k hk
  · rw [hfr' k (by omega)]; exact h.new k (by omega)
  · by_cases e : i = id
    · subst e
      rw [Hp.upd_same] at hi; cases hi
      exact ⟨b', c, ty, hstid, hb', hfrb, hcell, hle, hty⟩
    · rw [Hp.upd_ne _ _ e] at hi
      refine (h.ob i o hi).mono x (hst' i e) fun k hk => ?_
      obtain ⟨k', k1, k2, _⟩ := (h.ob i o hi).lt
      rw [k1] at hk
      have ek : k = k' := (Option.some.inj hk).symm
      rw [ek]
      have hne : k' ≠ b' := fun e' => by
        subst e'
        exact e (hother i (by rw [hi]; simp) k1)
      exact ⟨hfr' k' hne, hoth k' k2 hne⟩
  · have f : ∀ i, (H.upd id (.tok m sz o')) i ≠ none → H i ≠ none := fun i hi => by
      by_cases e : i = id
      · subst e; rw [hH]; simp
      · rwa [Hp.upd_ne _ _ e] at hi
    by_cases e : i = id
    · subst e
      rw [hstid] at h1
      by_cases e' : j = i
      · exact e'.symm
      · rw [hst' j e'] at h2
        cases h1
        exact (hother j (f j hj) h2).symm
    · rw [hst' i e] at h1
      by_cases e' : j = id
      · subst e'
        rw [hstid] at h2; cases h2
        exact hother i (f i hi) h1
      · rw [hst' j e'] at h2
        exact h.apart i j k (f i hi) (f j hj) h1 h2
  · obtain ⟨q, hq⟩ := h.fresh
    refine ⟨q, fun i hi => ?_⟩
    rw [hst' i (fun e => by subst e; rw [hq i hi] at hst; cases hst)]
    exact hq i hi


theorem Fr.moveTok {id b b' n m sz : Nat} {o o' : Option TypeId} (hH : H id = some (.tok n sz o)) (hst : G.st id = .tok b n sz) (hb' : b' = b ∨ w.heap.size ≤ b')
    {w' : World} (hoth : ∀ k, k < w.heap.size → k ≠ b' → w'.heap[k]? = w.heap[k]?) : Fr H G w (H.upd id (.tok m sz o')) (G.setSt id (.tok b' m sz) b' (some (m * sz))) w' := by
  have hne : ∀ k, k < w.heap.size → unkB H G k → k ≠ b' := fun k hk hu e => by
    rcases hb' with e' | e'
    · exact hu id (by rw [hH]; simp) (by rw [hst, e, e']; rfl)
    · omega
  refine ⟨fun k hk hu => ⟨hoth k hk (hne k hk hu), by simp only [Gh.setSt]; rw [if_neg (hne k hk hu)]⟩, fun k hk hu i hi => ?_⟩
  simp only [Gh.setSt]
  by_cases e : i = id
  · rw [if_pos e]
    intro h
    exact hne k hk hu (Option.some.inj h).symm
  · rw [if_neg e]
    rw [Hp.upd_ne _ _ e] at hi
    exact hu i hi

theorem rows_slice {rows : List (List AVal)} {tk : Tok} {u : Value} (h : Rep G w (.sl rows tk) u) {sz : Nat} (hs : ∀ r ∈ rows, r.length = sz) :
    ∃ (a : Option Addr) (cap : Nat) (vs : List Value), u = .slice a rows.length cap ∧ vs.length = rows.length * sz ∧ Reps G w rows.flatten vs ∧ (rows ≠ [] → ∃ b off, a = some ⟨b, off, none⟩ ∧ ImmRow G w b off vs) ∧ rows.length ≤ cap := by
  rcases h.sl_inv with ⟨rfl, hv, _⟩ | ⟨b, off, cap, sz', vs, hv, hsz, hr, hi, hb, hc, _⟩ | ⟨rfl, a, cap, hv, _⟩
  · exact ⟨none, 0, [], hv, by simp, ⟨rfl, fun i a v h => by simp at h⟩, fun h => absurd rfl h, by simp⟩
  · exact ⟨some ⟨b, off, none⟩, cap, vs, hv, by rw [← hr.1, flat_len hs], hr, fun _ => ⟨b, off, rfl, hi⟩, hc⟩
  · exact ⟨some a, cap, [], hv, by simp, ⟨rfl, fun i a v h => by simp at h⟩, fun h => absurd rfl h, by simp⟩

/-- An append onto a row of which the capacity is the length: a new row. -/
theorem runs_app_full {t tx e ty : TypeId} {i : TypeInfo} {z : Value} {sz bytes : Nat} {rows rows2 : List (List AVal)} {p q : Value} {vs2 : List Value} (hw : Wr base w0 H G w) (ht : P.underlying t = some (.slice e)) (hi : P.info? e = some i)
    (hz : i.zero = some z) (hsz : i.size = sz) (hby : i.bytes = bytes) (hzs : z.cells.size = sz) (hp : Rep G w (.sl rows .full) p) (hs : SrcA P i.size tx q rows2.length vs2 w) (hr2 : Reps G w rows2.flatten vs2) (h1 : ∀ r ∈ rows, r.length = sz) (h2 : ∀ r ∈ rows2, r.length = sz)
    (hne : rows2 ≠ []) (hb : (rows.length + rows2.length) * bytes ≤ 140737488355328) (hb0 : 0 < bytes) :
    ∃ id, H id = none ∧ ∃ u w' G', (Builtin.append_ #[t, tx] ty #[p, q]).run P w = .ok u w' ∧ Rep G' w' (.sl (rows ++ rows2) (.own id sz)) u ∧ Wr base w0 (H.upd id (.tok (rows.length + rows2.length) sz (some e))) G' w' ∧ GExt G w G' w' ∧ Fr H G w (H.upd id (.tok (rows.length + rows2.length) sz (some e))) G' w' := by
  obtain ⟨id, hun, hH, _⟩ := fresh_id hw
  refine ⟨id, hH, ?_⟩
  have hm0 : 0 < rows2.length := List.length_pos_iff.2 hne
  have hlenb : rows.length + rows2.length ≤ 140737488355328 := Nat.le_trans (Nat.le_mul_of_pos_right _ hb0) hb
  have hl2 : vs2.length = rows2.length * sz := by rw [hs.newsLen, hsz]
  obtain ⟨vs1, hl1, hr1, oldcap, holdcap, hrun⟩ : ∃ vs1 : List Value, vs1.length = rows.length * sz ∧ Reps G w rows.flatten vs1 ∧ ∃ old, old < rows.length + rows2.length ∧
      (Builtin.append_ #[t, tx] ty #[p, q]).run P w = .ok (.slice (some ⟨w.heap.size, 0, none⟩) (rows.length + rows2.length) (grownCap w (rows.length + rows2.length) old e))
        (w.drew.alloc (.cells (vs1.toArray ++ vs2.toArray ++ Builtin.zeroCells z.cells (grownCap w (rows.length + rows2.length) old e - (rows.length + rows2.length))) e)) := by
    rcases hp.sl_inv with ⟨rfl, rfl, _⟩ | ⟨b, off, cap, sz', vs, rfl, hsz', hr, hi', hbb, hc, htk⟩ | ⟨rfl, a0, cap0, rfl, hno⟩
    rotate_right
    · have hcap : cap0 = 0 := by
        rcases hno with hno | ⟨_, hno⟩
        · cases hno
        · exact hno
      subst hcap
      refine ⟨[], by simp, ⟨rfl, fun i a v h => by simp at h⟩, 0, by simpa using hm0, ?_⟩
      exact append_grow (P := P) t tx ty e i z ht hi hz (some a0) 0 0 [] (run_firstCells_some (P := P) w.drew i.size 0 a0 0 0 [] (by simp) (fun j v hv => by simp at hv)) q rows2.length vs2 hs (by omega) (by simp only [List.length_nil] at hlenb; omega) (by rw [hby]; exact growslice_fits (by omega) hb)
    · refine ⟨[], by simp, ⟨rfl, fun i a v h => by simp at h⟩, 0, by simpa using hm0, ?_⟩
      exact append_grow (P := P) t tx ty e i z ht hi hz none 0 0 [] (run_firstCells_none (P := P) w.drew i.size 0 0 0) q rows2.length vs2 hs (by omega) (by simp only [List.length_nil] at hlenb; omega) (by rw [hby]; exact growslice_fits (by omega) hb)
    · have hcap : cap = rows.length := htk
      refine ⟨vs, by rw [← hr.1, flat_len h1], hr, cap, by omega, ?_⟩
      exact append_grow (P := P) t tx ty e i z ht hi hz (some ⟨b, off, none⟩) rows.length cap vs (run_firstCells_some (P := P) w.drew i.size rows.length ⟨b, off, none⟩ rows.length cap vs (by rw [← hr.1, flat_len h1, hsz]) (fun j v hv => by rw [Addr.add_lit]; exact (hi' j v hv).1))
        q rows2.length vs2 hs (by omega) (by omega) (by rw [hby]; exact growslice_fits (by omega) hb)
  obtain ⟨cap', hcap'⟩ : ∃ c, c = grownCap w (rows.length + rows2.length) oldcap e := ⟨_, rfl⟩
  have hge : rows.length + rows2.length ≤ cap' := by rw [hcap']; exact grownCap_ge w _ _ e
  rw [← hcap'] at hrun
  obtain ⟨cs, hcs⟩ : ∃ cs, cs = vs1.toArray ++ vs2.toArray ++ Builtin.zeroCells z.cells (cap' - (rows.length + rows2.length)) := ⟨_, rfl⟩
  rw [← hcs] at hrun
  have hcss : cs.size = cap' * sz := by
    rw [hcs]
    simp only [Array.size_append, List.size_toArray, size_zeroCells, hzs, hl1, hl2, ← Nat.add_mul]
    congr 1; omega
  have hwd := hw.drew
  obtain ⟨k1, k2⟩ := hwd.1.newOb hun hH (.cells cs e) (.tok w.drew.heap.size (rows.length + rows2.length) sz) ((rows.length + rows2.length) * sz) (.tok (rows.length + rows2.length) sz (some e)) rfl (.inr ⟨_, _, rfl⟩)
    (fun G' w' _ g1 g2 g3 => ⟨w.drew.heap.size, cs, e, g1, hw.le, g2, g3, by rw [hcss]; exact Nat.mul_le_mul_right _ hge, fun _ he => by cases he; rfl⟩)
  have hx := hwd.2.trans k2
  refine ⟨_, _, _, hrun, ?_, k1, hx, Fr.drew.trans (Nat.le_refl _) (Fr.newOb rfl)⟩
  have hrr := (hr1.append hr2).mono hx
  have hl3 : (rows ++ rows2).length = rows.length + rows2.length := by simp
  have hfl : (rows ++ rows2).flatten = rows.flatten ++ rows2.flatten := by simp
  have hst : (G.setSt id (.tok w.drew.heap.size (rows.length + rows2.length) sz) w.drew.heap.size (some ((rows.length + rows2.length) * sz))).st id = .tok w.drew.heap.size (rows.length + rows2.length) sz := by simp [Gh.setSt]
  have hwe : w.heap.size = w.drew.heap.size := rfl
  have htok : TokOk (G.setSt id (.tok w.drew.heap.size (rows.length + rows2.length) sz) w.drew.heap.size (some ((rows.length + rows2.length) * sz))) (w.drew.alloc (.cells cs e)) (.own id sz) w.heap.size 0 (rows ++ rows2).length cap' sz := by
    refine ⟨rfl, ?_⟩
    simp only [hst]
    refine ⟨by omega, fun _ => ⟨by first | rfl | trivial, by first | rfl | trivial, by first | rfl | trivial, e, cs.size, ?_, by omega⟩⟩
    simp only [World.shape?, hwe, heap_push_eq]
  have key : Rep (G.setSt id (.tok w.drew.heap.size (rows.length + rows2.length) sz) w.drew.heap.size (some ((rows.length + rows2.length) * sz))) (w.drew.alloc (.cells cs e)) (.sl (rows ++ rows2) (.own id sz))
      (.slice (some ⟨w.heap.size, 0, none⟩) (rows ++ rows2).length cap') := by
    refine .sl (sz := sz) (vs := vs1 ++ vs2) (fun r hr => ?_) (by rw [hfl]; exact hrr.1) (by rw [hfl]; exact hrr.2) (fun j v hv => ⟨?_, ?_⟩) (by simp) (by omega) htok
    · rcases List.mem_append.1 hr with hr | hr
      · exact h1 r hr
      · exact h2 r hr
    · simp only [World.cell?, hwe, heap_push_eq, Nat.zero_add]
      rw [hcs, Array.getElem?_append_left (by have := (List.getElem?_eq_some_iff.1 hv).1; simp at this ⊢; exact this)]
      simpa using hv
    · refine ⟨by simp, fun n hn => ?_⟩
      simp only [Gh.setSt] at hn
      rw [if_pos (by rfl)] at hn
      cases hn
      have := (List.getElem?_eq_some_iff.1 hv).1
      simp only [List.length_append, hl1, hl2, ← Nat.add_mul] at this
      omega
  rw [hl3] at key
  exact key

/-- An append onto a row of the call's own. -/
theorem runs_app_own {t tx e ty : TypeId} {i : TypeInfo} {z : Value} {sz bytes id : Nat} {o : Option TypeId} {rows rows2 : List (List AVal)} {p q : Value} {vs2 : List Value} (hw : Wr base w0 H G w) (ht : P.underlying t = some (.slice e)) (hi : P.info? e = some i)
    (hz : i.zero = some z) (hsz : i.size = sz) (hby : i.bytes = bytes) (hzs : z.cells.size = sz) (hp : Rep G w (.sl rows (.own id sz)) p) (hs : SrcA P i.size tx q rows2.length vs2 w) (hr2 : Reps G w rows2.flatten vs2) (h1 : ∀ r ∈ rows, r.length = sz) (h2 : ∀ r ∈ rows2, r.length = sz)
    (hne : rows2 ≠ []) (hone : rows2.flatten.all AVal.one = true) (hH : H id = some (.tok rows.length sz o)) (hb : (rows.length + rows2.length) * bytes ≤ 140737488355328) (hb0 : 0 < bytes) :
    ∃ u w' G', (Builtin.append_ #[t, tx] ty #[p, q]).run P w = .ok u w' ∧ Rep G' w' (.sl (rows ++ rows2) (.own id sz)) u ∧ Wr base w0 (H.upd id (.tok (rows.length + rows2.length) sz (tkO o e))) G' w' ∧ GExt G w G' w' ∧ Fr H G w (H.upd id (.tok (rows.length + rows2.length) sz (tkO o e))) G' w' := by
  have hl2 : vs2.length = rows2.length * sz := by rw [hs.newsLen, hsz]
  have hm0 : 0 < rows2.length := List.length_pos_iff.2 hne
  have hlenb : rows.length + rows2.length ≤ 140737488355328 := Nat.le_trans (Nat.le_mul_of_pos_right _ hb0) hb
  have hl3 : (rows ++ rows2).length = rows.length + rows2.length := by simp
  have hfl : (rows ++ rows2).flatten = rows.flatten ++ rows2.flatten := by simp
  have hs3 : ∀ r ∈ rows ++ rows2, r.length = sz := fun r hr => by
    rcases List.mem_append.1 hr with hr | hr
    · exact h1 r hr
    · exact h2 r hr
  obtain ⟨b, c, ty', g1, g2, g3, g4, g5, g6⟩ := hw.ob id _ hH
  rcases hp.sl_inv with ⟨rfl, rfl, htk⟩ | ⟨b', off, cap, sz', vs, rfl, hsz', hr, hi', hbb, hc, htk⟩ | ⟨_, a0, cap0, _, hno⟩
  rotate_right
  · rcases hno with hno | ⟨hno, _⟩ <;> cases hno
  · rcases htk with htk | htk | htk <;> cases htk
  · obtain ⟨he1, htk⟩ := htk
    simp only [g1] at htk
    obtain ⟨-, htk⟩ := htk
    obtain ⟨e1, e2, e3, e'', N, e4, e5⟩ := htk (by first | rfl | trivial)
    subst e1; subst e3; subst he1
    have hN : N = c.size ∧ e'' = ty' := by simp only [World.shape?, g4, Option.some.injEq, Prod.mk.injEq] at e4; exact ⟨e4.2.symm, e4.1.symm⟩
    obtain ⟨rfl, rfl⟩ := hN
    have hvl : vs.length = rows.length * sz := by rw [← hr.1, flat_len h1]
    have hnews1 := hr2.one hone
    have hother : ∀ j, H j ≠ none → (G.st j).block = some b → j = id := fun j hj h => hw.apart j id b hj (by rw [hH]; simp) h (by rw [g1]; rfl)
    have hcells : ∀ (j : Nat) v, vs[j]? = some v → c[j]? = some v := fun j v hv => by
      have := (hi' j v hv).1
      simpa [World.cell?, g4] using this
    by_cases hroom : rows.length + rows2.length ≤ cap
    · -- in place
      have hmul : (rows.length + rows2.length) * sz ≤ c.size := Nat.le_trans (Nat.mul_le_mul_right _ hroom) e5
      have hfit : rows.length * i.size + vs2.length ≤ c.size := by rw [hl2, hsz, ← Nat.add_mul]; exact hmul
      have hrun := append_room (P := P) t tx ty e e'' i ht hi b rows.length cap c g4 q rows2.length vs2 hs hnews1 hroom hfit
      obtain ⟨cs, hcs⟩ : ∃ cs, cs = (c.toList.take (rows.length * i.size) ++ vs2 ++ c.toList.drop (rows.length * i.size + vs2.length)).toArray := ⟨_, rfl⟩
      rw [← hcs] at hrun
      have hcss : cs.size = c.size := by
        rw [hcs]; simp only [List.size_toArray, List.length_append, List.length_take, List.length_drop, Array.length_toList]; omega
      have hwb : (w.setRow b cs).heap[b]? = some (.cells cs e'' (0, 0)) := setRow_heap w b c cs e'' (0, 0) g4
      have hvsA : ∀ (j : Nat) v, (vs ++ vs2)[j]? = some v → cs[j]? = some v := fun j v hv => by
        have htake : c.toList.take (rows.length * i.size) = vs := by
          rw [hsz]
          apply List.ext_getElem?
          intro k
          rw [List.getElem?_take]
          split
          · rename_i hk
            have hk' : k < vs.length := by omega
            have := hcells k vs[k] (List.getElem?_eq_getElem hk')
            rw [List.getElem?_eq_getElem hk', ← this]; simp
          · rename_i hk
            rw [List.getElem?_eq_none (by omega)]
        rw [hcs, htake]
        simp only [List.getElem?_toArray]
        rw [List.getElem?_append_left (by exact (List.getElem?_eq_some_iff.1 hv).1)]
        exact hv
      obtain ⟨k1, k2⟩ := hw.moveTok (id := id) (b := b) (b' := b) (n := rows.length) (m := rows.length + rows2.length) (sz := sz) hH g1 (by omega) (fun _ => rfl) g2 hother (w.setRow b cs) (by simp [World.setRow]) (by simp [World.setRow]; exact hbb) rfl rfl rfl
        (fun k _ hk => setRow_other w b k cs (by omega)) (fun k h3 h4 => by simp [World.setRow] at h4; omega)
        (fun _ => ⟨by simp only [World.shape?, hwb, g4, hcss], rows.length * sz, g3, Nat.mul_le_mul_right _ (by omega), fun o ho => by
          have hov : o < vs.length := by omega
          have h6 := hcells o vs[o] (List.getElem?_eq_getElem hov)
          have h7 := hvsA o vs[o] (by rw [List.getElem?_append_left hov]; exact List.getElem?_eq_getElem hov)
          simp [World.cell?, hwb, g4, h6, h7]⟩)
        cs e'' hwb (by rw [hcss]; exact hmul) (o' := tkO o e) (fun e1 he => by
          unfold tkO at he; split at he
          · rename_i ho; cases he; exact g6 _ ho
          · cases he)
      refine ⟨_, _, _, hrun, ?_, k1, k2, Fr.moveTok hH g1 (.inl rfl) (fun k _ hk => setRow_other w b k cs (by omega))⟩
      have hrr := (hr.append hr2).mono k2
      have hst : (G.setSt id (.tok b (rows.length + rows2.length) sz) b (some ((rows.length + rows2.length) * sz))).st id = .tok b (rows.length + rows2.length) sz := by simp [Gh.setSt]
      have htok : TokOk (G.setSt id (.tok b (rows.length + rows2.length) sz) b (some ((rows.length + rows2.length) * sz))) (w.setRow b cs) (.own id sz) b 0 (rows ++ rows2).length cap sz := by
        refine ⟨rfl, ?_⟩
        simp only [hst]
        refine ⟨by omega, fun _ => ⟨by first | rfl | trivial, by first | rfl | trivial, by first | rfl | trivial, e'', cs.size, ?_, by omega⟩⟩
        simp only [World.shape?, hwb]
      have key := Rep.sl (sz := sz) (vs := vs ++ vs2) (rows := rows ++ rows2) (t := .own id sz) (off := 0) (b := b) (cap := cap) hs3 (by rw [hfl]; exact hrr.1) (by rw [hfl]; exact hrr.2) (fun j v hv => ⟨by simp only [World.cell?, hwb, Nat.zero_add]; simpa using hvsA j v hv, by
        refine ⟨by simp [World.setRow]; exact hbb, fun n hn => ?_⟩
        simp only [Gh.setSt, if_true] at hn
        cases hn
        have := (List.getElem?_eq_some_iff.1 hv).1
        simp only [List.length_append, hvl, hl2, ← Nat.add_mul] at this
        omega⟩) (by simp [World.setRow]; exact hbb) (by omega) htok
      rw [hl3] at key
      exact key
    · -- a new row
      have hrun := append_grow (P := P) t tx ty e i z ht hi hz (some ⟨b, 0, none⟩) rows.length cap vs (run_firstCells_some (P := P) w.drew i.size rows.length ⟨b, 0, none⟩ rows.length cap vs (by rw [hvl, hsz]) (fun j v hv => by rw [Addr.add_lit]; exact (hi' j v hv).1))
        q rows2.length vs2 hs (by omega) (by omega) (by rw [hby]; exact growslice_fits (by omega) hb)
      obtain ⟨cap', hcap'⟩ : ∃ c, c = grownCap w (rows.length + rows2.length) cap e := ⟨_, rfl⟩
      have hge : rows.length + rows2.length ≤ cap' := by rw [hcap']; exact grownCap_ge w _ _ e
      rw [← hcap'] at hrun
      obtain ⟨cs, hcs⟩ : ∃ cs, cs = vs.toArray ++ vs2.toArray ++ Builtin.zeroCells z.cells (cap' - (rows.length + rows2.length)) := ⟨_, rfl⟩
      rw [← hcs] at hrun
      have hcss : cs.size = cap' * sz := by
        rw [hcs]
        simp only [Array.size_append, List.size_toArray, size_zeroCells, hzs, hvl, hl2, ← Nat.add_mul]
        congr 1; omega
      have hwe : w.heap.size = w.drew.heap.size := rfl
      have hwb : (w.drew.alloc (.cells cs e)).heap[w.heap.size]? = some (.cells cs e (0, 0)) := by rw [hwe]; exact heap_push_eq _ _
      have hvsA : ∀ (j : Nat) v, (vs ++ vs2)[j]? = some v → cs[j]? = some v := fun j v hv => by
        rw [hcs, Array.getElem?_append_left (by have := (List.getElem?_eq_some_iff.1 hv).1; simp at this ⊢; exact this)]
        simpa using hv
      obtain ⟨k1, k2⟩ := hw.moveTok (id := id) (b := b) (b' := w.heap.size) (n := rows.length) (m := rows.length + rows2.length) (sz := sz) hH g1 (by omega) (fun e => by omega) hw.le
        (fun j hj h => by
          exfalso
          cases hh : H j with
          | none => exact hj hh
          | some o =>
            obtain ⟨k, q1, q2, _⟩ := (hw.ob j o hh).lt
            rw [h] at q1; cases q1; omega) (w.drew.alloc (.cells cs e)) (by simp) (by simp) rfl rfl rfl
        (fun k hk _ => by rw [heap_push_lt w.drew _ (by simpa using hk)]; rfl) (fun k h3 h4 => by simp at h4; omega)
        (fun h => by omega) cs e hwb (by rw [hcss]; exact Nat.mul_le_mul_right _ hge) (o' := tkO o e) (fun e1 he => by
          unfold tkO at he; split at he
          · cases he; rfl
          · cases he)
      refine ⟨_, _, _, hrun, ?_, k1, k2, Fr.moveTok hH g1 (.inr (Nat.le_refl _)) (fun k hk _ => by rw [heap_push_lt w.drew _ (by simpa using hk)]; rfl)⟩
      have hrr := (hr.append hr2).mono k2
      have hst : (G.setSt id (.tok w.heap.size (rows.length + rows2.length) sz) w.heap.size (some ((rows.length + rows2.length) * sz))).st id = .tok w.heap.size (rows.length + rows2.length) sz := by simp [Gh.setSt]
      have htok : TokOk (G.setSt id (.tok w.heap.size (rows.length + rows2.length) sz) w.heap.size (some ((rows.length + rows2.length) * sz))) (w.drew.alloc (.cells cs e)) (.own id sz) w.heap.size 0 (rows ++ rows2).length cap' sz := by
        refine ⟨rfl, ?_⟩
        simp only [hst]
        refine ⟨by omega, fun _ => ⟨by first | rfl | trivial, by first | rfl | trivial, by first | rfl | trivial, e, cs.size, ?_, by omega⟩⟩
        simp only [World.shape?, hwb]
      have key := Rep.sl (sz := sz) (vs := vs ++ vs2) (rows := rows ++ rows2) (t := .own id sz) (off := 0) (b := w.heap.size) (cap := cap') hs3 (by rw [hfl]; exact hrr.1) (by rw [hfl]; exact hrr.2) (fun j v hv => ⟨by simp only [World.cell?, hwb, Nat.zero_add]; simpa using hvsA j v hv, by
        refine ⟨by simp, fun n hn => ?_⟩
        simp only [Gh.setSt, if_true] at hn
        cases hn
        have := (List.getElem?_eq_some_iff.1 hv).1
        simp only [List.length_append, hvl, hl2, ← Nat.add_mul] at this
        omega⟩) (by simp) (by omega) htok
      rw [hl3] at key
      exact key

/-- The block of an object bears another number from now on. -/
theorem Wr.rename (h : Wr base w0 H G w) {id id' b : Nat} {ob : Ob} {cs : List AVal} {o : Option TypeId} (hob : ob = .cells cs o) (hH : H id = some ob) (hst : G.st id = .obj b) (hid : G.st id' = .unused) (hH' : H id' = none) :
    Wr base w0 ((H.del id).upd id' ob) (G.setSt id' (.obj b) b (some 0)) w ∧ GExt G w (G.setSt id' (.obj b) b (some 0)) w ∧ Fr H G w ((H.del id).upd id' ob) (G.setSt id' (.obj b) b (some 0)) w := by
  subst hob
  have hne : id ≠ id' := fun e => by subst e; rw [hH] at hH'; cases hH'
  obtain ⟨b', vs, ty, ex, g1, g2, g3, g4, g5, g6⟩ := h.ob id _ hH
  rw [hst] at g1; cases g1
  have hfr : (G.setSt id' (.obj b) b (some 0)).fr = G.fr := by
    funext k
    simp only [Gh.setSt]
    split
    · rename_i e; subst e; exact g3.symm
    · rfl
  have hst' : ∀ i, i ≠ id' → (G.setSt id' (.obj b) b (some 0)).st i = G.st i := fun i hi => by simp only [Gh.setSt]; rw [if_neg hi]
  have hstid : (G.setSt id' (.obj b) b (some 0)).st id' = .obj b := by simp [Gh.setSt]
  have x : GExt G w (G.setSt id' (.obj b) b (some 0)) w := {
    size := Nat.le_refl _
    shape := fun _ _ => rfl
    imm := fun k hk hf => ⟨by rw [hfr]; exact hf, rfl⟩
    own := fun k q hk hf => ⟨fun n' hn' => by rw [hfr, hf] at hn'; cases hn'; exact Nat.le_refl _, fun _ _ => rfl⟩
    obj := fun i q hi => by rw [hst' i (fun e => by subst e; rw [hid] at hi; cases hi)]; exact hi
    dead := fun i hi => by rw [hst' i (fun e => by subst e; rw [hid] at hi; cases hi)]; exact hi
    tok := fun i q k s hi => .inr ⟨q, k, s, by rw [hst' i (fun e => by subst e; rw [hid] at hi; cases hi)]; exact hi, Nat.le_refl _, fun _ => ⟨rfl, rfl⟩⟩ }
  have hold : ∀ i o, ((H.del id).upd id' (.cells cs o)) i ≠ none → i ≠ id' → H i ≠ none ∧ i ≠ id := fun i o hi he => by
    rw [Hp.upd_ne _ _ he] at hi
    by_cases e : i = id
    · subst e; rw [Hp.del_same] at hi; exact absurd rfl hi
    · rw [Hp.del_ne _ e] at hi; exact ⟨hi, e⟩
  refine ⟨⟨h.below, h.le, fun k hk => by rw [hfr]; exact h.old k hk, fun k hk => by rw [hfr]; exact h.new k hk, fun i ob hi => ?_, fun i j k hi hj h1 h2 => ?_, ?_⟩, x, ⟨fun k hk hu => ⟨rfl, by rw [hfr]⟩, fun k hk hu i hi => ?_⟩⟩
  · by_cases e : i = id'
    · subst e
      rw [Hp.upd_same] at hi; cases hi
      exact ⟨b, vs, ty, ex, hstid, g2, by rw [hfr]; exact g3, g4, g5.mono x, g6⟩
    · obtain ⟨k1, k2⟩ := hold i o (by rw [hi]; simp) e
      rw [Hp.upd_ne _ _ e, Hp.del_ne _ k2] at hi
      exact (h.ob i ob hi).mono x (hst' i e) fun k hk => ⟨by rw [hfr], rfl⟩
  · by_cases e : i = id'
    · subst e
      by_cases e' : j = i
      · exact e'.symm
      · obtain ⟨k1, k2⟩ := hold j o hj e'
        rw [hstid] at h1; cases h1
        rw [hst' j e'] at h2
        exact absurd (h.apart j id b k1 (by rw [hH]; simp) h2 (by rw [hst]; rfl)) k2
    · obtain ⟨k1, k2⟩ := hold i o hi e
      rw [hst' i e] at h1
      by_cases e' : j = id'
      · subst e'
        rw [hstid] at h2; cases h2
        exact absurd (h.apart i id b k1 (by rw [hH]; simp) h1 (by rw [hst]; rfl)) k2
      · obtain ⟨q1, q2⟩ := hold j o hj e'
        rw [hst' j e'] at h2
        exact h.apart i j k k1 q1 h1 h2
  · obtain ⟨q, hq⟩ := h.fresh
    refine ⟨max q (id' + 1), fun i hi => ?_⟩
    rw [hst' i (by omega)]
    exact hq i (by omega)
  · by_cases e : i = id'
    · subst e
      rw [hstid]
      intro hh
      cases hh
      exact hu id (by rw [hH]; simp) (by rw [hst]; rfl)
    · obtain ⟨k1, k2⟩ := hold i o hi e
      rw [hst' i e]
      exact hu i k1

theorem setRow_set (w : World) (b : Nat) (cur cs : Array Value) (ty : TypeId) (h : w.heap[b]? = some (.cells cur ty (0, 0))) : (w.setRow b cs).heap = w.heap.setIfInBounds b (.cells cs ty (0, 0)) := by
  apply Array.ext_getElem?
  intro k
  have hlt : b < w.heap.size := (Array.getElem?_eq_some_iff.1 h).1
  rw [Array.getElem?_setIfInBounds]
  by_cases e : b = k
  · subst e
    rw [setRow_heap w b cur cs ty (0, 0) h]
    simp [hlt]
  · rw [if_neg e]
    exact setRow_other w b k cs (by omega)

/-- An append onto an empty row: a new row that may be written. -/
theorem runs_app_new {t tx e ty : TypeId} {i : TypeInfo} {z : Value} {sz bytes : Nat} {tk : Tok} {rows2 : List (List AVal)} {p q : Value} {vs2 : List Value} (hw : Wr base w0 H G w) (ht : P.underlying t = some (.slice e)) (hi : P.info? e = some i)
    (hz : i.zero = some z) (hsz : i.size = sz) (hby : i.bytes = bytes) (hzs : z.cells.size = sz) (hp : Rep G w (.sl [] tk) p) (htk : tk = .full ∨ tk = .nil) (hs : SrcA P i.size tx q rows2.length vs2 w) (hr2 : Reps G w rows2.flatten vs2)
    (hne : rows2 ≠ []) (hb : rows2.length * bytes ≤ 140737488355328) (hb0 : 0 < bytes) :
    ∃ id, H id = none ∧ ∃ u w' G', (Builtin.append_ #[t, tx] ty #[p, q]).run P w = .ok u w' ∧ Rep G' w' (.slm id rows2.length sz) u ∧ Wr base w0 (H.upd id (.cells rows2.flatten (some e))) G' w' ∧ GExt G w G' w' ∧ Fr H G w (H.upd id (.cells rows2.flatten (some e))) G' w' := by
  obtain ⟨id, hun, hH, _⟩ := fresh_id hw
  have hm0 : 0 < rows2.length := List.length_pos_iff.2 hne
  have hlenb : rows2.length ≤ 140737488355328 := Nat.le_trans (Nat.le_mul_of_pos_right _ hb0) hb
  have hl2 : vs2.length = rows2.length * sz := by rw [hs.newsLen, hsz]
  obtain ⟨a0, rfl⟩ : ∃ a0, p = .slice a0 0 0 := by
    rcases hp.sl_inv with ⟨_, hv, _⟩ | ⟨b, off, cap, sz', vs, hv, _, _, _, _, _, hk⟩ | ⟨_, a0, cap0, hv, hno⟩
    · exact ⟨none, hv⟩
    · rcases htk with rfl | rfl
      · have : cap = 0 := hk
        subst this
        exact ⟨_, hv⟩
      · exact hk.elim
    · rcases htk with rfl | rfl
      · rcases hno with hno | ⟨_, hno⟩
        · cases hno
        · subst hno; exact ⟨_, hv⟩
      · rcases hno with hno | ⟨hno, _⟩ <;> cases hno
  have hrun : (Builtin.append_ #[t, tx] ty #[.slice a0 0 0, q]).run P w = .ok (.slice (some ⟨w.heap.size, 0, none⟩) (0 + rows2.length) (grownCap w (0 + rows2.length) 0 e))
      (w.drew.alloc (.cells (([] : List Value).toArray ++ vs2.toArray ++ Builtin.zeroCells z.cells (grownCap w (0 + rows2.length) 0 e - (0 + rows2.length))) e)) := by
    refine append_grow (P := P) t tx ty e i z ht hi hz a0 0 0 [] ?_ q rows2.length vs2 hs (by omega) (by omega) (by rw [hby]; exact growslice_fits (by omega) (by simpa using hb))
    cases a0 with
    | none => exact run_firstCells_none (P := P) w.drew i.size 0 0 0
    | some a => exact run_firstCells_some (P := P) w.drew i.size 0 a 0 0 [] (by simp) (fun j v hv => by simp at hv)
  simp only [Nat.zero_add] at hrun
  obtain ⟨cap', hcap'⟩ : ∃ c, c = grownCap w rows2.length 0 e := ⟨_, rfl⟩
  have hge : rows2.length ≤ cap' := by rw [hcap']; exact grownCap_ge w _ _ e
  rw [← hcap'] at hrun
  obtain ⟨cs, hcs⟩ : ∃ cs, cs = (vs2 ++ (Builtin.zeroCells z.cells (cap' - rows2.length)).toList) := ⟨_, rfl⟩
  have hcs' : ([] : List Value).toArray ++ vs2.toArray ++ Builtin.zeroCells z.cells (cap' - rows2.length) = cs.toArray := by
    rw [hcs]; apply Array.ext'; simp
  rw [hcs'] at hrun
  have hcss : cs.length = cap' * sz := by
    rw [hcs]
    simp only [List.length_append, Array.length_toList, size_zeroCells, hzs, hl2, ← Nat.add_mul]
    congr 1; omega
  have hwd := hw.drew
  refine ⟨id, hH, ?_⟩
  obtain ⟨k1, k2⟩ := hwd.1.newOb hun hH (.cells cs.toArray e) (.obj w.drew.heap.size) 0 (.cells rows2.flatten (some e)) rfl (.inl rfl)
    (fun G' w' x g1 g2 g3 => ⟨w.drew.heap.size, vs2, e, _, g1, hw.le, g2, by rw [g3, hcs], hr2.mono (hwd.2.trans x), fun _ he => by cases he; rfl⟩)
  have hx := hwd.2.trans k2
  refine ⟨_, _, _, hrun, ?_, k1, hx, Fr.drew.trans (Nat.le_refl _) (Fr.newOb rfl)⟩
  have hst : (G.setSt id (.obj w.drew.heap.size) w.drew.heap.size (some 0)).st id = .obj w.drew.heap.size := by simp [Gh.setSt]
  have hwe : w.heap.size = w.drew.heap.size := rfl
  have hshp : World.shape? (w.drew.alloc (.cells cs.toArray e)) w.drew.heap.size = some (e, cs.length) := by
    simp only [World.shape?, heap_push_eq, List.size_toArray]
  exact .slm (b := w.drew.heap.size) hst hshp hge (by omega)

/-- An append onto a row that may be written. -/
theorem runs_app_slm {t tx e ty : TypeId} {i : TypeInfo} {z : Value} {sz bytes id n : Nat} {cs : List AVal} {oty : Option TypeId} {rows2 : List (List AVal)} {p q : Value} {vs2 : List Value} (hw : Wr base w0 H G w) (ht : P.underlying t = some (.slice e)) (hi : P.info? e = some i)
    (hz : i.zero = some z) (hsz : i.size = sz) (hby : i.bytes = bytes) (hzs : z.cells.size = sz) (hp : Rep G w (.slm id n sz) p) (hH : H id = some (.cells cs oty)) (hn : n * sz ≤ cs.length) (hs : SrcA P i.size tx q rows2.length vs2 w) (hr2 : Reps G w rows2.flatten vs2)
    (hne : rows2 ≠ []) (hone : rows2.flatten.all AVal.one = true) (hb : (n + rows2.length) * bytes ≤ 140737488355328) (hb0 : 0 < bytes) :
    ∃ id', H id' = none ∧ ∃ u w' G', (Builtin.append_ #[t, tx] ty #[p, q]).run P w = .ok u w' ∧ Rep G' w' (.slm id' (n + rows2.length) sz) u ∧
      Wr base w0 ((H.del id).upd id' (.cells (cs.take (n * sz) ++ rows2.flatten) none)) G' w' ∧ GExt G w G' w' ∧ Fr H G w ((H.del id).upd id' (.cells (cs.take (n * sz) ++ rows2.flatten) none)) G' w' := by
  have hl2 : vs2.length = rows2.length * sz := by rw [hs.newsLen, hsz]
  have hm0 : 0 < rows2.length := List.length_pos_iff.2 hne
  have hlenb : n + rows2.length ≤ 140737488355328 := Nat.le_trans (Nat.le_mul_of_pos_right _ hb0) hb
  obtain ⟨b, cap, e1, N, rfl, hst, hsh, hc, hN⟩ := hp.slm_inv
  obtain ⟨b', vs0, ty', ex0, g1, g2, g3, g4, g50, g6⟩ := hw.ob id _ hH
  rw [hst] at g1; cases g1
  obtain ⟨vs, hvs⟩ : ∃ vs, vs = vs0 ++ ex0 := ⟨_, rfl⟩
  rw [← hvs] at g4
  have hvl : cs.length ≤ vs.length := by rw [hvs, List.length_append, g50.1]; omega
  have g5 : Reps G w (cs.take (n * sz)) (vs.take (n * sz)) := by
    rw [hvs, List.take_append_of_le_length (by rw [← g50.1]; exact hn)]
    exact g50.take _
  have hNv : N = vs.length := by simp only [World.shape?, g4, Option.some.injEq, Prod.mk.injEq] at hsh; rw [← hsh.2]; simp
  subst hNv
  have hnews1 := hr2.one hone
  obtain ⟨id', hun, hH', _⟩ := fresh_id hw
  have hne' : id' ≠ id := fun e => by subst e; rw [hH] at hH'; cases hH'
  by_cases hroom : n + rows2.length ≤ cap
  · -- in place
    have hmul : (n + rows2.length) * sz ≤ vs.length := Nat.le_trans (Nat.mul_le_mul_right _ hroom) hN
    have hfit : n * i.size + vs2.length ≤ (List.toArray vs).size := by rw [hl2, hsz, ← Nat.add_mul]; simpa using hmul
    have hrun := append_room (P := P) t tx ty e ty' i ht hi b n cap (List.toArray vs) g4 q rows2.length vs2 hs hnews1 hroom hfit
    obtain ⟨ds, hds⟩ : ∃ ds, ds = vs.take (n * sz) ++ vs2 ++ vs.drop (n * sz + vs2.length) := ⟨_, rfl⟩
    have hds' : ((List.toArray vs).toList.take (n * i.size) ++ vs2 ++ (List.toArray vs).toList.drop (n * i.size + vs2.length)).toArray = ds.toArray := by rw [hds, hsz]
    rw [hds'] at hrun
    have hdl : ds.length = vs.length := by
      rw [hds]; simp only [List.length_append, List.length_take, List.length_drop]; rw [hsz] at hfit; simp at hfit; omega
    refine ⟨id', hH', ?_⟩
    have hwb : (w.setRow b ds.toArray).heap[b]? = some (.cells ds.toArray ty' (0, 0)) := setRow_heap w b _ ds.toArray ty' (0, 0) g4
    obtain ⟨k1, k2⟩ := hw.setOb (ob' := .cells (cs.take (n * sz) ++ rows2.flatten) none) hH hst g3 g2 g4 (o' := .cells ds.toArray ty' (0, 0)) (w.setRow b ds.toArray)
      (setRow_set w b _ _ ty' g4) rfl rfl rfl ⟨rfl, by simp [hdl]⟩
      (fun w' x hh => ⟨b, vs.take (n * sz) ++ vs2, ty', _, hst, g2, g3, by rw [hh, hds], (g5.append hr2).mono x, fun _ he => by cases he⟩)
    have kf : Fr H G w (H.upd id (.cells (cs.take (n * sz) ++ rows2.flatten) none)) G (w.setRow b ds.toArray) := Fr.setOb hH (by rw [hst]; rfl) (o' := .cells ds.toArray ty' (0, 0)) (setRow_set w b _ _ ty' g4)
    have hsz' : w.heap.size ≤ (w.setRow b ds.toArray).heap.size := k2.size
    obtain ⟨r1, r2, r3⟩ := k1.rename rfl (Hp.upd_same _ _ _) hst hun (by rw [Hp.upd_ne _ _ hne']; exact hH')
    have hdel : (H.upd id (.cells (cs.take (n * sz) ++ rows2.flatten) none)).del id = H.del id := by
      funext j
      by_cases e : j = id
      · subst e; simp
      · rw [Hp.del_ne _ e, Hp.del_ne _ e, Hp.upd_ne _ _ e]
    rw [hdel] at r1 r3
    refine ⟨_, _, _, hrun, ?_, r1, k2.trans r2, kf.trans hsz' r3⟩
    have hshp : World.shape? (w.setRow b ds.toArray) b = some (ty', ds.length) := by
      simp only [World.shape?, hwb, List.size_toArray]
    exact .slm (b := b) (by simp [Gh.setSt]) hshp hroom (by omega)
  · -- a new row
    have holds : (Builtin.firstCells i.size n (.slice (some ⟨b, 0, none⟩) n cap)).run P w.drew = .ok (vs.take (n * sz)).toArray w.drew := by
      refine run_firstCells_some (P := P) w.drew i.size n ⟨b, 0, none⟩ n cap (vs.take (n * sz)) (by rw [List.length_take, hsz]; omega) (fun j v hv => ?_)
      rw [Addr.add_lit]
      have h1 : vs[j]? = some v := by rw [List.getElem?_take] at hv; split at hv; exact hv; cases hv
      have g4' : w.drew.heap[b]? = some (.cells (List.toArray vs) ty' (0, 0)) := g4
      simp only [World.cell?, g4', Nat.zero_add]
      simpa using h1
    have hrun := append_grow (P := P) t tx ty e i z ht hi hz (some ⟨b, 0, none⟩) n cap (vs.take (n * sz)) holds q rows2.length vs2 hs (by omega) (by omega) (by rw [hby]; exact growslice_fits (by omega) hb)
    obtain ⟨cap', hcap'⟩ : ∃ c, c = grownCap w (n + rows2.length) cap e := ⟨_, rfl⟩
    have hge : n + rows2.length ≤ cap' := by rw [hcap']; exact grownCap_ge w _ _ e
    rw [← hcap'] at hrun
    obtain ⟨ds, hds⟩ : ∃ ds, ds = vs.take (n * sz) ++ vs2 ++ (Builtin.zeroCells z.cells (cap' - (n + rows2.length))).toList := ⟨_, rfl⟩
    have hds' : (vs.take (n * sz)).toArray ++ vs2.toArray ++ Builtin.zeroCells z.cells (cap' - (n + rows2.length)) = ds.toArray := by
      rw [hds]; apply Array.ext'; simp
    rw [hds'] at hrun
    have htl : (vs.take (n * sz)).length = n * sz := by rw [List.length_take]; omega
    have hdl : ds.length = cap' * sz := by
      rw [hds]
      simp only [List.length_append, htl, Array.length_toList, size_zeroCells, hzs, hl2, ← Nat.add_mul]
      congr 1; omega
    refine ⟨id', hH', ?_⟩
    have hwd := hw.drew
    obtain ⟨k1, k2⟩ := hwd.1.newOb hun hH' (.cells ds.toArray e) (.obj w.drew.heap.size) 0 (.cells (cs.take (n * sz) ++ rows2.flatten) none) rfl (.inl rfl)
      (fun G' w' x h1 h2 h3 => ⟨w.drew.heap.size, vs.take (n * sz) ++ vs2, e, _, h1, hw.le, h2, by rw [h3, hds], (g5.append hr2).mono (hwd.2.trans x), fun _ he => by cases he⟩)
    have hx := hwd.2.trans k2
    have hle : ((H.del id).upd id' (.cells (cs.take (n * sz) ++ rows2.flatten) none)).le (H.upd id' (.cells (cs.take (n * sz) ++ rows2.flatten) none)) := fun j o hj => by
      by_cases e : j = id'
      · subst e; rw [Hp.upd_same] at hj ⊢; exact hj
      · rw [Hp.upd_ne _ _ e] at hj ⊢
        by_cases e' : j = id
        · subst e'; rw [Hp.del_same] at hj; cases hj
        · rwa [Hp.del_ne _ e'] at hj
    refine ⟨_, _, _, hrun, ?_, k1.le' hle, hx, (Fr.drew.trans (Nat.le_refl _) (Fr.newOb rfl)).le hle⟩
    have hshp : World.shape? (w.drew.alloc (.cells ds.toArray e)) w.drew.heap.size = some (e, ds.length) := by
      simp only [World.shape?, heap_push_eq, List.size_toArray]
    exact .slm (b := w.drew.heap.size) (by simp [Gh.setSt]) hshp hge (by omega)

end
end Go.Eng

/- Operations that write; a region's operations one after the other. -/
set_option linter.unusedVariables false
set_option linter.unusedSimpArgs false
namespace Go.Eng
open Go.RowKit (Below)

structure AOper where
  dst : Option Nat
  op : AOp
  gd : Option (Nat × Bool)

def setTm (tm : List AVal) (d : Option Nat) (v : AVal) : List AVal :=
  match d with
  | some d => tm.set d v
  | none => tm
def getTm (tm : List AVal) (d : Option Nat) : AVal :=
  match d with
  | some d => tm.getD d .unk
  | none => .unk
def S.put (s : S) (d : Option Nat) (v : AVal) : S := { s with tm := setTm s.tm d v }
def gdA (gd : Option (Nat × Bool)) (tm : List AVal) : Option Bool :=
  match gd with
  | none => some true
  | some (t, b) => match tm.getD t .unk with
    | .bool c => some (c == b)
    | .tup [] => some false
    | _ => none

def storeA (H : Hp) (n : Nat) (p v : AVal) : Option Hp :=
  match p with
  | .ref i o => match H i with
    | some (.cells cs ty) => if v.known = true ∧ v.cells.length = n ∧ v.cells.all AVal.one = true ∧ o + n ≤ cs.length then some (H.upd i (.cells (cs.take o ++ v.cells ++ cs.drop (o + n)) ty)) else none
    | _ => none
  | _ => none

/-- The map with a value at a key. -/
def setA (kk : KK) (k v : AVal) : List (AVal × AVal) → Option (List (AVal × AVal))
  | [] => some [(k, v)]
  | (k', v') :: rest => match eqCell kk k k' with
    | some true => some ((k, v) :: rest)
    | some false => (setA kk k v rest).map ((k', v') :: ·)
    | none => none

def msetA (H : Hp) (kk : KK) (m k v : AVal) : Option Hp :=
  match m with
  | .map id => match H id with
    | some (.map es) => (setA kk k v es).map fun es' => H.upd id (.map es')
    | _ => none
  | _ => none

/-- What comes of an operation: a value, the memory, the deferred calls. -/
abbrev Res := AVal → Hp → List ADef → Prop

def callPost (ds : List ADef) (R E : Res) : ARet → Hp → Prop
  | .ret v, H' => R v H' ds
  | .panic v, H' => E v H' ds

/-- A string's bytes, as rows of one cell. -/
def byteRows (l : List UInt8) : List (List AVal) := l.map fun c => [.int .u8 c.toNat]

def app0 (sz bytes : Nat) (e : TypeId) (x y : AVal) (H : Hp) (ds : List ADef) (R : Res) : Prop :=
  match x, y with
  | .sl rows t, .sl rows2 _ =>
    if rows2.isEmpty = true then R (.sl rows t) H ds
    else (∀ r ∈ rows, r.length = sz) ∧ (∀ r ∈ rows2, r.length = sz) ∧ (rows.length + rows2.length) * bytes ≤ 140737488355328 ∧
      match t with
      | .full => ∀ id, H id = none → R (.sl (rows ++ rows2) (.own id sz)) (H.upd id (.tok (rows.length + rows2.length) sz (some e))) ds
      | .nil => ∀ id, H id = none → R (.sl (rows ++ rows2) (.own id sz)) (H.upd id (.tok (rows.length + rows2.length) sz (some e))) ds
      | .own id sz' => sz' = sz ∧ rows2.flatten.all AVal.one = true ∧ ∃ o, H id = some (.tok rows.length sz o) ∧ R (.sl (rows ++ rows2) (.own id sz)) (H.upd id (.tok (rows.length + rows2.length) sz (tkO o e))) ds
      | _ => False
  | _, _ => False

/-- An append to a row that may be written; a new one. -/
def appM (sz bytes : Nat) (e : TypeId) (x y : AVal) (H : Hp) (ds : List ADef) (R : Res) : Prop :=
  match x, y with
  | .slm id n sz', .sl rows2 _ => rows2 ≠ [] ∧ sz' = sz ∧ (∀ r ∈ rows2, r.length = sz) ∧ (n + rows2.length) * bytes ≤ 140737488355328 ∧ rows2.flatten.all AVal.one = true ∧
      ∃ cs o, H id = some (.cells cs o) ∧ n * sz ≤ cs.length ∧ ∀ id', H id' = none → R (.slm id' (n + rows2.length) sz) ((H.del id).upd id' (.cells (cs.take (n * sz) ++ rows2.flatten) none)) ds
  | .sl [] t, .sl rows2 _ => rows2 ≠ [] ∧ (t = .full ∨ t = .nil) ∧ (∀ r ∈ rows2, r.length = sz) ∧ rows2.length * bytes ≤ 140737488355328 ∧
      ∀ id, H id = none → R (.slm id rows2.length sz) (H.upd id (.cells rows2.flatten (some e))) ds
  | _, _ => False

def appP (sz bytes : Nat) (e : TypeId) (x y : AVal) (H : Hp) (ds : List ADef) (R : Res) : Prop := app0 sz bytes e x y H ds R ∨ appM sz bytes e x y H ds R

def appsP (bytes : Nat) (e : TypeId) (x y : AVal) (H : Hp) (ds : List ADef) (R : Res) : Prop :=
  match y with
  | .str l => appP 1 bytes e x (.sl (byteRows l) .no) H ds R
  | _ => False

def opR (O : Cfg) (P : Program) (o : AOp) (tm : List AVal) (H : Hp) (ds : List ADef) (R E : Res) : Prop :=
  match o with
  | .alloc z => ∀ id, H id = none → R (.ref id 0) (H.upd id (.cells z)) ds
  | .allocT t z => ∀ id, H id = none → R (.ref id 0) (H.upd id (.cells z (some t))) ds
  | .box x => (ev tm x).known = true ∧ ∀ id, H id = none → R (.ref id 0) (H.upd id (.cells (ev tm x).cells)) ds
  | .mkmap => ∀ id, H id = none → R (.map id) (H.upd id (.map [])) ds
  | .store n x v => match storeA H n (ev tm x) (ev tm v) with
    | some H' => R (.tup []) H' ds
    | none => False
  | .mset kk m k v => match msetA H kk (ev tm m) (ev tm k) (ev tm v) with
    | some H' => R (.tup []) H' ds
    | none => False
  | .app sz bytes e x y => appP sz bytes e (ev tm x) (ev tm y) H ds R
  | .apps bytes e x y => appsP bytes e (ev tm x) (ev tm y) H ds R
  | .call f args => match ev tm f with
    | .func (.func g) fs cs => ACalls O P g (fs ++ args.map (ev tm) ++ cs) H (callPost ds R E)
    | _ => False
  | .dfr f args => match ev tm f with
    | .func fn fs cs => R (.tup []) H (⟨fn, cs, fs ++ args.map (ev tm)⟩ :: ds)
    | _ => False
  | .pnc x => match ev tm x with
    | .iface t v => E (.iface t v) H ds
    | _ => False
  | op => match rop op tm H with
    | some v => R v H ds
    | none => False

def thenK (s : S) (d : Option Nat) (K : S → Prop) : Res := fun v H' ds' => K ⟨setTm s.tm d v, H', ds'⟩
def elseQ (sp : S) (Q : Post) : Res := fun v H' ds' => Q (.panic v) ⟨sp.tm, H', ds'⟩

def plan (O : Cfg) (P : Program) (Q : Post) (sp : S) : List AOper → S → Prop
  | [], s => Q .normal s
  | o :: rest, s => match gdA o.gd s.tm with
    | some true => opR O P o.op s.tm s.hp s.ds (thenK s o.dst (plan O P Q sp rest)) (elseQ sp Q)
    | some false => plan O P Q sp rest (s.put o.dst (.tup []))
    | none => False

section
variable {O : Cfg} {P : Program} {base : Nat} {w0 : World}

theorem Reps.put {G : Gh} {w : World} {tm : List AVal} {a : Act} {v : AVal} {u : Value} (h : Reps G w tm a.tmps.toList) (hr : Rep G w v u) (d : Option Nat) : Reps G w (setTm tm d v) (a.put d u).tmps.toList := by
  cases d with
  | none => exact h
  | some d =>
    have : (a.put (some d) u).tmps.toList = a.tmps.toList.set d u := by simp [Act.put]
    rw [this]
    exact h.set hr d

/-- What is forgotten of a slot stays forgotten. -/
theorem Reps.put_unk {G : Gh} {w : World} {tm : List AVal} {a : Act} {u : Value} (h : Reps G w tm a.tmps.toList) (d : Option Nat) (hd : getTm tm d = .unk) : Reps G w tm (a.put d u).tmps.toList := by
  have e : tm = setTm tm d .unk := by
    cases d with
    | none => rfl
    | some d =>
      apply List.ext_getElem?
      intro i
      simp only [setTm, List.getElem?_set]
      split
      · rename_i hi; subst hi
        split
        · rename_i hl
          simp only [getTm] at hd
          rw [List.getD_eq_getElem?_getD, List.getElem?_eq_getElem hl] at hd
          rw [List.getElem?_eq_getElem hl]
          simpa using hd
        · rename_i hl; rw [List.getElem?_eq_none (by omega)]
      · rfl
  rw [e]
  exact h.put (.unk u) d

theorem put_defers (a : Act) (d : Option Nat) (u : Value) : (a.put d u).defers = a.defers := by cases d <;> rfl

def StepK (base : Nat) (w0 : World) (H : Hp) (G : Gh) (w : World) (R : Res) (d : Option Nat) (a : Act) : Act → World → Prop :=
  fun a' w' => ∃ v u H' ds' df G', R v H' ds' ∧ a' = ({ a with defers := df } : Act).put d u ∧ Rep G' w' v u ∧ Wr base w0 H' G' w' ∧ GExt G w G' w' ∧ Fr H G w H' G' w' ∧ DsRep G' w' ds' df

def StepE (O : Cfg) (base : Nat) (w0 : World) (H : Hp) (G : Gh) (w : World) (E : Res) (a : Act) : Exit → Act → World → Prop
  | .outgrown, _, _ => O.O
  | .panic chain, a', w' => a' = a ∧ ∃ v u H' ds' G', chain = [{ v := u, recovered := false }] ∧ Rep G' w' v u ∧ E v H' ds' ∧ Wr base w0 H' G' w' ∧ GExt G w G' w' ∧ Fr H G w H' G' w' ∧ DsRep G' w' ds' a.defers
  | _, _, _ => False

/-- One operation's step in the machine. -/
def StepOk (O : Cfg) (P : Program) (base : Nat) (w0 : World) (H : Hp) (G : Gh) (w : World) (R E : Res) (o : Oper) (a : Act) : Prop :=
  o.wp P a w (StepK base w0 H G w R o.dst a) (StepE O base w0 H G w E a)

theorem StepOk.value {H H' : Hp} {G : Gh} {w : World} {R E : Res} {o : Oper} {a : Act} {u : Value} {w' : World} {ds : List ADef} {G' : Gh} {v : AVal} (hrun : (execOp a.eval o).run P w = .ok (.value u) w')
    (hK : R v H' ds) (hw : Wr base w0 H' G' w') (hx : GExt G w G' w') (hf : Fr H G w H' G' w') (hr : Rep G' w' v u) (hds : DsRep G w ds a.defers) : StepOk O P base w0 H G w R E o a := by
  unfold StepOk Oper.wp
  rw [hrun, Oper.upon_value]
  exact ⟨v, u, H', ds, a.defers, G', hK, rfl, hr, hw, hx, hf, hds.mono hx⟩

theorem StepOk.skip {H H' : Hp} {G : Gh} {w : World} {R E : Res} {o : Oper} {a : Act} {w' : World} {ds : List ADef} {G' : Gh} (hrun : (execOp a.eval o).run P w = .ok .skip w')
    (hK : R (.tup []) H' ds) (hw : Wr base w0 H' G' w') (hx : GExt G w G' w') (hf : Fr H G w H' G' w') (hds : DsRep G w ds a.defers) : StepOk O P base w0 H G w R E o a := by
  unfold StepOk Oper.wp
  rw [hrun, Oper.upon_skip]
  exact ⟨.tup [], undef, H', ds, a.defers, G', hK, rfl, Rep.tup' Reps.nil, hw, hx, hf, hds.mono hx⟩

theorem setCells_heap (w : World) (b o : Nat) (vs : List Value) (c : Array Value) (ty : TypeId) (h : w.heap[b]? = some (.cells c ty (0, 0))) (hfit : o + vs.length ≤ c.size) (h1 : ∀ u ∈ vs, u.oneCell' = true) :
    (storeCells ⟨b, o, none⟩ vs).run P w = .ok () (w.setRow b (c.toList.take o ++ vs ++ c.toList.drop (o + vs.length)).toArray) := by
  have := run_storeCells_at P b o ty vs 0 c w h (by simpa using hfit) h1
  simpa using this

theorem setRow_heap' (w : World) (g : Nat) (cur cs : Array Value) (t : TypeId) (fr : Nat × Nat) (hg : w.heap[g]? = some (.cells cur t fr)) : (w.setRow g cs).heap = w.heap.setIfInBounds g (.cells cs t fr) := by
  obtain ⟨hb, he⟩ := Array.getElem?_eq_some_iff.1 hg
  apply Array.ext
  · simp [World.setRow]
  · intro i h1 h2
    simp only [World.setRow, Array.getElem_modify]
    by_cases e : g = i
    · subst e; simp [he]
    · rw [Array.getElem_setIfInBounds, if_neg e, if_neg e]

theorem store_ok {H H' : Hp} {G : Gh} {w : World} {t : TypeId} {n : Nat} {p v : AVal} {up uv : Value} (hw : Wr base w0 H G w) (hn : sizeOf? P t = some n) (hp : Rep G w p up) (hv : Rep G w v uv) (h : storeA H n p v = some H') :
    ∃ w', (Instr.storeAt t up uv).run P w = .ok () w' ∧ Wr base w0 H' G w' ∧ GExt G w G w' ∧ Fr H G w H' G w' := by
  unfold storeA at h
  split at h
  · rename_i i o
    split at h
    · rename_i cs tyo hH
      split at h
      · rename_i hc
        obtain ⟨c1, c2, c3, c4⟩ := hc
        cases h
        obtain ⟨b, rfl, hst⟩ := hp.ref_inv
        obtain ⟨b', vs0, ty, ex, g1, g2, g3, g4, g5, g6⟩ := hw.ob i _ hH
        rw [hst] at g1; cases g1
        obtain ⟨vs, hvs⟩ : ∃ vs, vs = vs0 ++ ex := ⟨_, rfl⟩
        rw [← hvs] at g4
        have hvl : cs.length ≤ vs.length := by rw [hvs, List.length_append, g5.1]; omega
        have hcells := hv.cells c1
        have hlen : uv.cells.toList.length = n := by rw [← hcells.1]; exact c2
        have hlen' : uv.cells.size = n := by simpa using hlen
        have hfit : o + uv.cells.toList.length ≤ vs.toArray.size := by simp only [List.size_toArray]; omega
        have hrun := setCells_heap (P := P) w b o uv.cells.toList vs.toArray ty g4 hfit (hcells.one c3)
        rw [hlen] at hrun
        have hh := setRow_heap' w b vs.toArray (vs.take o ++ uv.cells.toList ++ vs.drop (o + n)).toArray ty (0, 0) g4
        obtain ⟨k1, k2⟩ := hw.setOb (ob' := .cells (cs.take o ++ v.cells ++ cs.drop (o + n)) tyo) hH hst g3 g2 g4 (w.setRow b (vs.take o ++ uv.cells.toList ++ vs.drop (o + n)).toArray) hh rfl rfl rfl
          (by
            refine ⟨rfl, ?_⟩
            simp only [List.size_toArray, List.length_append, List.length_take, List.length_drop, hlen]
            omega)
          (fun w' hx hb => ⟨b, _, ty, ex, hst, g2, g3, by
            rw [hb, hvs, List.take_append_of_le_length (by rw [← g5.1]; omega), List.drop_append_of_le_length (by rw [← g5.1]; omega)]
            simp only [List.append_assoc], (((g5.take o).append hcells).append (g5.drop (o + n))).mono hx, g6⟩)
        refine ⟨_, ?_, k1, k2, Fr.setOb hH (by rw [hst]; rfl) hh⟩
        simp only [Instr.storeAt, Instr.sureAddr, Sem.run_bind, Sem.run_pure, Result.andThen_ok, storeVar, run_sizeOf? hn]
        rw [Sem.run_ite, if_neg (by simpa using hlen')]
        exact hrun
      · cases h
    · cases h
  · cases h

end
end Go.Eng

/- Maps that are written; the theorem about one operation. -/
set_option linter.unusedVariables false
set_option linter.unusedSimpArgs false
namespace Go.Eng
open Go.RowKit (Below)

section
variable {O : Cfg} {P : Program} {base : Nat} {w0 : World}

theorem eqCell_same {G : Gh} {w : World} {kk : KK} {x y : AVal} {u v : Value} (hx : Rep G w x u) (hy : Rep G w y v) (h : eqCell kk x y = some true) : v = u ∧ Instr.sameBits 10000 u u = true := by
  unfold eqCell at h
  split at h
  · split at h
    · rename_i hk
      simp only [Option.some.injEq, beq_iff_eq] at h
      subst hk; subst h
      rw [hx.int_inv, hy.int_inv]
      exact ⟨rfl, by unfold Instr.sameBits; simp⟩
    · cases h
  · simp only [Option.some.injEq, beq_iff_eq] at h
    subst h
    rw [hx.str_inv, hy.str_inv]
    refine ⟨rfl, ?_⟩
    unfold Instr.sameBits
    rename_i s
    change (s.toArray == s.toArray) = true
    simp
  · simp only [Option.some.injEq, beq_iff_eq] at h
    subst h
    rw [hx.bool_inv, hy.bool_inv]
    exact ⟨rfl, by unfold Instr.sameBits; simp⟩
  · cases h

theorem findNow_set {G : Gh} {w : World} {kk : KK} {d : TypeDesc} (hk : kkOf (some d) = some kk) {x v : AVal} {u : Value} (hx : Rep G w x u) : ∀ (es : List (AVal × AVal)) (arr : List MapEntry) (j : Nat) (es' : List (AVal × AVal)), es.length = arr.length →
    (∀ (i : Nat) p e, es[i]? = some p → arr[i]? = some e → Rep G w p.1 e.key ∧ Rep G w p.2 e.val) → setA kk x v es = some es' →
    (Instr.findNow d u arr j = some none ∧ es' = es ++ [(x, v)]) ∨
    ∃ (i : Nat) (p : AVal × AVal) (e : MapEntry), Instr.findNow d u arr j = some (some (i + j, e.val)) ∧ es[i]? = some p ∧ arr[i]? = some e ∧ eqCell kk x p.1 = some true ∧ es' = es.set i (x, v) := by
  intro es
  induction es with
  | nil =>
    intro arr j es' hl _ h
    simp only [setA, Option.some.injEq] at h
    have : arr = [] := List.eq_nil_of_length_eq_zero hl.symm
    subst this
    exact .inl ⟨rfl, h.symm⟩
  | cons p es ih =>
    intro arr j es' hl hr h
    cases arr with
    | nil => simp at hl
    | cons e arr =>
      obtain ⟨h1, h2⟩ := hr 0 p e rfl rfl
      obtain ⟨p1, p2⟩ := p
      simp only [setA] at h
      cases hq : eqCell kk x p1 with
      | none => simp [hq] at h
      | some b =>
        have hs := eqCell_now hk hx h1 hq
        simp only [hq] at h
        cases b with
        | true =>
          cases h
          exact .inr ⟨0, (p1, p2), e, by simp [Instr.findNow, hs], rfl, rfl, hq, rfl⟩
        | false =>
          cases hse : setA kk x v es with
          | none => simp [hse] at h
          | some es2 =>
            simp only [hse, Option.map_some, Option.some.injEq] at h
            subst h
            rcases ih arr (j + 1) es2 (by simpa using hl) (fun i q f hq hf => hr (i + 1) q f (by simpa using hq) (by simpa using hf)) hse with ⟨h3, h4⟩ | ⟨i, q, f, h3, h4, h5, h6, h7⟩
            · exact .inl ⟨by simp only [Instr.findNow, hs]; exact h3, by rw [h4]; rfl⟩
            · refine .inr ⟨i + 1, q, f, ?_, by simpa using h4, by simpa using h5, h6, by rw [h7]; rfl⟩
              simp only [Instr.findNow, hs]
              rw [h3]
              congr 3
              omega

theorem mset_ok {H H' : Hp} {G : Gh} {w : World} {t kt e : TypeId} {d : TypeDesc} {kk : KK} {m k v : AVal} {um uk uv : Value} (hw : Wr base w0 H G w) (ht : P.underlying t = some (.map kt e)) (hd : P.underlying kt = some d) (hk : kkOf (some d) = some kk)
    (hm : Rep G w m um) (hkr : Rep G w k uk) (hv : Rep G w v uv) (h : msetA H kk m k v = some H') :
    ∃ w', (Instr.mapUpdate t um uk uv).run P w = .ok () w' ∧ Wr base w0 H' G w' ∧ GExt G w G w' ∧ Fr H G w H' G w' := by
  have hck : ∀ b, (Instr.checkKey b 10000 kt uk).run P w = .ok () w := fun b => run_checkKey hd hk b 9999 uk w
  unfold msetA at h
  split at h
  · rename_i id
    split at h
    · rename_i es hH
      cases hse : setA kk k v es with
      | none => simp [hse] at h
      | some es' =>
        simp only [hse, Option.map_some, Option.some.injEq] at h
        subst h
        obtain ⟨b, rfl, hst⟩ := hm.map_inv
        obtain ⟨b', arr, clock, g1, g2, g3, g4, g5⟩ := hw.ob id _ hH
        rw [hst] at g1; cases g1
        have hlt : b < w.heap.size := (Array.getElem?_eq_some_iff.1 g4).1
        have hgo : (getObj b).run P w = .ok (.map arr clock) w := by simp [getObj, Sem.run, g4]
        have hso : ∀ o, (setObj b o).run P w = .ok () { w with heap := w.heap.setIfInBounds b o } := fun o => by simp [setObj, Sem.run, g4]
        rcases findNow_set hk hkr es arr.toList 0 es' (by simpa using g5.1) (fun i p e hp he => by
            obtain ⟨q1, q2, _⟩ := g5.2.1 i p e hp (by simpa using he)
            exact ⟨q1, q2⟩) hse with ⟨h3, rfl⟩ | ⟨i, p, en, h3, h4, h5, h6, rfl⟩
        · -- a new key
          obtain ⟨k1, k2⟩ := hw.setOb (o' := .map (arr.push { key := uk, val := uv, born := clock }) (clock + 1)) (ob' := .map (es ++ [(k, v)])) hH hst g3 g2 g4 { w with heap := w.heap.setIfInBounds b (.map (arr.push { key := uk, val := uv, born := clock }) (clock + 1)) } rfl rfl rfl rfl trivial
            (fun w' hx hb => ⟨b, _, _, hst, g2, g3, hb, by
              refine ⟨by simp [g5.1], fun i p e hp he => ?_, fun i j e f he hf hbn => ?_⟩
              · rcases Nat.lt_or_ge i es.length with hi | hi
                · rw [List.getElem?_append_left hi] at hp
                  rw [Array.getElem?_push, if_neg (by have := g5.1; omega)] at he
                  obtain ⟨q1, q2, q3⟩ := g5.2.1 i p e hp he
                  exact ⟨q1.mono hx, q2.mono hx, by omega⟩
                · rw [List.getElem?_append_right hi] at hp
                  have hi0 : i - es.length = 0 := by
                    have := (List.getElem?_eq_some_iff.1 hp).1
                    simp at this; omega
                  rw [hi0] at hp
                  simp only [List.getElem?_cons_zero, Option.some.injEq] at hp
                  subst hp
                  have : i = arr.size := by
                    have h9 := (Array.getElem?_eq_some_iff.1 he).1
                    simp at h9
                    have := g5.1
                    omega
                  rw [Array.getElem?_push, if_pos this] at he
                  cases he
                  exact ⟨hkr.mono hx, hv.mono hx, by simp⟩
              · have bound : ∀ (i : Nat) e, (arr.push { key := uk, val := uv, born := clock })[i]? = some e → (i < arr.size ∧ arr[i]? = some e ∧ e.born < clock) ∨ (i = arr.size ∧ e.born = clock) := fun i e he => by
                  rw [Array.getElem?_push] at he
                  split at he
                  · rename_i hi; cases he; exact .inr ⟨hi, rfl⟩
                  · have hi := (Array.getElem?_eq_some_iff.1 he).1
                    have hi' : i < es.length := by have := g5.1; omega
                    exact .inl ⟨hi, he, (g5.2.1 i _ e (List.getElem?_eq_getElem hi') he).2.2⟩
                rcases bound i e he with ⟨a1, a2, a3⟩ | ⟨a1, a2⟩ <;> rcases bound j f hf with ⟨b1, b2, b3⟩ | ⟨b1, b2⟩
                · exact g5.2.2 i j e f a2 b2 hbn
                · omega
                · omega
                · omega⟩)
          refine ⟨_, ?_, k1, k2, Fr.setOb hH (by rw [hst]; rfl) rfl⟩
          simp only [Instr.mapUpdate, Sem.run_bind, run_underlying ht, Result.andThen_ok, hgo, hck, Instr.findKey, run_underlying hd, h3, Sem.run_pure, hso]
        · -- a key that is there
          have he := g5.2.1 i p en h4 (by simpa using h5)
          obtain ⟨s1, s2⟩ := eqCell_same hkr he.1 h6
          have hai : arr[i]? = some en := by simpa using h5
          obtain ⟨k1, k2⟩ := hw.setOb (o' := .map (arr.modify i fun e => { e with key := uk, val := uv }) clock) (ob' := .map (es.set i (k, v))) hH hst g3 g2 g4 { w with heap := w.heap.setIfInBounds b (.map (arr.modify i fun e => { e with key := uk, val := uv }) clock) } rfl rfl rfl rfl trivial
            (fun w' hx hb => ⟨b, _, _, hst, g2, g3, hb, by
              have hget : ∀ (q : Nat) f, (arr.modify i fun e => { e with key := uk, val := uv })[q]? = some f → ∃ f0, arr[q]? = some f0 ∧ f.born = f0.born ∧ (q = i → f.key = uk ∧ f.val = uv) ∧ (q ≠ i → f = f0) := fun q f hf => by
                rw [Array.getElem?_modify] at hf
                split at hf
                · rename_i hq; subst hq
                  rw [hai] at hf
                  cases hf
                  exact ⟨en, hai, rfl, fun _ => ⟨rfl, rfl⟩, fun h => absurd rfl h⟩
                · rename_i hq
                  exact ⟨f, hf, rfl, fun h => absurd h.symm hq, fun _ => rfl⟩
              refine ⟨by simp [g5.1], fun q r f hr hf => ?_, fun q r f f' hf hf' hbn => ?_⟩
              · obtain ⟨f0, a1, a2, a3, a4⟩ := hget q f hf
                rw [List.getElem?_set] at hr
                split at hr
                · rename_i hq
                  split at hr
                  · cases hr
                    obtain ⟨c1, c2⟩ := a3 hq.symm
                    have hlt' : q < es.length := by have := (Array.getElem?_eq_some_iff.1 a1).1; have := g5.1; omega
                    have := (g5.2.1 q _ f0 (List.getElem?_eq_getElem hlt') a1).2.2
                    rw [c1, c2, a2]
                    exact ⟨hkr.mono hx, hv.mono hx, this⟩
                  · cases hr
                · rename_i hq
                  have := a4 (fun e => hq e.symm)
                  subst this
                  obtain ⟨d1, d2, d3⟩ := g5.2.1 q r f hr a1
                  exact ⟨d1.mono hx, d2.mono hx, d3⟩
              · obtain ⟨f0, a1, a2, _⟩ := hget q f hf
                obtain ⟨f1, b1, b2, _⟩ := hget r f' hf'
                exact g5.2.2 q r f0 f1 a1 b1 (by omega)⟩)
          refine ⟨_, ?_, k1, k2, Fr.setOb hH (by rw [hst]; rfl) rfl⟩
          have hkts : (Instr.keyThatStays (((arr[i]?).map (·.key)).getD uk) uk).run P w = .ok uk w := by
            rw [hai]
            simp only [Option.map_some, Option.getD_some, s1, Instr.keyThatStays]
            rw [if_pos s2]; rfl
          simp only [Nat.add_zero] at h3
          simp only [Instr.mapUpdate, Sem.run_bind, run_underlying ht, Result.andThen_ok, hgo, hck, Instr.findKey, run_underlying hd, h3, Sem.run_pure, hkts, hso]
    · cases h
  · cases h

section
variable {H : Hp} {G : Gh} {w : World}
theorem append_none_str (t u ty e : TypeId) (i : TypeInfo) (ht : P.underlying t = some (.slice e)) (hu : P.underlying u = some .string) (hi : P.info? e = some i) (s : Option Addr) (n cap : Nat) (b : ByteArray) (hb : b.size = 0) (hn : n ≤ cap) :
    (Builtin.append_ #[t, u] ty #[.slice s n cap, .string b]).run P w = .ok (.slice s n cap) w := by
  obtain rfl : b = .empty := by
    obtain ⟨⟨l⟩⟩ := b
    cases l with
    | nil => rfl
    | cons x l => cases hb
  cases s <;> simp [Builtin.append_, run_underlying ht, run_underlying hu, sizeOf, typeInfo, hi, Builtin.lenOf, hn, Builtin.firstCells, storeCells]

theorem reps_bytes {s : ByteArray} {l : List UInt8} (h : s.data.toList = l) : Reps G w (byteRows l).flatten (byteCells s) := by
  subst h
  unfold byteRows byteCells
  rw [show ((s.data.toList.map fun c => ([.int .u8 (c.toNat : Int)] : List AVal)).flatten) = s.data.toList.map fun c => .int .u8 (c.toNat : Int) by
    induction s.data.toList with
    | nil => rfl
    | cons x l ih => simp [ih]]
  refine ⟨by simp, fun j x v hx hv => ?_⟩
  rw [List.getElem?_map, Option.map_eq_some_iff] at hx hv
  obtain ⟨c, hc, rfl⟩ := hx
  obtain ⟨d, hd, rfl⟩ := hv
  rw [hc] at hd; cases hd
  exact .int _ _

/-- An append, as the engine says it. -/
theorem app0_ok {t tx e ty : TypeId} {i : TypeInfo} {z : Value} {sz bytes : Nat} {rows rows2 : List (List AVal)} {tk tk2 : Tok} {p q : Value} {ds : List ADef} {R : Res} (hw : Wr base w0 H G w) (ht : P.underlying t = some (.slice e)) (hi : P.info? e = some i)
    (hz : i.zero = some z) (hsz : i.size = sz) (hby : i.bytes = bytes) (hzs : z.cells.size = sz) (hb : bytes ≠ 0) (hp : Rep G w (.sl rows tk) p)
    (hsrc : rows2 ≠ [] → (∀ r ∈ rows2, r.length = sz) → ∃ vs2, SrcA P i.size tx q rows2.length vs2 w ∧ Reps G w rows2.flatten vs2)
    (hnone : rows2 = [] → ∀ s n cap, n ≤ cap → (Builtin.append_ #[t, tx] ty #[.slice s n cap, q]).run P w = .ok (.slice s n cap) w)
    (h : app0 sz bytes e (.sl rows tk) (.sl rows2 tk2) H ds R) :
    ∃ v H' u w' G', (Builtin.append_ #[t, tx] ty #[p, q]).run P w = .ok u w' ∧ R v H' ds ∧ Rep G' w' v u ∧ Wr base w0 H' G' w' ∧ GExt G w G' w' ∧ Fr H G w H' G' w' := by
  simp only [app0] at h
  split at h
  · rename_i hemp
    have hemp : rows2 = [] := by simpa using hemp
    have hpn : ∃ q cap, p = .slice q rows.length cap ∧ rows.length ≤ cap := by
      rcases hp.sl_inv with ⟨rfl, hv, _⟩ | ⟨b, off, cap, sz, vs, hv, _, _, _, _, hc, _⟩ | ⟨rfl, a, cap, hv, _⟩
      · exact ⟨none, 0, hv, by simp⟩
      · exact ⟨_, cap, hv, hc⟩
      · exact ⟨_, cap, hv, by simp⟩
    obtain ⟨s, cap, rfl, hc⟩ := hpn
    exact ⟨_, _, _, _, _, hnone hemp s _ cap hc, h, hp, hw, GExt.refl _ _, Fr.refl _ _ _⟩
  · rename_i hemp
    have hne : rows2 ≠ [] := fun e => hemp (by rw [e]; rfl)
    obtain ⟨l1, l2, l3, h⟩ := h
    obtain ⟨vs2, hs, hr2⟩ := hsrc hne l2
    split at h
    · obtain ⟨id, hH, u, w', G', q1, q2, q3, q4, q5⟩ := runs_app_full (ty := ty) hw ht hi hz hsz hby hzs hp hs hr2 l1 l2 hne l3 (Nat.pos_of_ne_zero hb)
      exact ⟨_, _, u, w', G', q1, h id hH, q2, q3, q4, q5⟩
    · obtain ⟨id, hH, u, w', G', q1, q2, q3, q4, q5⟩ := runs_app_full (ty := ty) hw ht hi hz hsz hby hzs hp.of_nil hs hr2 l1 l2 hne l3 (Nat.pos_of_ne_zero hb)
      exact ⟨_, _, u, w', G', q1, h id hH, q2, q3, q4, q5⟩
    · rename_i id sz'
      obtain ⟨l4, l5, o, l6, h⟩ := h
      subst l4
      obtain ⟨u, w', G', q1, q2, q3, q4, q5⟩ := runs_app_own (ty := ty) hw ht hi hz hsz hby hzs hp hs hr2 l1 l2 hne l5 l6 l3 (Nat.pos_of_ne_zero hb)
      exact ⟨_, _, u, w', G', q1, h, q2, q3, q4, q5⟩
    · exact h.elim

end

/-! ### Which operation it was -/
def isW : AOp → Bool
  | .alloc _ | .allocT _ _ | .box _ | .mkmap | .store _ _ _ | .mset _ _ _ _ | .app _ _ _ _ _ | .apps _ _ _ _ | .call _ _ | .dfr _ _ | .pnc _ => true
  | _ => false

inductive WInv (P : Program) : Op → AOp → Prop
  | alloc {t : TypeId} {z : List AVal} (h : litCells P t = some z) : WInv P (.alloc t) (.alloc z)
  | allocT {t : TypeId} {z : List AVal} (h : litCells P t = some z) : WInv P (.alloc t) (.allocT t z)
  | box {t : TypeId} {x : Operand} : WInv P (.box t x) (.box (opd x))
  | mkmap {t : TypeId} : WInv P (.makeMap t none) .mkmap
  | store {t : TypeId} {n : Nat} {x v : Operand} (h : sizeOf? P t = some n) : WInv P (.store t x v) (.store n (opd x) (opd v))
  | mset {t kt e : TypeId} {d : TypeDesc} {kk : KK} {m k v : Operand} (h : P.underlying t = some (.map kt e)) (hd : P.underlying kt = some d) (hk : kkOf (some d) = some kk) : WInv P (.mapUpdate t m k v) (.mset kk (opd m) (opd k) (opd v))
  | insert {t kt e : TypeId} {d : TypeDesc} {kk : KK} {m k v : Operand} (h : P.underlying t = some (.map kt e)) (hd : P.underlying kt = some d) (hk : kkOf (some d) = some kk) : WInv P (.insert t m k v) (.mset kk (opd m) (opd k) (opd v))
  | app {t e : TypeId} {i : TypeInfo} {z : Value} {x y : Operand} {args : Array Operand} {argTypes : Array TypeId} (ha : args = #[x, y]) (hat : argTypes = #[t, t]) (h : P.underlying t = some (.slice e)) (hi : P.info? e = some i)
      (hs : i.size ≠ 0) (hb : i.bytes ≠ 0) (hz : i.zero = some z) (hzs : z.cells.size = i.size) : WInv P (.call ⟨.builtin .append, args, argTypes⟩) (.app i.size i.bytes e (opd x) (opd y))
  | apps {t u e : TypeId} {i : TypeInfo} {z : Value} {x y : Operand} {args : Array Operand} {argTypes : Array TypeId} (ha : args = #[x, y]) (hat : argTypes = #[t, u]) (h : P.underlying t = some (.slice e)) (hu : P.underlying u = some .string) (hi : P.info? e = some i)
      (hs : i.size = 1) (hb : i.bytes ≠ 0) (hz : i.zero = some z) (hzs : z.cells.size = i.size) : WInv P (.call ⟨.builtin .append, args, argTypes⟩) (.apps i.bytes e (opd x) (opd y))
  | call {f : Operand} {args : Array Operand} {argTypes : Array TypeId} : WInv P (.call ⟨.value f, args, argTypes⟩) (.call (opd f) (args.toList.map opd))
  | dfr {f : Operand} {args : Array Operand} {argTypes : Array TypeId} : WInv P (.defer ⟨.value f, args, argTypes⟩) (.dfr (opd f) (args.toList.map opd))
  | pnc {x : Operand} : WInv P (.panic x) (.pnc (opd x))

theorem winv {o : Oper} {ao : AOp} (hc : compOp P o = some ao) (hw : isW ao = true) : WInv P o.op ao := by
  obtain ⟨dst, op, type, pos, after, guard⟩ := o
  have no : ∀ {x : AOp}, isW x = false → some x = some ao → WInv P op ao := fun h e => by cases e; rw [h] at hw; cases hw
  cases op with
  | alloc t =>
    simp only [compOp] at hc
    cases hl : litCells P t with
    | none => simp [hl] at hc
    | some z =>
      simp only [hl, Option.map_some, Option.some.injEq] at hc
      subst hc
      split
      · exact .allocT hl
      · exact .alloc hl
  | box t x => simp only [compOp, Option.some.injEq] at hc; subst hc; exact .box
  | makeMap t r => cases r <;> simp only [compOp, reduceCtorEq, Option.some.injEq] at hc; subst hc; exact .mkmap
  | store t x v => simp only [compOp] at hc; cases hl : sizeOf? P t with
    | none => simp [hl] at hc
    | some z => simp only [hl, Option.map_some, Option.some.injEq] at hc; subst hc; exact .store hl
  | mapUpdate t m k x =>
    simp only [compOp] at hc
    split at hc
    · rename_i kt e hu
      cases hd : P.underlying kt with
      | none => simp [hd, kkOf] at hc
      | some d =>
        cases hk : kkOf (some d) with
        | none => simp [hd, hk] at hc
        | some kk => simp only [hd, hk, Option.map_some, Option.some.injEq] at hc; subst hc; exact .mset hu hd hk
    · cases hc
  | insert t m k x =>
    simp only [compOp] at hc
    split at hc
    · rename_i kt e hu
      cases hd : P.underlying kt with
      | none => simp [hd, kkOf] at hc
      | some d =>
        cases hk : kkOf (some d) with
        | none => simp [hd, hk] at hc
        | some kk => simp only [hd, hk, Option.map_some, Option.some.injEq] at hc; subst hc; exact .insert hu hd hk
    · cases hc
  | panic x => simp only [compOp, Option.some.injEq] at hc; subst hc; exact .pnc
  | defer c =>
    obtain ⟨callee, args, argTypes⟩ := c
    cases callee <;> simp only [compOp, reduceCtorEq, Option.some.injEq] at hc
    subst hc; exact .dfr
  | call c =>
    obtain ⟨callee, args, argTypes⟩ := c
    cases callee with
    | value f => simp only [compOp, Option.some.injEq] at hc; subst hc; exact .call
    | invoke r m => simp [compOp] at hc
    | builtin b =>
      cases b <;> simp only [compOp, reduceCtorEq] at hc
      case append =>
        split at hc
        · rename_i t u x y h1 h2 h3
          split at hc
          · rename_i e e2 hu hu2
            split at hc
            · rename_i i hi
              split at hc
              · rename_i hcond
                obtain ⟨c1, c2, c3, c4, c5⟩ := hcond
                cases hc
                have ha : args = #[x, y] := by apply Array.ext'; simpa using h3
                cases hz : i.zero with
                | none => simp [hz] at c3
                | some z =>
                  simp only [hz, Option.map_some, Option.some.injEq] at c3
                  exact .app ha c5 hu hi c1 c2 hz c3
              · cases hc
            · cases hc
          · rename_i e hu hu2
            split at hc
            · rename_i i hi
              split at hc
              · rename_i hcond
                obtain ⟨c1, c2, c3, c5⟩ := hcond
                cases hc
                have ha : args = #[x, y] := by apply Array.ext'; simpa using h3
                cases hz : i.zero with
                | none => simp [hz] at c3
                | some z =>
                  simp only [hz, Option.map_some, Option.some.injEq] at c3
                  exact .apps ha c5 hu hu2 hi c1 c2 hz c3
              · cases hc
            · cases hc
          · cases hc
        · cases hc
      case len =>
        split at hc
        · split at hc <;> first | exact no rfl hc | cases hc
        · cases hc
      case max =>
        split at hc
        · exact no rfl hc
        · cases hc
      case min =>
        split at hc
        · exact no rfl hc
        · cases hc
  | build t ps =>
    simp only [compOp, compBuild] at hc
    split at hc
    · split at hc
      · split at hc
        · cases hm : ps.toList.mapM (partOf P _) with
          | none => rw [hm] at hc; cases hc
          | some aps => rw [hm] at hc; exact no rfl hc
        · cases hc
      · cases hc
    · cases hc
  | load t x => simp only [compOp] at hc; cases hk : aggOf P t with
    | none => simp [hk] at hc
    | some k => rw [hk] at hc; exact no rfl hc
  | binOp op t x y yt =>
    have eqs : ∀ ng, (match P.underlying t with
        | some (.int _) | some .string => some (AOp.bin op (opd x) (opd y))
        | some .bool => some (.beq ng (opd x) (opd y))
        | some (.struct fs) => if P.stoodInHeld t = true then none else (eqFields P fs.toList).map fun ks => .sleq ng ks (opd x) (opd y)
        | some d => match nkOf d with
          | some nk => if nilLit y = some nk then some (.isnil ng nk (opd x)) else none
          | none => none
        | none => none) = some ao → WInv P (.binOp op t x y yt) ao := fun ng h => by
      split at h
      · exact no rfl h
      · exact no rfl h
      · exact no rfl h
      · split at h
        · cases h
        · cases hk : eqFields P _ with
          | none => rw [hk] at h; cases h
          | some ks => rw [hk] at h; exact no rfl h
      · split at h
        · split at h
          · exact no rfl h
          · cases h
        · cases h
      · cases h
    simp only [compOp, compBin] at hc
    cases op <;> first | exact no rfl hc | exact eqs false hc | exact eqs true hc | cases hc
  | unOp op t x => cases op <;> simp only [compOp, reduceCtorEq] at hc <;> exact no rfl hc
  | convert src dst' x =>
    simp only [compOp] at hc
    split at hc
    · exact no rfl hc
    · exact no rfl hc
    · split at hc
      · exact no rfl hc
      · cases hc
    · split at hc
      · exact no rfl hc
      · cases hc
    · split at hc
      · split at hc
        · exact no rfl hc
        · cases hc
      · cases hc
    · cases hc
  | makeInterface t x =>
    simp only [compOp] at hc
    split at hc
    · exact no rfl hc
    · cases hc
  | slice t x lo hi mx =>
    simp only [compOp] at hc
    split at hc
    · split at hc
      · cases hc
      · exact no rfl hc
    · cases hs : sizeOf? P _ with
      | none => rw [hs] at hc; cases hc
      | some k => rw [hs] at hc; exact no rfl hc
    · cases hc
  | fieldAddr s x f =>
    simp only [compOp] at hc
    split at hc
    · split at hc
      · split at hc
        · cases hc
        · exact no rfl hc
        · cases hc
      · cases hc
    · cases hc
  | field t x f =>
    simp only [compOp] at hc
    split at hc
    · split at hc
      · cases hk : aggOf P _ with
        | none => rw [hk] at hc; cases hc
        | some k => rw [hk] at hc; exact no rfl hc
      · cases hc
    · cases hc
  | indexAddr t x i =>
    simp only [compOp] at hc
    split at hc
    · cases hs : sizeOf? P _ with
      | none => rw [hs] at hc; cases hc
      | some k => rw [hs] at hc; exact no rfl hc
    · cases hc
  | index t x i =>
    simp only [compOp] at hc
    split at hc
    · exact no rfl hc
    · cases hc
  | buildSlice t len ps =>
    simp only [compOp] at hc
    split at hc
    · split at hc
      · split at hc
        · exact no rfl hc
        · cases hc
      · cases hc
    · cases hc
  | typeAssert x xt t ok =>
    simp only [compOp] at hc
    split at hc
    · cases hc
    · cases hc
    · split at hc
      · exact no rfl hc
      · cases hc
  | lookup t m k ok =>
    simp only [compOp] at hc
    split at hc
    · split at hc
      · exact no rfl hc
      · cases hc
    · cases hc
  | move x => exact no rfl hc
  | assign x => exact no rfl hc
  | pick c x y => exact no rfl hc
  | nilCheck x => exact no rfl hc
  | makeFunc fn f c => exact no rfl hc
  | extract x i => exact no rfl hc
  | _ => simp [compOp] at hc

/-- One operation's step. -/
theorem opR_ok {H : Hp} {G : Gh} {w : World} {R E : Res} {o : Oper} {ao : AOp} {a : Act} {tm : List AVal} {ds : List ADef} (hL : O.L base w0) (hc : compOp P o = some ao) (h : opR O P ao tm H ds R E)
    (hw : Wr base w0 H G w) (ht : Reps G w tm a.tmps.toList) (hds : DsRep G w ds a.defers) : StepOk O P base w0 H G w R E o a := by
  have E' := fun x => ev_rep ht x
  have quiet' : (match rop ao tm H with | some v => R v H ds | none => False) → StepOk O P base w0 H G w R E o a := fun h => by
    cases hr : rop ao tm H with
    | none => rw [hr] at h; exact h.elim
    | some v =>
      rw [hr] at h
      obtain ⟨u, w', q1, q2, q3, q4, q5⟩ := rop_ok hc hr hw ht
      exact .value q1 h q3 q4 q5 q2 hds
  by_cases hW : isW ao = true
  · have hv := winv hc hW
    obtain ⟨dst, op, type, pos, after, guard⟩ := o
    simp only at hv
    cases hv with
    | @alloc t z hl =>
      simp only [opR] at h
      obtain ⟨id, hun, hH, _⟩ := fresh_id hw
      cases hz : P.info? t with
      | none => simp [litCells, hz] at hl
      | some i =>
        cases hz' : i.zero with
        | none => simp [litCells, hz, hz'] at hl
        | some v =>
          simp only [litCells, hz, Option.bind_some, hz', Option.map_some, Option.some.injEq] at hl
          have hr : Reps G w z v.cells.toList := by
            rw [← hl]
            refine ⟨by simp, fun i x u hx hu => ?_⟩
            rw [List.getElem?_map, hu] at hx
            cases hx
            exact lit0_rep G w 2 u
          obtain ⟨k1, k2⟩ := hw.newOb hun hH (.cells v.cells t) (.obj w.heap.size) 0 (.cells z) rfl (.inl rfl) (fun G' w' hx g1 g2 g3 => ⟨_, v.cells.toList, t, [], g1, hw.le, g2, by simpa using g3, hr.mono hx, fun _ h => by cases h⟩)
          refine .value (u := .pointer (some ⟨w.heap.size, 0, none⟩)) ?_ (h id hH) k1 k2 (Fr.newOb rfl) (.ref 0 (by simp [Gh.setSt])) hds
          have hzv : (zeroValue t).run P w = .ok v w := by simp [zeroValue, typeInfo, hz, hz']
          simp [execOp, Instr.alloc, hzv, newVar, newRow]
    | @allocT t z hl =>
      simp only [opR] at h
      obtain ⟨id, hun, hH, _⟩ := fresh_id hw
      cases hz : P.info? t with
      | none => simp [litCells, hz] at hl
      | some i =>
        cases hz' : i.zero with
        | none => simp [litCells, hz, hz'] at hl
        | some v =>
          simp only [litCells, hz, Option.bind_some, hz', Option.map_some, Option.some.injEq] at hl
          have hr : Reps G w z v.cells.toList := by
            rw [← hl]
            refine ⟨by simp, fun i x u hx hu => ?_⟩
            rw [List.getElem?_map, hu] at hx
            cases hx
            exact lit0_rep G w 2 u
          obtain ⟨k1, k2⟩ := hw.newOb hun hH (.cells v.cells t) (.obj w.heap.size) 0 (.cells z (some t)) rfl (.inl rfl) (fun G' w' hx g1 g2 g3 => ⟨_, v.cells.toList, t, [], g1, hw.le, g2, by simpa using g3, hr.mono hx, fun _ h => by cases h; rfl⟩)
          refine .value (u := .pointer (some ⟨w.heap.size, 0, none⟩)) ?_ (h id hH) k1 k2 (Fr.newOb rfl) (.ref 0 (by simp [Gh.setSt])) hds
          have hzv : (zeroValue t).run P w = .ok v w := by simp [zeroValue, typeInfo, hz, hz']
          simp [execOp, Instr.alloc, hzv, newVar, newRow]
    | @box t x =>
      simp only [opR] at h
      obtain ⟨hk, h⟩ := h
      obtain ⟨id, hun, hH, _⟩ := fresh_id hw
      have hr := (E' x).cells hk
      obtain ⟨k1, k2⟩ := hw.newOb hun hH (.cells (a.eval x).cells t) (.obj w.heap.size) 0 (.cells (ev tm (opd x)).cells) rfl (.inl rfl) (fun G' w' hx g1 g2 g3 => ⟨_, (a.eval x).cells.toList, t, [], g1, hw.le, g2, by simpa using g3, hr.mono hx, fun _ h => by cases h⟩)
      refine .value (u := .pointer (some ⟨w.heap.size, 0, none⟩)) ?_ (h id hH) k1 k2 (Fr.newOb rfl) (.ref 0 (by simp [Gh.setSt])) hds
      simp [execOp, Instr.box, newVar, newRow]
    | @mkmap t =>
      simp only [opR] at h
      obtain ⟨id, hun, hH, _⟩ := fresh_id hw
      obtain ⟨k1, k2⟩ := hw.newOb hun hH (.map #[] 0) (.obj w.heap.size) 0 (.map []) rfl (.inl rfl) (fun G' w' hx g1 g2 g3 => ⟨_, #[], 0, g1, hw.le, g2, g3, rfl, fun i p e hp => by simp at hp, fun i j e f he => by simp at he⟩)
      refine .value (u := .map (some w.heap.size)) ?_ (h id hH) k1 k2 (Fr.newOb rfl) (.map (by simp [Gh.setSt])) hds
      simp [execOp, Instr.makeMap]
    | @store t n x v hn =>
      simp only [opR] at h
      cases hs : storeA H n (ev tm (opd x)) (ev tm (opd v)) with
      | none => rw [hs] at h; exact h.elim
      | some H' =>
        rw [hs] at h
        obtain ⟨w', q1, q2, q3, q4⟩ := store_ok hw hn (E' x) (E' v) hs
        refine .skip ?_ h q2 q3 q4 hds
        simp [execOp, q1]
    | @mset t kt e dd kk m k v hu hdd hk =>
      simp only [opR] at h
      cases hs : msetA H kk (ev tm (opd m)) (ev tm (opd k)) (ev tm (opd v)) with
      | none => rw [hs] at h; exact h.elim
      | some H' =>
        rw [hs] at h
        obtain ⟨w', q1, q2, q3, q4⟩ := mset_ok hw hu hdd hk (E' m) (E' k) (E' v) hs
        refine .skip ?_ h q2 q3 q4 hds
        simp [execOp, q1]
    | @insert t kt e dd kk m k v hu hdd hk =>
      simp only [opR] at h
      cases hs : msetA H kk (ev tm (opd m)) (ev tm (opd k)) (ev tm (opd v)) with
      | none => rw [hs] at h; exact h.elim
      | some H' =>
        rw [hs] at h
        obtain ⟨w', q1, q2, q3, q4⟩ := mset_ok hw hu hdd hk (E' m) (E' k) (E' v) hs
        refine .skip ?_ h q2 q3 q4 hds
        simp [execOp, q1]
    | @app t e i z x y args argTypes ha hat hu hi hs hb hz hzs =>
      subst ha; subst hat
      simp only [opR] at h
      have hexec : execOp a.eval ⟨dst, .call ⟨.builtin .append, #[x, y], #[t, t]⟩, type, pos, after, guard⟩ = (do pure (.value (← Builtin.append_ #[t, t] type #[a.eval x, a.eval y]))) := by
        simp [execOp, resolve, invoke, builtin]
      have e1 := E' x; have e2 := E' y
      have src : ∀ {rows2 : List (List AVal)} {tk2 : Tok}, Rep G w (.sl rows2 tk2) (a.eval y) → rows2 ≠ [] → (∀ r ∈ rows2, r.length = i.size) → ∃ vs2, SrcA P i.size t (a.eval y) rows2.length vs2 w ∧ Reps G w rows2.flatten vs2 := fun {rows2 tk2} e2 hne l2 => by
        obtain ⟨a2, cap2, vs2, hv, hl2, hr2, hi2, _⟩ := rows_slice e2 l2
        obtain ⟨b2, off2, rfl, him2⟩ := hi2 hne
        exact ⟨vs2, by rw [hv]; exact ⟨.inl ⟨_, hu⟩, fun _ => rfl, run_firstCells_some (P := P) w i.size rows2.length _ _ _ vs2 hl2 (fun j v hv => by rw [Addr.add_lit]; exact (him2 j v hv).1), run_firstCells_some (P := P) w.drew i.size rows2.length _ _ _ vs2 hl2 (fun j v hv => by rw [Addr.add_lit]; exact (him2 j v hv).1), hl2⟩, hr2⟩
      rcases h with h | h
      rotate_left
      · unfold appM at h
        split at h
        · rename_i id n sz' rows2 tk2 h1 h2
          rw [h1] at e1; rw [h2] at e2
          obtain ⟨l0, rfl, l2, l3, l4, cs, oty, l5, l6, h⟩ := h
          obtain ⟨vs2, hs2, hr2⟩ := src e2 l0 l2
          obtain ⟨id', q0, u, w', G', q1, q2, q3, q4, q5⟩ := runs_app_slm (ty := type) hw hu hi hz rfl rfl hzs e1 l5 l6 hs2 hr2 l0 l4 l3 (Nat.pos_of_ne_zero hb)
          refine .value ?_ (h id' q0) q3 q4 q5 q2 hds
          rw [hexec]
          simp only [Sem.run_bind, q1, Result.andThen_ok, Sem.run_pure]
        · rename_i tk rows2 tk2 h1 h2
          rw [h1] at e1; rw [h2] at e2
          obtain ⟨l0, l1, l2, l3, h⟩ := h
          obtain ⟨vs2, hs2, hr2⟩ := src e2 l0 l2
          obtain ⟨id', q0, u, w', G', q1, q2, q3, q4, q5⟩ := runs_app_new (ty := type) hw hu hi hz rfl rfl hzs e1 l1 hs2 hr2 l0 l3 (Nat.pos_of_ne_zero hb)
          refine .value ?_ (h id' q0) q3 q4 q5 q2 hds
          rw [hexec]
          simp only [Sem.run_bind, q1, Result.andThen_ok, Sem.run_pure]
        · exact h.elim
      unfold app0 at h
      split at h
      · rename_i rows tk rows2 tk2 h1 h2
        rw [h1] at e1; rw [h2] at e2
        have h0 : app0 i.size i.bytes e (.sl rows tk) (.sl rows2 tk2) H ds R := h
        have hqn : ∃ q cap, a.eval y = .slice q rows2.length cap := by
          rcases e2.sl_inv with ⟨rfl, hv, _⟩ | ⟨b, off, cap, sz, vs, hv, _⟩ | ⟨rfl, a, cap, hv, _⟩
          · exact ⟨none, 0, hv⟩
          · exact ⟨_, cap, hv⟩
          · exact ⟨_, cap, hv⟩
        obtain ⟨v, H', u, w', G', q1, q2, q3, q4, q5, q6⟩ := app0_ok (tx := t) (q := a.eval y) (ty := type) hw hu hi hz rfl rfl hzs hb e1 (fun hne l2 => by
          obtain ⟨a2, cap2, vs2, hv, hl2, hr2, hi2, _⟩ := rows_slice e2 l2
          obtain ⟨b2, off2, rfl, him2⟩ := hi2 hne
          exact ⟨vs2, by rw [hv]; exact ⟨.inl ⟨_, hu⟩, fun _ => rfl, run_firstCells_some (P := P) w i.size rows2.length _ _ _ vs2 hl2 (fun j v hv => by rw [Addr.add_lit]; exact (him2 j v hv).1), run_firstCells_some (P := P) w.drew i.size rows2.length _ _ _ vs2 hl2 (fun j v hv => by rw [Addr.add_lit]; exact (him2 j v hv).1), hl2⟩, hr2⟩)
          (fun hemp q n cap hn => by
            subst hemp
            obtain ⟨q2, cap2, hq2⟩ := hqn
            rw [hq2]
            exact append_none t t type e i hu hu hi q n cap q2 cap2 hn) h0
        refine .value ?_ q2 q4 q5 q6 q3 hds
        rw [hexec]
        simp only [Sem.run_bind, q1, Result.andThen_ok, Sem.run_pure]
      · exact h.elim
    | @apps t u e i z x y args argTypes ha hat hu hus hi hs hb hz hzs =>
      subst ha; subst hat
      simp only [opR] at h
      have hexec : execOp a.eval ⟨dst, .call ⟨.builtin .append, #[x, y], #[t, u]⟩, type, pos, after, guard⟩ = (do pure (.value (← Builtin.append_ #[t, u] type #[a.eval x, a.eval y]))) := by
        simp [execOp, resolve, invoke, builtin]
      have e1 := E' x; have e2 := E' y
      unfold appsP at h
      split at h
      · rename_i l hl
        rw [hl] at e2
        obtain ⟨s, hv, hsl⟩ : ∃ s : ByteArray, a.eval y = .string s ∧ s.data.toList = l := ⟨_, e2.str_inv, rfl⟩
        have hlen : (byteRows l).length = s.size := by unfold byteRows; rw [List.length_map, ← hsl]; rfl
        rcases h with h | h
        rotate_left
        · have hs2 : SrcA P i.size u (a.eval y) (byteRows l).length (byteCells s) w := by rw [hv, hs, hlen]; exact SrcA.str hus s
          unfold appM at h
          split at h
          · rename_i id n sz' rows2 tk2 h1 h2
            cases h2
            rw [h1] at e1
            obtain ⟨l0, rfl, l2, l3, l4, cs, oty, l5, l6, h⟩ := h
            obtain ⟨id', q0, u, w', G', q1, q2, q3, q4, q5⟩ := runs_app_slm (ty := type) hw hu hi hz hs rfl (by rw [hzs, hs]) e1 l5 l6 hs2 (reps_bytes hsl) l0 l4 l3 (Nat.pos_of_ne_zero hb)
            refine .value ?_ (h id' q0) q3 q4 q5 q2 hds
            rw [hexec]
            simp only [Sem.run_bind, q1, Result.andThen_ok, Sem.run_pure]
          · rename_i tk rows2 tk2 h1 h2
            cases h2
            rw [h1] at e1
            obtain ⟨l0, l1, l2, l3, h⟩ := h
            obtain ⟨id', q0, u, w', G', q1, q2, q3, q4, q5⟩ := runs_app_new (ty := type) hw hu hi hz hs rfl (by rw [hzs, hs]) e1 l1 hs2 (reps_bytes hsl) l0 l3 (Nat.pos_of_ne_zero hb)
            refine .value ?_ (h id' q0) q3 q4 q5 q2 hds
            rw [hexec]
            simp only [Sem.run_bind, q1, Result.andThen_ok, Sem.run_pure]
          · exact h.elim
        have h0 := h
        unfold app0 at h
        split at h
        · rename_i rows tk rows2 tk2 h1 h2
          cases h2
          rw [h1] at e1 h0
          obtain ⟨v, H', u', w', G', q1, q2, q3, q4, q5, q6⟩ := app0_ok (tx := u) (q := a.eval y) (ty := type) hw hu hi hz hs rfl (by rw [hzs, hs]) hb e1 (fun hne l2 => by
            refine ⟨byteCells s, ?_, ?_⟩
            · rw [hv, hs, hlen]; exact SrcA.str hus s
            · exact reps_bytes hsl)
            (fun hemp q n cap hn => by
              have : s.size = 0 := by rw [← hlen, hemp]; rfl
              rw [hv]
              exact append_none_str t u type e i hu hus hi q n cap s this hn) h0
          refine .value ?_ q2 q4 q5 q6 q3 hds
          rw [hexec]
          simp only [Sem.run_bind, q1, Result.andThen_ok, Sem.run_pure]
        · exact h.elim
      · exact h.elim
    | @call f args argTypes =>
      simp only [opR] at h
      split at h
      · rename_i g fs cs hf
        have e1 := E' f
        rw [hf] at e1
        obtain ⟨vs, us, hv, hvs, hus⟩ := e1.func_inv
        have hargs := evs_rep ht args.toList
        have hall : Reps G w (fs ++ (args.toList.map opd).map (ev tm) ++ cs) (vs ++ args.toList.map a.eval ++ us) := (hvs.append (by simpa [List.map_map, Function.comp_def] using hargs)).append hus
        have hcall := h base w0 G w _ hL hw hall
        have hexec : (execOp a.eval ⟨dst, .call ⟨.value f, args, argTypes⟩, type, pos, after, guard⟩).run P w = (callFunc g (vs ++ args.toList.map a.eval ++ us).toArray).run P w := by
          have harr : (vs.toArray ++ args.map a.eval) ++ us.toArray = (vs ++ args.toList.map a.eval ++ us).toArray := by
            apply Array.ext'; simp
          simp only [execOp, resolve, hv, Deferred.ofValue, Sem.run_bind, Sem.run_pure, Result.andThen_ok, invoke, harr]
        have fin : ∀ e w', RMeets O base w0 H G w (callPost ds R E) e w' → (match e with
            | .returned v => StepK base w0 H G w R dst a (a.put dst v) w'
            | .panicked chain => StepE O base w0 H G w E a (.panic chain) a w'
            | .outgrown => LetsOut (StepE O base w0 H G w E a)) := fun e w' hm => by
          cases e with
          | outgrown => exact ⟨a, w', hm⟩
          | panicked chain =>
            obtain ⟨v, u, H', G', g1, g2, g3, g4, g5, g6⟩ := hm
            exact ⟨rfl, v, u, H', ds, G', g1, g2, g3, g4, g5, g6, hds.mono g5⟩
          | returned u =>
            obtain ⟨v, H', G', g2, g3, g4, g5, g6⟩ := hm
            exact ⟨v, u, H', ds, a.defers, G', g3, rfl, g2, g4, g5, g6, hds.mono g5⟩
        unfold StepOk Oper.wp
        rcases hcall with ⟨r1, r2⟩ | ⟨u, w', r1, r2⟩
        · rw [hexec, r1, Oper.upon_enter]
          exact r2.mono fun e w' hm => by cases e <;> exact fin _ w' hm
        · rw [hexec, r1, Oper.upon_value]
          exact fin (.returned u) w' r2
      · exact h.elim
    | @dfr f args argTypes =>
      simp only [opR] at h
      split at h
      · rename_i fn fs cs hf
        have e1 := E' f
        rw [hf] at e1
        obtain ⟨vs, us, hv, hvs, hus⟩ := e1.func_inv
        have hargs := evs_rep ht args.toList
        have hexec : (execOp a.eval ⟨dst, .defer ⟨.value f, args, argTypes⟩, type, pos, after, guard⟩).run P w = .ok (.defer { target := .fn fn us.toArray, args := vs.toArray ++ args.map a.eval }) w := by
          simp [execOp, resolve, hv, Deferred.ofValue]
        unfold StepOk Oper.wp
        rw [hexec, Oper.upon_defer]
        refine ⟨.tup [], undef, H, _, _, G, h, rfl, Rep.tup' Reps.nil, hw, GExt.refl _ _, Fr.refl _ _ _, ⟨us, rfl, hus, ?_⟩, hds⟩
        have : (vs.toArray ++ args.map a.eval).toList = vs ++ args.toList.map a.eval := by simp
        rw [this]
        exact hvs.append (by simpa [List.map_map, Function.comp_def] using hargs)
      · exact h.elim
    | @pnc x =>
      simp only [opR] at h
      split at h
      · rename_i t v hx
        have e1 := E' x
        rw [hx] at e1
        obtain ⟨v', hv', hr⟩ := e1.iface_inv
        unfold StepOk Oper.wp
        have hexec : (execOp a.eval ⟨dst, .panic x, type, pos, after, guard⟩).run P w = .halt (.panic (.iface t v')) w := by
          simp [execOp, hv', Instr.panic]
        rw [hexec, Oper.upon_panic]
        exact ⟨rfl, _, _, _, _, G, rfl, .iface hr, h, hw, GExt.refl _ _, Fr.refl _ _ _, hds⟩
      · exact h.elim
  · refine quiet' ?_
    cases ao <;> first | exact h | exact absurd rfl hW

theorem Oper.wp_mono2 {o : Oper} {a : Act} {w : World} {K K' : Act → World → Prop} {Q Q' : Exit → Act → World → Prop} (h : ∀ a w, K a w → K' a w) (hp : ∀ c a w, Q (.panic c) a w → Q' (.panic c) a w) (ho : ∀ a w, Q .outgrown a w → Q' .outgrown a w)
    (hh : o.wp P a w K Q) : o.wp P a w K' Q' := by
  unfold Oper.wp at *
  generalize (execOp a.eval o).run P w = r at *
  cases r with
  | ok n w' =>
    cases n <;> simp only [Oper.upon] at hh ⊢ <;>
      first
        | exact h _ _ hh
        | exact hh
        | exact Calls.mono hh (fun e w'' he => by
            cases e with
            | returned v => exact h _ _ he
            | panicked c => exact hp _ _ _ he
            | outgrown => obtain ⟨a0, w0, h0⟩ := he; exact ⟨a0, w0, ho _ _ h0⟩)
        | exact Rows.mono hh (fun _ _ he => h _ _ he)
  | halt x w' =>
    cases x <;> simp only [Oper.upon] at hh ⊢ <;> first
      | exact hp _ _ _ hh
      | exact hh

end
end Go.Eng

/- Regions whose order is the text's; bodies; calls. -/
set_option linter.unusedVariables false
set_option linter.unusedSimpArgs false
namespace Go.Eng
open Go.RowKit (Below)

def compOper (P : Program) (ops : Array Oper) (o : Oper) : Option AOper :=
  match compOp P o with
  | some ao => match o.guard with
    | none => some ⟨o.dst, ao, none⟩
    | some (j, b) => match (ops[j]?).bind (·.dst) with
      | some t => some ⟨o.dst, ao, some (t, b)⟩
      | none => none
  | _ => none

def compOpers (P : Program) (ops : Array Oper) : List Oper → Option (List AOper)
  | [] => some []
  | o :: rest => match compOper P ops o, compOpers P ops rest with
    | some a, some as => some (a :: as)
    | _, _ => none

/-- A row of bytes that is laid and at once marked as a string's. -/
def fuse2 (a1 a2 : AOper) : Option (AOper × AOper) :=
  match a1.dst, a1.op, a1.gd, a2.op, a2.gd with
  | some d1, .bsl sz ps, none, .sls (.t t), none => if t = d1 then some (⟨some d1, .bslf sz ps, none⟩, ⟨a2.dst, .sls (.t d1), none⟩) else none
  | _, _, _, _, _ => none
def fuseL : List AOper → List AOper
  | a1 :: a2 :: rest => match fuse2 a1 a2 with
    | some (b1, b2) => b1 :: b2 :: fuseL rest
    | none => a1 :: fuseL (a2 :: rest)
  | [a] => [a]
  | [] => []

theorem fuse2_inv {a1 a2 b1 b2 : AOper} (h : fuse2 a1 a2 = some (b1, b2)) : ∃ d1 sz ps, a1 = ⟨some d1, .bsl sz ps, none⟩ ∧ a2 = ⟨a2.dst, .sls (.t d1), none⟩ ∧ b1 = ⟨some d1, .bslf sz ps, none⟩ ∧ b2 = ⟨a2.dst, .sls (.t d1), none⟩ := by
  obtain ⟨x1, x2, x3⟩ := a1
  obtain ⟨y1, y2, y3⟩ := a2
  unfold fuse2 at h
  split at h
  · rename_i d1 sz ps t e1 e2 e3 e4 e5
    split at h
    · rename_i e
      simp only at e1 e2 e3 e4 e5
      subst e1 e2 e3 e4 e5 e
      cases h
      exact ⟨t, sz, ps, rfl, rfl, rfl, rfl⟩
    · cases h
  · cases h

def forget (s : S) : List AOper → S
  | [] => s
  | o :: rest => forget { s with tm := setTm s.tm o.dst .unk } rest

theorem set_unk_getD (tm : List AVal) (d k : Option Nat) (h : getTm tm k = .unk) : getTm (setTm tm d .unk) k = .unk := by
  cases d with
  | none => exact h
  | some d =>
    cases k with
    | none => rfl
    | some k =>
      simp only [getTm, setTm, List.getD_eq_getElem?_getD, List.getElem?_set] at h ⊢
      split
      · split <;> rfl
      · exact h
theorem set_unk_same (tm : List AVal) (d : Option Nat) : getTm (setTm tm d .unk) d = .unk := by
  cases d with
  | none => rfl
  | some d =>
    simp only [getTm, setTm, List.getD_eq_getElem?_getD, List.getElem?_set]
    split
    · split <;> rfl
    · rename_i h; simp at h

theorem forget_keeps (l : List AOper) : ∀ (s : S) (k : Option Nat), getTm s.tm k = .unk → getTm (forget s l).tm k = .unk := by
  induction l with
  | nil => intro s k h; exact h
  | cons o l ih => intro s k h; exact ih _ k (set_unk_getD _ _ _ h)
theorem forget_unk (l : List AOper) : ∀ (s : S), ∀ o ∈ l, getTm (forget s l).tm o.dst = .unk := by
  induction l with
  | nil => intro s o h; simp at h
  | cons o l ih =>
    intro s o' h
    rcases List.mem_cons.1 h with rfl | h
    · exact forget_keeps l _ _ (set_unk_same _ _)
    · exact ih _ o' h

section
variable {P : Program}
theorem sls_inv {o : Oper} {y : Opd} (hc : compOp P o = some (.sls y)) : ∃ src e x, o.op = .convert src src x ∧ opd x = y ∧ P.underlying src = some (.slice e) ∧ P.underlying e = some (.int .u8) := by
  obtain ⟨dst, op, type, pos, after, guard⟩ := o
  cases op
  case convert src dst' x =>
    simp only [compOp] at hc
    split at hc
    · cases hc
    · cases hc
    · split at hc <;> cases hc
    · split at hc <;> cases hc
    · rename_i e0 e hu hu'
      split at hc
      · rename_i hsd
        subst hsd
        split at hc
        · rename_i he
          cases hc
          exact ⟨src, e, x, rfl, rfl, hu', he⟩
        · cases hc
      · cases hc
    · cases hc
  all_goals
    exfalso
    revert hc
    simp only [compOp, compBin, compBuild]
    repeat' split
    all_goals first
      | (simp; done)
      | contradiction
      | (intro h; contradiction)
theorem bsl_inv {o : Oper} {sz : Nat} {ps' : List Opd} (hc : compOp P o = some (.bsl sz ps')) : ∃ t e len ps i z, o.op = .buildSlice t len ps ∧ P.underlying t = some (.slice e) ∧ P.info? e = some i ∧ i.size = sz ∧ i.zero = some z ∧ ps.toList.map (·.1) = List.range len ∧ len * sz ≤ 16777216 ∧ ps' = ps.toList.map fun p => opd p.2 := by
  obtain ⟨dst, op, type, pos, after, guard⟩ := o
  cases op
  case buildSlice t len ps =>
    simp only [compOp] at hc
    split at hc
    · rename_i e hu
      split at hc
      · rename_i sz' hs
        split at hc
        · rename_i hcond
          obtain ⟨c1, c2, c3, c4⟩ := hcond
          cases hc
          cases hi : P.info? e with
          | none => simp [sizeOf?, hi] at hs
          | some i =>
            cases hz : i.zero with
            | none => simp [litCells, hi, hz] at c3
            | some z => exact ⟨t, e, len, ps, i, z, rfl, hu, hi, by simpa [sizeOf?, hi] using hs, hz, c1, c2, rfl⟩
        · cases hc
      · cases hc
    · cases hc
  all_goals
    exfalso
    revert hc
    simp only [compOp, compBin, compBuild]
    repeat' split
    all_goals first
      | (simp; done)
      | contradiction
      | (intro h; contradiction)
end

theorem forget_fuse : ∀ (n : Nat) (as : List AOper) (s : S), as.length ≤ n → forget s (fuseL as) = forget s as
  | 0, [], s, _ => rfl
  | n + 1, [], s, _ => rfl
  | n + 1, [a], s, _ => rfl
  | n + 1, a1 :: a2 :: rest, s, h => by
    simp only [fuseL]
    cases hf : fuse2 a1 a2 with
    | none =>
      simp only [forget]
      have := forget_fuse n (a2 :: rest) { s with tm := setTm s.tm a1.dst .unk } (by simpa using h)
      simpa only [forget] using this
    | some p =>
      obtain ⟨b1, b2⟩ := p
      obtain ⟨d1, sz, ps, e1, e2, e3, e4⟩ := fuse2_inv hf
      subst e3 e4
      rw [e1]
      simp only [forget]
      exact forget_fuse n rest _ (by simp at h; omega)
  | 0, _ :: _, s, h => by simp at h

section
variable {O : Cfg} {P : Program} {base : Nat} {w0 : World}

theorem Reps.setUnk {G : Gh} {w : World} {tm : List AVal} {vs : List Value} (h : Reps G w tm vs) (d : Option Nat) : Reps G w (setTm tm d .unk) vs := by
  cases d with
  | none => exact h
  | some d =>
    refine ⟨by simpa [setTm] using h.1, fun i a v ha hv => ?_⟩
    simp only [setTm, List.getElem?_set] at ha
    split at ha
    · split at ha
      · cases ha; exact .unk v
      · cases ha
    · exact h.2 i a v ha hv

theorem Reps.forget {G : Gh} {w : World} {vs : List Value} (l : List AOper) : ∀ (s : S), Reps G w s.tm vs → Reps G w (Eng.forget s l).tm vs := by
  induction l with
  | nil => intro s h; exact h
  | cons o l ih => intro s h; exact ih _ (h.setUnk _)

theorem wanted_ok {G : Gh} {w : World} {tm : List AVal} {a : Act} {ops : Array Oper} {o : Oper} {ao : AOper} {b : Bool} (hc : compOper P ops o = some ao) (ht : Reps G w tm a.tmps.toList) (h : gdA ao.gd tm = some b) :
    o.dst = ao.dst ∧ compOp P o = some ao.op ∧ Region.wanted o (yielded ops a.tmps) = b := by
  unfold compOper at hc
  split at hc
  · rename_i op hop
    split at hc
    · rename_i hg
      cases hc
      refine ⟨rfl, hop, ?_⟩
      simp only [gdA, Option.some.injEq] at h
      subst h
      simp [Region.wanted, hg]
    · rename_i j want hg
      split at hc
      · rename_i t hj
        cases hc
        refine ⟨rfl, hop, ?_⟩
        simp only [gdA] at h
        have hy : yielded ops a.tmps j = (match a.tmps[t]? with | some (.bool b) => some b | _ => none) := by
          simp only [yielded, hj, Option.bind_some]
          cases a.tmps[t]? with
          | none => rfl
          | some v => cases v <;> rfl
        have get : ∀ x, tm.getD t .unk = x → x ≠ .unk → ∃ u, a.tmps[t]? = some u ∧ Rep G w x u := fun x hx hne => by
          rw [List.getD_eq_getElem?_getD] at hx
          cases hg : tm[t]? with
          | none => rw [hg] at hx; exact absurd hx.symm hne
          | some y =>
            rw [hg] at hx
            simp only [Option.getD_some] at hx
            subst hx
            obtain ⟨u, hu, hr⟩ := ht.get hg
            exact ⟨u, by simpa using hu, hr⟩
        split at h
        · rename_i c hcb
          cases h
          obtain ⟨u, hu, hr⟩ := get _ hcb (by simp)
          rw [hr.bool_inv] at hu
          simp only [Region.wanted, hg, hy, hu]
          cases c <;> cases want <;> rfl
        · rename_i hcb
          cases h
          obtain ⟨u, hu, hr⟩ := get _ hcb (by simp)
          obtain ⟨vs, rfl, _⟩ := hr.tup_inv
          simp only [Region.wanted, hg, hy, hu]
          cases want <;> rfl
        · cases h
      · cases hc
  · cases hc

theorem wpOps_mono_meets {Q : Post} {ops : Array Oper} {H H' : Hp} {G G' : Gh} {w w' : World} (x : GExt G w G' w') (xf : Fr H G w H' G' w') : ∀ {idx : List Nat} {a : Act} {v : World}, wpOps P ops (Meets O base w0 H' G' w' Q) idx a v → wpOps P ops (Meets O base w0 H G w Q) idx a v := by
  intro idx
  induction idx with
  | nil => intro a v h; exact Meets.trans (Q := Q) x xf (e := .normal) h
  | cons i idx ih =>
    intro a v h
    simp only [wpOps] at h ⊢
    split at h
    · exact ih h
    · rename_i o ho
      split at h
      · rename_i hw
        rw [if_pos hw]
        rcases h with h | ⟨h1, a0, v0, h2⟩
        · refine .inl ?_
          unfold Oper.wp at h ⊢
          generalize (execOp a.eval o).run P v = r at h ⊢
          cases r with
          | ok n v' =>
            cases n <;> simp only [Oper.upon] at h ⊢ <;> first
              | exact ih h
              | exact h
              | (refine Calls.mono h fun e w'' he => ?_
                 cases e with
                 | returned u => exact ih he
                 | panicked c => exact Meets.trans (Q := Q) x xf (e := .panic c) he
                 | outgrown => exact he)
              | exact Rows.mono h fun _ _ he => ih he
          | halt hh v' =>
            cases hh <;> simp only [Oper.upon] at h ⊢ <;> first
              | exact Meets.trans (Q := Q) x xf (e := .panic _) h
              | exact h
        · exact .inr ⟨h1, a0, v0, h2⟩
      · rename_i hw
        rw [if_neg hw]
        exact ih h

/-- One operation of a plan. -/
theorem plan_step {Q : Post} {sp : S} {ops : Array Oper} {o : Oper} {ao : AOper} {rest : List AOper} {i : Nat} {idx : List Nat} (hoi : ops[i]? = some o) (hao : compOper P ops o = some ao) (hL : O.L base w0) (hspd : getTm sp.tm ao.dst = .unk)
    (ih' : ∀ (s : S) (G : Gh) (w : World) (a : Act), plan O P Q sp rest s → Wr base w0 s.hp G w → Reps G w s.tm a.tmps.toList → DsRep G w s.ds a.defers → Reps G w sp.tm a.tmps.toList → wpOps P ops (Meets O base w0 s.hp G w Q) idx a w)
    {s : S} {G : Gh} {w : World} {a : Act} (h : plan O P Q sp (ao :: rest) s) (hw : Wr base w0 s.hp G w) (ht : Reps G w s.tm a.tmps.toList) (hds : DsRep G w s.ds a.defers) (hs : Reps G w sp.tm a.tmps.toList) :
    wpOps P ops (Meets O base w0 s.hp G w Q) (i :: idx) a w := by
  simp only [plan] at h
  simp only [wpOps, hoi]
  split at h
  · rename_i hg
    obtain ⟨w1, w2, w3⟩ := wanted_ok hao ht hg
    rw [if_pos w3]
    refine .inl (Oper.wp_mono2 ?_ ?_ ?_ (opR_ok hL w2 h hw ht hds))
    · intro a' w' ⟨v, u, H', ds', df, G', hp, ha, hr, hw', hx, hf, hds'⟩
      subst ha
      rw [w1]
      have ht' : Reps G' w' (setTm s.tm ao.dst v) (({ a with defers := df } : Act).put ao.dst u).tmps.toList := Reps.put (a := { a with defers := df }) (ht.mono hx) hr ao.dst
      have hs' : Reps G' w' sp.tm (({ a with defers := df } : Act).put ao.dst u).tmps.toList := Reps.put_unk (a := { a with defers := df }) (hs.mono hx) ao.dst hspd
      have := ih' ⟨setTm s.tm ao.dst v, H', ds'⟩ G' w' _ hp hw' ht' (by rw [put_defers]; exact hds') hs'
      exact wpOps_mono_meets hx hf this
    · intro c a' w' ⟨ha, v, u, H', ds', G', e1, e2, e3, e4, e5, e6, e7⟩
      subst ha
      exact ⟨v, u, ⟨sp.tm, H', ds'⟩, G', e1, e2, e3, e4, e5, hs.mono e5, e7, e6⟩
    · intro a' w' ho; exact ho
  · rename_i hg
    obtain ⟨w1, w2, w3⟩ := wanted_ok hao ht hg
    rw [if_neg (by simp [w3])]
    rw [w1]
    exact ih' (s.put ao.dst (.tup [])) G w _ h hw (ht.put (Rep.tup' Reps.nil) _) (by rw [put_defers]; exact hds) (hs.put_unk _ hspd)
  · exact h.elim

theorem compOper_none {ops : Array Oper} {o : Oper} {d : Option Nat} {op : AOp} (h : compOper P ops o = some ⟨d, op, none⟩) : compOp P o = some op ∧ o.dst = d ∧ o.guard = none := by
  unfold compOper at h
  split at h
  · rename_i ao hao
    split at h
    · rename_i hg; cases h; exact ⟨hao, rfl, hg⟩
    · split at h <;> cases h
  · cases h

/-- A row of bytes that is laid and marked: two operations. -/
theorem plan_frz {Q : Post} {sp : S} {ops : Array Oper} {o1 o2 : Oper} {d1 sz : Nat} {d2 : Option Nat} {ps : List Opd} {rest : List AOper} {i1 i2 : Nat} {idx : List Nat} (ho1 : ops[i1]? = some o1) (ho2 : ops[i2]? = some o2)
    (h1 : compOper P ops o1 = some ⟨some d1, .bsl sz ps, none⟩) (h2 : compOper P ops o2 = some ⟨d2, .sls (.t d1), none⟩) (hspd1 : getTm sp.tm (some d1) = .unk) (hspd2 : getTm sp.tm d2 = .unk)
    (ih' : ∀ (s : S) (G : Gh) (w : World) (a : Act), plan O P Q sp rest s → Wr base w0 s.hp G w → Reps G w s.tm a.tmps.toList → DsRep G w s.ds a.defers → Reps G w sp.tm a.tmps.toList → wpOps P ops (Meets O base w0 s.hp G w Q) idx a w)
    {s : S} {G : Gh} {w : World} {a : Act} (h : plan O P Q sp (⟨some d1, .bslf sz ps, none⟩ :: ⟨d2, .sls (.t d1), none⟩ :: rest) s) (hw : Wr base w0 s.hp G w) (ht : Reps G w s.tm a.tmps.toList) (hds : DsRep G w s.ds a.defers) (hs : Reps G w sp.tm a.tmps.toList) :
    wpOps P ops (Meets O base w0 s.hp G w Q) (i1 :: i2 :: idx) a w := by
  obtain ⟨c1, e1, g1⟩ := compOper_none h1
  obtain ⟨c2, e2, g2⟩ := compOper_none h2
  obtain ⟨t, e, len, pps, inf, z, q1, q2, q3, q4, q5, q6, q7, rfl⟩ := bsl_inv c1
  obtain ⟨src, e', x, r1, r2, r3, r4⟩ := sls_inv c2
  simp only [plan, gdA, opR, rop] at h
  cases hrow : rowsA sz ((pps.toList.map fun p => opd p.2).map (ev s.tm)) with
  | none => rw [hrow] at h; exact h.elim
  | some rows =>
    rw [hrow] at h
    simp only [Option.map_some, thenK] at h
    obtain ⟨r, vs, k1, k2, k3, k4, k5⟩ := runs_bsl' (P := P) (H := s.hp) (t := t) (e := e) (sz := sz) (len := len) (ps := pps.toList) (rows := rows) hw q2 q3 q4 q5 q6 q7 (by simpa [List.map_map, Function.comp_def] using hrow) ht
    obtain ⟨f1, f2, f3⟩ := runs_newRow (e := e) (fr := (r.size, r.size + 1)) (cap := len) (tk := .frz) (cs := r) hw k3 k4 k5 (by omega) (.inr (.inr ⟨rfl, rfl⟩))
    rw [k2] at f1
    obtain ⟨t', rfl⟩ : ∃ t', x = .tmp t' := by
      cases x <;> simp only [opd, reduceCtorEq] at r2
      exact ⟨_, rfl⟩
    simp only [opd, Opd.t.injEq] at r2
    subst r2
    obtain ⟨dst1, op1, ty1, pos1, af1, gu1⟩ := o1
    obtain ⟨dst2, op2, ty2, pos2, af2, gu2⟩ := o2
    simp only at q1 r1 e1 e2 g1 g2
    subst q1 r1 e1 e2 g1 g2
    simp only [wpOps, ho1, ho2, Region.wanted, if_true]
    refine .inl ?_
    unfold Oper.wp
    have hrun1 : (execOp a.eval ⟨some t', .buildSlice t len pps, ty1, pos1, af1, none⟩).run P w = .ok (.value (.slice (some ⟨w.heap.size, 0, none⟩) len len)) (w.alloc (.cells r e)) := by
      have k1' := k1
      simp only [Array.toArray_toList] at k1'
      simp only [execOp, Sem.run_bind, k1', Result.andThen_ok, Sem.run_pure]
    rw [hrun1, Oper.upon_value]
    simp only [if_true]
    refine .inl ?_
    have htl : t' < s.tm.length ∨ s.tm.length ≤ t' := Nat.lt_or_ge _ _
    rcases htl with htl | htl
    · have hev : (a.put (some t') (.slice (some ⟨w.heap.size, 0, none⟩) len len)).eval (.tmp t') = .slice (some ⟨w.heap.size, 0, none⟩) len len := by
        have hl := ht.1
        simp only [Array.length_toList] at hl
        simp [Act.eval, Act.put, Array.getD_eq_getD_getElem?, Array.getElem?_setIfInBounds, ← hl, htl]
      have hsh : (w.alloc (.cells r e)).shape? w.heap.size = some (e, r.size) := by simp only [World.shape?, heap_push_eq]
      have hrun2 : (execOp (a.put (some t') (.slice (some ⟨w.heap.size, 0, none⟩) len len)).eval ⟨dst2, .convert src src (.tmp t'), ty2, pos2, af2, none⟩).run P (w.alloc (.cells r e)) = .ok (.value (.slice (some ⟨w.heap.size, 0, none⟩) len len)) (w.alloc (.cells r e (r.size, r.size + 1))) := by
        simp only [execOp, hev, convert, Sem.run_bind, run_underlying r3, run_underlying r4, Result.andThen_ok, beq_self_eq_true, markStringish, run_shape, hsh, run_freeze, Sem.run_pure, freeze_alloc]
      rw [hrun2, Oper.upon_value]
      have ht1 : Reps G (w.alloc (.cells r e (r.size, r.size + 1))) (setTm s.tm (some t') (.sl rows .frz)) (a.put (some t') (.slice (some ⟨w.heap.size, 0, none⟩) len len)).tmps.toList := Reps.put (ht.mono f3) f1 (some t')
      have hmv : ev (setTm s.tm (some t') (.sl rows .frz)) (.t t') = .sl rows .frz := by
        simp [ev, setTm, List.getD_eq_getElem?_getD, List.getElem?_set, htl]
      rw [hmv] at h
      simp only at h
      have ht2 := ht1.put f1 dst2
      have hs1 : Reps G (w.alloc (.cells r e (r.size, r.size + 1))) sp.tm (a.put (some t') (.slice (some ⟨w.heap.size, 0, none⟩) len len)).tmps.toList := Reps.put_unk (hs.mono f3) (some t') hspd1
      have hs2 := Reps.put_unk (u := .slice (some ⟨w.heap.size, 0, none⟩) len len) hs1 dst2 hspd2
      exact wpOps_mono_meets f3 (Fr.alloc _) (ih' ⟨setTm (setTm s.tm (some t') (.sl rows .frz)) dst2 (.sl rows .frz), s.hp, s.ds⟩ G _ _ h f2 ht2 (by rw [put_defers, put_defers]; exact hds.mono f3) hs2)
    · have hmv : ev (setTm s.tm (some t') (.sl rows .frz)) (.t t') = .unk := by
        simp [ev, setTm, List.getD_eq_getElem?_getD, List.getElem?_set, Nat.not_lt.2 htl, List.getElem?_eq_none htl]
      rw [hmv] at h
      exact h.elim

theorem plan_ok {Q : Post} {sp : S} {ops : Array Oper} : ∀ (n : Nat) (os : List Oper) (as : List AOper) (idx : List Nat), os.length ≤ n → os.length = idx.length → (∀ (k i : Nat) o, idx[k]? = some i → os[k]? = some o → ops[i]? = some o) → compOpers P ops os = some as →
    O.L base w0 → (∀ o ∈ as, getTm sp.tm o.dst = .unk) → ∀ (s : S) (G : Gh) (w : World) (a : Act), plan O P Q sp (fuseL as) s → Wr base w0 s.hp G w → Reps G w s.tm a.tmps.toList → DsRep G w s.ds a.defers → Reps G w sp.tm a.tmps.toList →
    wpOps P ops (Meets O base w0 s.hp G w Q) idx a w := by
  intro n
  induction n with
  | zero =>
    intro os as idx hn hl hi hc hL hsp s G w a h hw ht hds hs
    have : os = [] := List.eq_nil_of_length_eq_zero (by omega)
    subst this
    simp only [compOpers, Option.some.injEq] at hc
    subst hc
    have : idx = [] := List.eq_nil_of_length_eq_zero hl.symm
    subst this
    exact ⟨s, G, h, hw, GExt.refl _ _, ht, hds, Fr.refl _ _ _⟩
  | succ n ih =>
    intro os as idx hn hl hi hc hL hsp s G w a h hw ht hds hs
    cases os with
    | nil =>
      simp only [compOpers, Option.some.injEq] at hc
      subst hc
      have : idx = [] := List.eq_nil_of_length_eq_zero hl.symm
      subst this
      exact ⟨s, G, h, hw, GExt.refl _ _, ht, hds, Fr.refl _ _ _⟩
    | cons o os =>
      cases idx with
      | nil => simp at hl
      | cons i idx =>
        simp only [compOpers] at hc
        split at hc
        · rename_i ao as' hao has
          cases hc
          have hoi := hi 0 i o rfl rfl
          have single : plan O P Q sp (ao :: fuseL as') s → wpOps P ops (Meets O base w0 s.hp G w Q) (i :: idx) a w := fun h =>
            plan_step hoi hao hL (hsp ao (by simp)) (fun s G w a h hw ht hds hs => ih os as' idx (by simpa using hn) (by simpa using hl) (fun k i o h1 h2 => hi (k + 1) i o (by simpa using h1) (by simpa using h2)) has hL (fun o ho => hsp o (List.mem_cons_of_mem _ ho)) s G w a h hw ht hds hs) h hw ht hds hs
          cases os with
          | nil =>
            simp only [compOpers, Option.some.injEq] at has
            subst has
            exact single h
          | cons o2 os =>
            cases idx with
            | nil => simp at hl
            | cons i2 idx =>
              have has' := has
              simp only [compOpers] at has
              split at has
              · rename_i a2 as2 ha2 has2
                cases has
                simp only [fuseL] at h
                cases hf : fuse2 ao a2 with
                | none =>
                  rw [hf] at h
                  exact single h
                | some p =>
                  obtain ⟨b1, b2⟩ := p
                  rw [hf] at h
                  obtain ⟨d1, sz, ps, f1, f2, f3, f4⟩ := fuse2_inv hf
                  subst f3 f4
                  have hd2 := hsp a2 (by simp)
                  have hd1 := hsp ao (by simp)
                  rw [f1] at hao hd1
                  rw [f2] at ha2
                  exact plan_frz hoi (hi 1 i2 o2 rfl rfl) hao ha2 hd1 hd2 (fun s G w a h hw ht hds hs => ih os as2 idx (by simp at hn; omega) (by simpa using hl) (fun k i o h1 h2 => hi (k + 2) i o (by simpa using h1) (by simpa using h2)) has2 hL (fun o ho => hsp o (List.mem_cons_of_mem _ (List.mem_cons_of_mem _ ho))) s G w a h hw ht hds hs) h hw ht hds hs
              · cases has
        · cases hc

theorem AWp.region {Q : Post} {s : S} {id : Nat} {ops : Array Oper} {as : List AOper} (hc : compOpers P ops ops.toList = some as) (h : plan O P Q (forget s (fuseL as)) (fuseL as) s) : AWp O P (.region id ops false) Q s := by
  intro base w0 G w a hL h1 h2 h3
  rw [forget_fuse as.length as s (Nat.le_refl _)] at h
  refine wp_region ?_
  exact plan_ok ops.toList.length ops.toList as (List.range ops.size) (Nat.le_refl _) (by simp) (fun k i o h1 h2 => by
      rw [List.getElem?_range (by have := (List.getElem?_eq_some_iff.1 h1).1; simpa using this)] at h1
      cases h1
      simpa using h2) hc hL (forget_unk as s) s G w a h h1 h2 h3 (h2.forget as s)

/-! ### Calls -/
inductive ARes where
  | tmp (t : Nat)
  | cell (k : Option Nat) (t : Nat)

def compRes (P : Program) : List ResultVar → Option (List ARes)
  | [] => some []
  | .tmp t :: rest => (compRes P rest).map (.tmp t :: ·)
  | .cell t ty :: rest => match aggOf P ty, compRes P rest with
    | some k, some r => some (.cell k t :: r)
    | _, _ => none

def resA (s : S) : List ARes → Option (List AVal)
  | [] => some []
  | .tmp t :: rest => (resA s rest).map (s.tm.getD t .unk :: ·)
  | .cell k t :: rest => match loadA s.hp k (s.tm.getD t .unk), resA s rest with
    | some v, some r => some (v :: r)
    | _, _ => none

def one1 : List AVal → AVal
  | [v] => v
  | vs => .tup vs

def bodyA (rs : List ARes) (Q : ARet → Hp → Prop) : Post
  | .normal, s => s.ds = [] ∧ match resA s rs with | some vs => Q (.ret (one1 vs)) s.hp | none => False
  | .ret, s => s.ds = [] ∧ match resA s rs with | some vs => Q (.ret (one1 vs)) s.hp | none => False
  | .panic v, s => s.ds = [] ∧ Q (.panic v) s.hp
  | _, _ => False

theorem getD_rep {G : Gh} {w : World} {tm : List AVal} {a : Act} (h : Reps G w tm a.tmps.toList) (t : Nat) : Rep G w (tm.getD t .unk) (a.tmps.getD t undef) := ev_rep h (.tmp t)

theorem results_ok {G : Gh} {w : World} {s : S} {a : Act} (hw : Wr base w0 s.hp G w) (ht : Reps G w s.tm a.tmps.toList) : ∀ (rs : List ResultVar) (ars : List ARes) (vs : List AVal), compRes P rs = some ars → resA s ars = some vs →
    ∃ us : List Value, (rs.mapM fun r => (match r with
      | .tmp t => pure (a.tmps.getD t undef)
      | .cell c t => do loadVar t (← asAddr (a.tmps.getD c undef)) : Sem Value)).run P w = .ok us w ∧ Reps G w vs us := by
  intro rs
  induction rs with
  | nil =>
    intro ars vs hc hr
    simp only [compRes, Option.some.injEq] at hc; subst hc
    simp only [resA, Option.some.injEq] at hr; subst hr
    exact ⟨[], rfl, Reps.nil⟩
  | cons r rs ih =>
    intro ars vs hc hr
    cases r with
    | tmp t =>
      simp only [compRes] at hc
      cases hrs : compRes P rs with
      | none => simp [hrs] at hc
      | some ars' =>
        simp only [hrs, Option.map_some, Option.some.injEq] at hc; subst hc
        simp only [resA] at hr
        cases hv : resA s ars' with
        | none => simp [hv] at hr
        | some vs' =>
          simp only [hv, Option.map_some, Option.some.injEq] at hr; subst hr
          obtain ⟨us, h1, h2⟩ := ih ars' vs' hrs hv
          refine ⟨a.tmps.getD t undef :: us, ?_, Reps.cons (getD_rep ht t) h2⟩
          simp only [List.mapM_cons, Sem.run_bind, Sem.run_pure, Result.andThen_ok]
          rw [h1]; rfl
    | cell c ty =>
      simp only [compRes] at hc
      split at hc
      · rename_i k ars' hk hrs
        cases hc
        simp only [resA] at hr
        split at hr
        · rename_i v vs' hl hv
          cases hr
          obtain ⟨us, h1, h2⟩ := ih ars' vs' hrs hv
          obtain ⟨u, w', q1, q2, q3, q4, q5⟩ := runs_load (P := P) hw hk (getD_rep ht c) hl
          have hrun : (asAddr (a.tmps.getD c undef) >>= fun x => loadVar ty x).run P w = .ok u w ∧ Rep G w v u := by
            have hg := getD_rep ht c
            unfold loadA at hl
            split at hl
            · rename_i cs hcs
              rw [hcs] at hg
              obtain ⟨b, off, vs, hv, hr, hi, hb⟩ := hg.ip_inv
              obtain ⟨u2, e1, e2⟩ := run_loadVar hk hr (fun i v hv => (hi i v hv).1) hl
              rw [hv] at q1 ⊢
              simp only [Instr.loadAt, Instr.sureAddr, Sem.run_bind, Sem.run_pure, Result.andThen_ok, e1] at q1
              cases q1
              simp only [asAddr, Sem.run_bind, Sem.run_pure, Result.andThen_ok, e1]
              exact ⟨trivial, e2⟩
            · rename_i i o hcs
              rw [hcs] at hg
              split at hl
              · rename_i cs hH
                obtain ⟨b, hv, hst⟩ := hg.ref_inv
                obtain ⟨b', vs, ty', ex, h1, h2, h3, h4, h5, h6⟩ := hw.ob i _ hH
                rw [hst] at h1; cases h1
                obtain ⟨u2, e1, e2⟩ := run_loadVar hk (h5.drop o) (cell_of_blockX h4 o) hl
                rw [hv] at q1 ⊢
                simp only [Instr.loadAt, Instr.sureAddr, Sem.run_bind, Sem.run_pure, Result.andThen_ok, e1] at q1
                cases q1
                simp only [asAddr, Sem.run_bind, Sem.run_pure, Result.andThen_ok, e1]
                exact ⟨trivial, e2⟩
              · cases hl
            · cases hl
          refine ⟨u :: us, ?_, Reps.cons hrun.2 h2⟩
          simp only [List.mapM_cons, Sem.run_bind] at h1 hrun ⊢
          rw [hrun.1]
          simp only [Result.andThen_ok]
          rw [h1]; rfl
        · cases hr
      · cases hc

theorem results_run {G : Gh} {w : World} {s : S} {a : Act} {fn : Func} {ars : List ARes} {vs : List AVal} (hw : Wr base w0 s.hp G w) (ht : Reps G w s.tm a.tmps.toList) (hc : compRes P fn.results.toList = some ars) (hr : resA s ars = some vs) :
    ∃ u, (results fn a.tmps).run P w = .ok u w ∧ Rep G w (one1 vs) u := by
  obtain ⟨us, h1, h2⟩ := results_ok (P := P) hw ht fn.results.toList ars vs hc hr
  have harr : (fn.results.mapM fun r => (match r with
      | .tmp t => pure (a.tmps.getD t undef)
      | .cell c t => do loadVar t (← asAddr (a.tmps.getD c undef)) : Sem Value)).run P w = .ok us.toArray w := by
    rw [Array.mapM_eq_mapM_toList]
    simp only [Sem.run_map, h1, Result.andThen_ok]
  refine ⟨if h : us.toArray.size = 1 then us.toArray[0] else .tuple us.toArray, ?_, ?_⟩
  · unfold results
    simp only [Sem.run_bind]
    erw [harr]
    rfl
  · rcases us with _ | ⟨u, us⟩
    · have : vs = [] := List.eq_nil_of_length_eq_zero h2.1
      subst this
      exact Rep.tup' Reps.nil
    · rcases us with _ | ⟨u2, us⟩
      · rcases vs with _ | ⟨v, vs⟩
        · have := h2.1; simp at this
        · rcases vs with _ | ⟨v2, vs⟩
          · exact h2.head
          · have := h2.1; simp at this
      · have hl : vs.length = (u :: u2 :: us).length := h2.1
        rcases vs with _ | ⟨v, vs⟩
        · simp at hl
        · rcases vs with _ | ⟨v2, vs⟩
          · simp at hl
          · rw [dif_neg (by simp)]
            exact Rep.tup' h2

/-- A function with a body and no deferred calls. -/
theorem acalls_of_wp {f : FuncId} {fn : Func} {c : Code} {args : List AVal} {H : Hp} {Q : ARet → Hp → Prop} {ars : List ARes} {n : Nat} (hf : P.funcs[f]? = some fn) (hb : fn.body = some c) (hn : (fn.name == "runtime.NumGoroutine") = false)
    (hr : compRes P fn.results.toList = some ars) (hnt : fn.ntmps = n)
    (h : AWp O P c (bodyA ars Q) ⟨args ++ List.replicate (n - args.length) (.tup []), H, []⟩) : ACalls O P f args H Q := by
  intro base w0 G w vs hL hw hvs
  have hcall : (callFunc f vs.toArray).run P w = .ok (.enter f vs.toArray) w := by
    simp only [callFunc, Sem.run_bind, run_program, Result.andThen_ok, hf, hn, hb]
    rfl
  refine .inl ⟨hcall, calls_of_wp hf hb ?_⟩
  have hlen := hvs.1
  have ht : Reps G w (args ++ List.replicate (n - args.length) (.tup [])) ({ tmps := vs.toArray ++ Array.replicate (fn.ntmps - vs.toArray.size) undef, defers := [] } : Act).tmps.toList := by
    have e : (vs.toArray ++ Array.replicate (fn.ntmps - vs.toArray.size) undef).toList = vs ++ List.replicate (n - args.length) undef := by
      simp [hnt, hlen]
    simp only [e]
    refine hvs.append ⟨by simp, fun i a v ha hv => ?_⟩
    rw [List.getElem?_replicate] at ha hv
    split at ha
    · rename_i hi
      rw [if_pos hi] at hv
      cases ha; cases hv
      exact Rep.tup' Reps.nil
    · cases ha
  refine Code.wp_mono ?_ (h base w0 G w _ hL hw ht trivial)
  intro e a' w' hm
  cases e with
  | normal =>
    obtain ⟨s', G', ⟨h1, h2⟩, hg⟩ := hm
    cases hra : resA s' ars with
    | none => rw [hra] at h2; exact h2.elim
    | some vs' =>
      rw [hra] at h2
      obtain ⟨u, e1, e2⟩ := results_run (P := P) hg.wr hg.tm hr hra
      have hd : a'.defers = [] := by have := hg.ds; rw [h1] at this; cases hdd : a'.defers with | nil => rfl | cons x y => rw [hdd] at this; exact this.elim
      exact ⟨hd, u, e1, _, s'.hp, G', e2, h2, hg.wr, hg.ext, hg.fr⟩
  | ret =>
    obtain ⟨s', G', ⟨h1, h2⟩, hg⟩ := hm
    cases hra : resA s' ars with
    | none => rw [hra] at h2; exact h2.elim
    | some vs' =>
      rw [hra] at h2
      obtain ⟨u, e1, e2⟩ := results_run (P := P) hg.wr hg.tm hr hra
      have hd : a'.defers = [] := by have := hg.ds; rw [h1] at this; cases hdd : a'.defers with | nil => rfl | cons x y => rw [hdd] at this; exact this.elim
      exact ⟨hd, u, e1, _, s'.hp, G', e2, h2, hg.wr, hg.ext, hg.fr⟩
  | panic ch =>
    obtain ⟨v, u, s', G', e1, e2, ⟨h1, h2⟩, hg⟩ := hm
    have hd : a'.defers = [] := by have := hg.ds; rw [h1] at this; cases hdd : a'.defers with | nil => rfl | cons x y => rw [hdd] at this; exact this.elim
    exact ⟨hd, v, u, s'.hp, G', e1, e2, h2, hg.wr, hg.ext, hg.fr⟩
  | outgrown => exact hm
  | exit id => obtain ⟨s', G', h1, hg⟩ := hm; exact h1.elim
  | goto l => obtain ⟨s', G', h1, hg⟩ := hm; exact h1.elim
end
end Go.Eng

/- Code, compiled; regions whose order Go leaves open: what is asked of them. -/
set_option linter.unusedVariables false
set_option linter.unusedSimpArgs false
namespace Go.Eng
open Go.RowKit (Below)

/-! ### What an operation looks at -/
def oo : Option Opd → List Opd
  | some x => [x]
  | none => []

def AOp.opds : AOp → List Opd
  | .mv x | .load _ x | .nilck x | .isnil _ _ x | .not x | .neg x | .cint _ x | .cstr x | .b2s x | .s2b x | .sls x | .mkif _ x | .faddr _ x | .field _ _ x | .ext x _ | .lenS x | .lenL x | .tas _ _ _ x | .lenM x | .box x | .pnc x => [x]
  | .pick c x y => [c, x, y]
  | .build _ ps => ps.map (·.2.2)
  | .bin _ x y | .beq _ x y | .sleq _ _ x y | .iaddr _ x y | .ixS x y | .look _ _ _ x y | .maxi x y | .mini x y | .store _ x y | .app _ _ _ x y | .apps _ _ x y => [x, y]
  | .mkfn _ f c => f ++ c
  | .slS x lo hi => x :: (oo lo ++ oo hi)
  | .slL _ x lo hi mx => x :: (oo lo ++ oo hi ++ oo mx)
  | .bsl _ ps | .bslf _ ps => ps
  | .mset _ m k v => [m, k, v]
  | .call f args | .dfr f args => f :: args
  | .alloc _ | .allocT _ _ | .mkmap => []

theorem map_congr' {tm tm' : List AVal} {xs : List Opd} (h : ∀ x ∈ xs, ev tm x = ev tm' x) : xs.map (ev tm) = xs.map (ev tm') := List.map_congr_left h
theorem omap_congr {tm tm' : List AVal} {x : Option Opd} (h : ∀ y ∈ oo x, ev tm y = ev tm' y) : x.map (ev tm) = x.map (ev tm') := by
  cases x with
  | none => rfl
  | some x => simp [h x (by simp [oo])]

theorem rop_congr {o : AOp} {tm tm' : List AVal} {H : Hp} (h : ∀ x ∈ o.opds, ev tm x = ev tm' x) : rop o tm H = rop o tm' H := by
  cases o
  case build z ps =>
    have e : ∀ p ∈ ps, (p.1, p.2.1, ev tm p.2.2) = (p.1, p.2.1, ev tm' p.2.2) := fun p hp => by
      rw [h p.2.2 (List.mem_map.2 ⟨p, hp, rfl⟩)]
    simp only [rop, List.map_congr_left e]
  case mkfn fn f c =>
    simp only [rop, map_congr' (fun x hx => h x (List.mem_append.2 (.inl hx))), map_congr' (fun x hx => h x (List.mem_append.2 (.inr hx)))]
  case bsl sz ps =>
    have e : ps.map (ev tm) = ps.map (ev tm') := map_congr' h
    simp only [rop, e]
  case bslf sz ps =>
    have e : ps.map (ev tm) = ps.map (ev tm') := map_congr' h
    simp only [rop, e]
  case slS x lo hi =>
    simp only [AOp.opds, List.mem_cons, List.mem_append] at h
    simp only [rop, h x (.inl rfl), omap_congr (fun y hy => h y (.inr (.inl hy))), omap_congr (fun y hy => h y (.inr (.inr hy)))]
  case slL sz x lo hi mx =>
    simp only [AOp.opds, List.mem_cons, List.mem_append] at h
    simp only [rop, h x (.inl rfl), omap_congr (fun y hy => h y (.inr (.inl (.inl hy)))), omap_congr (fun y hy => h y (.inr (.inl (.inr hy)))), omap_congr (fun y hy => h y (.inr (.inr hy)))]
  all_goals (simp only [AOp.opds, List.mem_cons, List.not_mem_nil, or_false, forall_eq_or_imp, forall_eq] at h; simp only [rop, h])

theorem opR_congr {O : Cfg} {P : Program} {o : AOp} {tm tm' : List AVal} {H : Hp} {ds : List ADef} {R E : Res} (h : ∀ x ∈ o.opds, ev tm x = ev tm' x) (hh : opR O P o tm H ds R E) : opR O P o tm' H ds R E := by
  have hr := rop_congr (H := H) h
  cases o
  case call f args =>
    simp only [AOp.opds, List.mem_cons] at h
    simp only [opR, ← h f (.inl rfl), ← map_congr' (fun x hx => h x (.inr hx))]
    exact hh
  case dfr f args =>
    simp only [AOp.opds, List.mem_cons] at h
    simp only [opR, ← h f (.inl rfl), ← map_congr' (fun x hx => h x (.inr hx))]
    exact hh
  case alloc z => exact hh
  case allocT t z => exact hh
  case mkmap => exact hh
  case box x => simp only [opR, ← h x (by simp [AOp.opds])]; exact hh
  case store n x v => simp only [opR, ← h x (by simp [AOp.opds]), ← h v (by simp [AOp.opds])]; exact hh
  case mset kk m k v => simp only [opR, ← h m (by simp [AOp.opds]), ← h k (by simp [AOp.opds]), ← h v (by simp [AOp.opds])]; exact hh
  case app sz by' e x y => simp only [opR, ← h x (by simp [AOp.opds]), ← h y (by simp [AOp.opds])]; exact hh
  case apps by' e x y => simp only [opR, ← h x (by simp [AOp.opds]), ← h y (by simp [AOp.opds])]; exact hh
  case pnc x => simp only [opR, ← h x (by simp [AOp.opds])]; exact hh
  all_goals (simp only [opR] at hh ⊢; rw [← hr]; exact hh)

theorem app0_mono {sz by' : Nat} {e : TypeId} {x y : AVal} {H : Hp} {ds : List ADef} {R R' : Res} (h : ∀ v H' ds', R v H' ds' → R' v H' ds') (hh : app0 sz by' e x y H ds R) : app0 sz by' e x y H ds R' := by
  simp only [app0] at hh ⊢
  split at hh
  · split at hh
    · rename_i he; rw [if_pos he]; exact h _ _ _ hh
    · rename_i he
      rw [if_neg he]
      obtain ⟨l1, l2, l3, hh⟩ := hh
      refine ⟨l1, l2, l3, ?_⟩
      split at hh
      · exact fun id hid => h _ _ _ (hh id hid)
      · exact fun id hid => h _ _ _ (hh id hid)
      · obtain ⟨k1, k2, o, k3, k4⟩ := hh
        exact ⟨k1, k2, o, k3, h _ _ _ k4⟩
      · exact hh
  · exact hh

theorem appM_mono {sz by' : Nat} {e : TypeId} {x y : AVal} {H : Hp} {ds : List ADef} {R R' : Res} (h : ∀ v H' ds', R v H' ds' → R' v H' ds') (hh : appM sz by' e x y H ds R) : appM sz by' e x y H ds R' := by
  unfold appM at hh ⊢
  split at hh
  · obtain ⟨l0, l1, l2, l3, l4, cs, o, l5, l6, hh⟩ := hh
    exact ⟨l0, l1, l2, l3, l4, cs, o, l5, l6, fun id hid => h _ _ _ (hh id hid)⟩
  · obtain ⟨l0, l1, l2, l3, hh⟩ := hh
    exact ⟨l0, l1, l2, l3, fun id hid => h _ _ _ (hh id hid)⟩
  · exact hh
theorem appP_mono {sz by' : Nat} {e : TypeId} {x y : AVal} {H : Hp} {ds : List ADef} {R R' : Res} (h : ∀ v H' ds', R v H' ds' → R' v H' ds') (hh : appP sz by' e x y H ds R) : appP sz by' e x y H ds R' :=
  hh.imp (app0_mono h) (appM_mono h)

theorem opR_mono {O : Cfg} {P : Program} {o : AOp} {tm : List AVal} {H : Hp} {ds : List ADef} {R R' E : Res} (h : ∀ v H' ds', R v H' ds' → R' v H' ds') (hh : opR O P o tm H ds R E) : opR O P o tm H ds R' E := by
  have hq : (match rop o tm H with | some v => R v H ds | none => False) → (match rop o tm H with | some v => R' v H ds | none => False) := by
    cases rop o tm H with
    | none => exact id
    | some v => exact h _ _ _
  cases o
  case call f args =>
    simp only [opR] at hh ⊢
    split at hh
    · exact hh.mono fun r H' hc => by cases r with
        | ret v => exact h _ _ _ hc
        | panic v => exact hc
    · exact hh
  case dfr f args =>
    simp only [opR] at hh ⊢
    split at hh
    · exact h _ _ _ hh
    · exact hh
  case alloc z => exact fun id hid => h _ _ _ (hh id hid)
  case allocT t z => exact fun id hid => h _ _ _ (hh id hid)
  case mkmap => exact fun id hid => h _ _ _ (hh id hid)
  case box x => exact ⟨hh.1, fun id hid => h _ _ _ (hh.2 id hid)⟩
  case store n x v =>
    simp only [opR] at hh ⊢
    split at hh
    · exact h _ _ _ hh
    · exact hh
  case mset kk m k v =>
    simp only [opR] at hh ⊢
    split at hh
    · exact h _ _ _ hh
    · exact hh
  case app sz by' e x y =>
    simp only [opR] at hh ⊢
    exact appP_mono h hh
  case apps by' e x y =>
    simp only [opR, appsP] at hh ⊢
    split at hh
    · exact appP_mono h hh
    · exact hh
  case pnc x => exact hh
  all_goals (simp only [opR] at hh ⊢; exact hq hh)

/-- Does it read what can be written? -/
def AOp.heapy : AOp → Bool
  | .load _ _ | .look _ _ _ _ _ | .lenM _ => true
  | _ => false

theorem rop_pure {o : AOp} (h : o.heapy = false) (tm : List AVal) (H H' : Hp) : rop o tm H = rop o tm H' := by
  cases o <;> first | rfl | (simp [AOp.heapy] at h; done)

/-! ### Regions whose order is open -/
structure AOperD where
  op : AOper
  chk : List AOper

def chkOk (s : S) (r : AOper) : Prop :=
  match gdA r.gd s.tm with
  | some true => rop r.op s.tm s.hp = some (getTm s.tm r.dst)
  | _ => True

def chkAll (s : S) : List AOper → Prop
  | [] => True
  | r :: rest => chkOk s r ∧ chkAll s rest

def planD (O : Cfg) (P : Program) (Q : Post) (sp : S) : List AOperD → S → Prop
  | [], s => Q .normal s
  | o :: rest, s => match gdA o.op.gd s.tm with
    | some true => opR O P o.op.op s.tm s.hp s.ds (thenK s o.op.dst (fun s' => chkAll s' o.chk ∧ planD O P Q sp rest s')) (elseQ sp Q)
    | some false => planD O P Q sp rest (s.put o.op.dst (.tup []))
    | none => False

inductive Cl where
  | W
  | A
  | R
  deriving DecidableEq

def cls : AOp → Cl
  | .alloc _ | .mkmap => .A
  | .allocT _ _ | .box _ | .store _ _ _ | .mset _ _ _ _ | .app _ _ _ _ _ | .apps _ _ _ _ | .call _ _ | .dfr _ _ | .pnc _ => .W
  | _ => .R

/-- One operation of such a region. -/
structure DRec where
  i : Nat
  anc : Nat
  op : AOper
  deps : List Nat

def optTmp : Opd → List Nat
  | .t i => [i]
  | _ => []
def AOper.ins (o : AOper) : List Nat := o.op.opds.flatMap optTmp ++ (match o.gd with | some (t, _) => [t] | none => [])

/-- The masks of what comes surely before. -/
def ancMask (acc : List Nat) : List Edge → Nat
  | [] => 0
  | e :: es => if Region.binds .any e = true then 2 ^ e.on ||| acc.getD e.on 0 ||| ancMask acc es else ancMask acc es
def ancs : List Oper → List Nat → List Nat
  | [], acc => acc
  | o :: os, acc => ancs os (acc ++ [ancMask acc o.after.toList])

def depsOf (o : Oper) : List Nat := (o.after.toList.filter fun e => Region.binds .any e).map (·.on)

def mkRec (P : Program) (ops : Array Oper) (an : List Nat) (i : Nat) : Option DRec :=
  match ops[i]? with
  | some o => (compOper P ops o).map fun ao => ⟨i, an.getD i 0, ao, depsOf o⟩
  | none => none

def mkRecs (P : Program) (ops : Array Oper) (an : List Nat) : List Nat → Option (List DRec)
  | [] => some []
  | i :: is => match mkRec P ops an i, mkRecs P ops an is with
    | some r, some rs => some (r :: rs)
    | _, _ => none

/-- x stands ahead of y in the order that is taken. -/
def pairOk (x y : DRec) : Bool :=
  x.i != y.i && !(x.deps.contains y.i) &&
  (match x.op.dst with
    | some d => y.op.dst != some d && (!(y.op.ins.contains d) || y.anc.testBit x.i)
    | none => true) &&
  (match y.op.dst with
    | some d => !(x.op.ins.contains d)
    | none => true) &&
  (match cls x.op.op, cls y.op.op with
    | .R, _ => true
    | _, .A => true
    | _, _ => y.anc.testBit x.i)

def selfOk (n : Nat) (x : DRec) : Bool :=
  x.i < n && x.deps.all (· < n) && !(x.deps.contains x.i) && (match x.op.dst with | some d => !(x.op.ins.contains d) | none => true) && (match cls x.op.op with | .A => x.op.gd.isNone && x.op.dst.isSome | _ => true)

def pairsOk (n : Nat) : List DRec → Bool
  | [] => true
  | x :: rest => selfOk n x && rest.all (pairOk x) && pairsOk n rest

def attach (before : List DRec) : List DRec → List AOperD
  | [] => []
  | x :: rest => ⟨x.op, (before.filter fun y => y.op.op.heapy && !(x.anc.testBit y.i) && (cls x.op.op == .W)).map (·.op)⟩ :: attach (before ++ [x]) rest

def compDraw (P : Program) (ops : Array Oper) (κ : List Nat) : Option (List AOperD) :=
  match mkRecs P ops (ancs ops.toList []) κ with
  | some rs => if ((List.range ops.size).all fun j => rs.any fun r => r.i == j) = true ∧ pairsOk ops.size rs = true then some (attach [] rs) else none
  | none => none

/-! ### Code -/
inductive ACode where
  | skip
  | seq (a b : ACode)
  | cond (o : Opd) (dr : Bool) (a b : ACode)
  | block (id : Nat) (b : ACode)
  | loop (b : ACode)
  | exit (id : Nat)
  | goto (l : Nat)
  | label (l : Nat)
  | scope (b : ACode)
  | ret
  | reg (as : List AOper) (live : List Nat)
  | dreg (as : List AOperD) (live : List Nat)

/-- For each region: the order that is taken; which slots are needed behind it. Beside the number 999999: the slots that are forgotten behind a branch that asks for them. -/
abbrev Tab := List (Nat × List Nat × List Nat)

def kap (ks : Tab) (id : Nat) : List Nat × List Nat :=
  match ks with
  | [] => ([], [])
  | (i, l) :: rest => if i = id then l else kap rest id

def dropS (ks : Tab) : Opd → Bool
  | .t i => (kap ks 999999).1.contains i
  | _ => false

def compCode (P : Program) (ks : Tab) : Code → Option ACode
  | .skip => some .skip
  | .ret => some .ret
  | .exit id => some (.exit id)
  | .goto l => some (.goto l)
  | .label l => some (.label l)
  | .block id b => (compCode P ks b).map (.block id)
  | .loop b => (compCode P ks b).map .loop
  | .scope b => (compCode P ks b).map .scope
  | .seq a b => match compCode P ks a, compCode P ks b with
    | some a, some b => some (.seq a b)
    | _, _ => none
  | .cond c a b => match compCode P ks a, compCode P ks b with
    | some a, some b => some (.cond (opd c) (dropS ks (opd c)) a b)
    | _, _ => none
  | .region id ops false => (compOpers P ops ops.toList).map fun as => .reg (fuseL as) (kap ks id).2
  | .region id ops true => (compDraw P ops (kap ks id).1).map fun as => .dreg as (kap ks id).2
  | _ => none

/-- The other slots are forgotten. -/
def killTm (d : List Nat) (tm : List AVal) : List AVal := tm.mapIdx fun i v => if d.contains i = true then v else .unk

def forgetD (s : S) : List AOperD → S
  | [] => s
  | o :: rest => forgetD { s with tm := setTm s.tm o.op.dst .unk } rest

end Go.Eng

/- Regions whose order Go leaves open: the plan holds whatever the order. -/
set_option linter.unusedVariables false
set_option linter.unusedSimpArgs false
namespace Go.Eng
open Go.RowKit (Below)

def LS (listed : Array Bool) (j : Nat) : Prop := listed.getD j false = true

/-- Whatever has come up, all that it waits for has come up. -/
def DC (ops : Array Oper) (listed : Array Bool) : Prop := ∀ i o, ops[i]? = some o → LS listed i → ∀ e ∈ o.after, Region.binds .any e = true → LS listed e.on

structure Stat (P : Program) (ops : Array Oper) (rs : List DRec) : Prop where
  all : ∀ j, j < ops.size → ∃ (k : Nat) (x : DRec), rs[k]? = some x ∧ x.i = j
  recs : ∀ (k : Nat) x, rs[k]? = some x → ∃ o, ops[x.i]? = some o ∧ compOper P ops o = some x.op ∧ x.deps = depsOf o
  anc : ∀ (listed : Array Bool), DC ops listed → ∀ (k : Nat) x o, rs[k]? = some x → ops[x.i]? = some o → (∀ e ∈ o.after, Region.binds .any e = true → LS listed e.on) → ∀ j, x.anc.testBit j = true → LS listed j
  pair : ∀ (k l : Nat) x y, k < l → rs[k]? = some x → rs[l]? = some y → pairOk x y = true
  self : ∀ (k : Nat) x, rs[k]? = some x → selfOk ops.size x = true

theorem ancMask_bit {acc : List Nat} {j : Nat} : ∀ {es : List Edge}, (ancMask acc es).testBit j = true → ∃ e ∈ es, Region.binds .any e = true ∧ (j = e.on ∨ (acc.getD e.on 0).testBit j = true)
  | [], h => by simp [ancMask] at h
  | e :: es, h => by
    simp only [ancMask] at h
    split at h
    · rename_i hb
      simp only [Nat.testBit_or, Bool.or_eq_true] at h
      rcases h with (h | h) | h
      · refine ⟨e, by simp, hb, .inl ?_⟩
        rw [Nat.testBit_two_pow] at h
        simpa using (of_decide_eq_true h).symm
      · exact ⟨e, by simp, hb, .inr h⟩
      · obtain ⟨e', h1, h2, h3⟩ := ancMask_bit h
        exact ⟨e', by simp [h1], h2, h3⟩
    · obtain ⟨e', h1, h2, h3⟩ := ancMask_bit h
      exact ⟨e', by simp [h1], h2, h3⟩

theorem ancs_len : ∀ (os : List Oper) (acc : List Nat), (ancs os acc).length = acc.length + os.length
  | [], acc => by simp [ancs]
  | o :: os, acc => by simp [ancs, ancs_len os]; omega
theorem ancs_old : ∀ (os : List Oper) (acc : List Nat) (i : Nat), i < acc.length → (ancs os acc).getD i 0 = acc.getD i 0
  | [], acc, i, h => rfl
  | o :: os, acc, i, h => by
    simp only [ancs]
    rw [ancs_old os _ i (by simp; omega)]
    simp [List.getD_eq_getElem?_getD, List.getElem?_append_left h]
theorem ancs_at : ∀ (os : List Oper) (acc : List Nat) (k : Nat) (o : Oper), os[k]? = some o → (ancs os acc).getD (acc.length + k) 0 = ancMask ((ancs os acc).take (acc.length + k)) o.after.toList
  | [], acc, k, o, h => by simp at h
  | o' :: os, acc, 0, o, h => by
    simp only [List.getElem?_cons_zero, Option.some.injEq] at h
    subst h
    simp only [ancs, Nat.add_zero]
    rw [ancs_old os _ _ (by simp)]
    have : (ancs os (acc ++ [ancMask acc o'.after.toList])).take acc.length = acc := by
      apply List.ext_getElem?
      intro i
      rw [List.getElem?_take]
      split
      · rename_i hi
        have h1 := ancs_old os (acc ++ [ancMask acc o'.after.toList]) i (by simp; omega)
        have hl : i < (ancs os (acc ++ [ancMask acc o'.after.toList])).length := by rw [ancs_len]; simp; omega
        simp only [List.getD_eq_getElem?_getD, List.getElem?_eq_getElem hl, List.getElem?_append_left hi, List.getElem?_eq_getElem hi, Option.getD_some] at h1
        rw [List.getElem?_eq_getElem hl, List.getElem?_eq_getElem hi, h1]
      · rename_i hi
        rw [List.getElem?_eq_none (by omega)]
    rw [this]
    simp [List.getD_eq_getElem?_getD]
  | o' :: os, acc, k + 1, o, h => by
    have := ancs_at os (acc ++ [ancMask acc o'.after.toList]) k o (by simpa using h)
    simp only [List.length_append, List.length_cons, List.length_nil] at this
    simp only [ancs]
    rw [show acc.length + (k + 1) = acc.length + (0 + 1) + k from by omega]
    exact this

theorem ancs_closed {ops : Array Oper} {listed : Array Bool} (hd : DC ops listed) : ∀ (i : Nat) (o : Oper), ops[i]? = some o → (∀ e ∈ o.after, Region.binds .any e = true → LS listed e.on) →
    ∀ j, ((ancs ops.toList []).getD i 0).testBit j = true → LS listed j := by
  intro i
  induction i using Nat.strongRecOn with
  | _ i ih =>
    intro o ho he j hj
    have hat := ancs_at ops.toList [] i o (by simpa using ho)
    simp only [List.length_nil, Nat.zero_add] at hat
    rw [hat] at hj
    obtain ⟨e, h1, h2, h3⟩ := ancMask_bit hj
    have hL := he e (by simpa using h1) h2
    rcases h3 with h3 | h3
    · rw [h3]; exact hL
    · rcases Nat.lt_or_ge e.on i with hlt | hge
      · have e1 : ((ancs ops.toList []).take i).getD e.on 0 = (ancs ops.toList []).getD e.on 0 := by
          simp [List.getD_eq_getElem?_getD, List.getElem?_take, hlt]
        rw [e1] at h3
        have hlt' : e.on < ops.size := by have := (Array.getElem?_eq_some_iff.1 ho).1; omega
        exact ih e.on hlt ops[e.on] (Array.getElem?_eq_getElem hlt') (fun e' h1' h2' => hd e.on _ (Array.getElem?_eq_getElem hlt') hL e' h1' h2') j h3
      · have e1 : ((ancs ops.toList []).take i).getD e.on 0 = 0 := by
          simp [List.getD_eq_getElem?_getD, List.getElem?_take, Nat.not_lt.2 hge]
        rw [e1] at h3
        simp at h3

theorem mkRecs_get {P : Program} {ops : Array Oper} {an : List Nat} : ∀ {is : List Nat} {rs : List DRec}, mkRecs P ops an is = some rs → ∀ (k : Nat) x, rs[k]? = some x → ∃ i, mkRec P ops an i = some x
  | [], rs, h, k, x, hx => by simp only [mkRecs, Option.some.injEq] at h; subst h; simp at hx
  | i :: is, rs, h, k, x, hx => by
    simp only [mkRecs] at h
    split at h
    · rename_i r rs' h1 h2
      cases h
      cases k with
      | zero => simp at hx; subst hx; exact ⟨i, h1⟩
      | succ k => exact mkRecs_get h2 k x (by simpa using hx)
    · cases h

theorem pairs_get {n : Nat} : ∀ {rs : List DRec}, pairsOk n rs = true → (∀ (k l : Nat) x y, k < l → rs[k]? = some x → rs[l]? = some y → pairOk x y = true) ∧ ∀ (k : Nat) x, rs[k]? = some x → selfOk n x = true
  | [], h => ⟨fun k l x y _ hx => by simp at hx, fun k x hx => by simp at hx⟩
  | r :: rs, h => by
    simp only [pairsOk, Bool.and_eq_true] at h
    obtain ⟨⟨h1, h2⟩, h3⟩ := h
    obtain ⟨i1, i2⟩ := pairs_get h3
    refine ⟨fun k l x y hkl hx hy => ?_, fun k x hx => ?_⟩
    · cases k with
      | zero =>
        simp at hx; subst hx
        cases l with
        | zero => omega
        | succ l => exact List.all_eq_true.1 h2 y (List.mem_of_getElem? (by simpa using hy))
      | succ k =>
        cases l with
        | zero => omega
        | succ l => exact i1 k l x y (by omega) (by simpa using hx) (by simpa using hy)
    · cases k with
      | zero => simp at hx; subst hx; exact h1
      | succ k => exact i2 k x (by simpa using hx)

theorem stat_of {P : Program} {ops : Array Oper} {κ : List Nat} {as : List AOperD} (h : compDraw P ops κ = some as) : ∃ rs, Stat P ops rs ∧ as = attach [] rs := by
  unfold compDraw at h
  split at h
  · rename_i rs hrs
    split at h
    · rename_i hc
      obtain ⟨c1, c2⟩ := hc
      cases h
      obtain ⟨p1, p2⟩ := pairs_get c2
      refine ⟨rs, ⟨fun j hj => ?_, fun k x hx => ?_, fun listed hd k x o hx ho he j hj => ?_, p1, p2⟩, rfl⟩
      · have := List.all_eq_true.1 c1 j (List.mem_range.2 hj)
        obtain ⟨x, hx, he⟩ := List.any_eq_true.1 this
        obtain ⟨k, hk⟩ := List.mem_iff_getElem?.1 hx
        exact ⟨k, x, hk, by simpa using he⟩
      · obtain ⟨i, hi⟩ := mkRecs_get hrs k x hx
        unfold mkRec at hi
        split at hi
        · rename_i o ho
          cases hco : compOper P ops o with
          | none => simp [hco] at hi
          | some ao =>
            simp only [hco, Option.map_some, Option.some.injEq] at hi
            subst hi
            exact ⟨o, ho, hco, rfl⟩
        · cases hi
      · obtain ⟨i, hi⟩ := mkRecs_get hrs k x hx
        unfold mkRec at hi
        split at hi
        · rename_i o' ho'
          cases hco : compOper P ops o' with
          | none => simp [hco] at hi
          | some ao =>
            simp only [hco, Option.map_some, Option.some.injEq] at hi
            subst hi
            exact ancs_closed hd _ o ho he j hj
        · cases hi
    · cases h
  · cases h

theorem attach_get : ∀ (rs : List DRec) (before : List DRec) (k : Nat) (x : DRec), rs[k]? = some x →
    (attach before rs)[k]? = some ⟨x.op, ((before ++ rs.take k).filter fun y => y.op.op.heapy && !(x.anc.testBit y.i) && (cls x.op.op == .W)).map (·.op)⟩
  | [], before, k, x, h => by simp at h
  | r :: rs, before, 0, x, h => by simp at h; subst h; simp [attach]
  | r :: rs, before, k + 1, x, h => by
    simp only [attach, List.getElem?_cons_succ]
    rw [attach_get rs (before ++ [r]) k x (by simpa using h)]
    simp
theorem attach_none : ∀ (rs : List DRec) (before : List DRec) (k : Nat), rs[k]? = none → (attach before rs)[k]? = none
  | [], before, k, h => by simp [attach]
  | r :: rs, before, 0, h => by simp at h
  | r :: rs, before, k + 1, h => by
    simp only [attach, List.getElem?_cons_succ]
    exact attach_none rs _ k (by simpa using h)

theorem rop_fresh {o : AOp} {tm : List AVal} {H : Hp} {id : Nat} {ob : Ob} {v : AVal} (hid : H id = none) (h : rop o tm H = some v) : rop o tm (H.upd id ob) = some v := by
  have key : ∀ i o', H i = some o' → (H.upd id ob) i = some o' := fun i o' hi => by
    rw [Hp.upd_ne]; exact hi
    intro e; subst e; rw [hid] at hi; cases hi
  cases hh : o.heapy with
  | false => rw [rop_pure hh tm (H.upd id ob) H]; exact h
  | true =>
    cases o <;> simp only [AOp.heapy, Bool.false_eq_true] at hh
    case load k x =>
      simp only [rop, loadA] at h ⊢
      split at h
      · exact h
      · split at h
        · rename_i cs hH; rw [key _ _ hH]; exact h
        · cases h
      · cases h
    case look ok kk z m k =>
      simp only [rop, lookA] at h ⊢
      split at h
      · split at h
        · rename_i es hH; rw [key _ _ hH]; exact h
        · cases h
      · exact h
      · cases h
    case lenM m =>
      simp only [rop] at h ⊢
      split at h
      · split at h
        · rename_i es hH; simp only [key _ _ hH]; exact h
        · cases h
      · exact h
      · cases h

end Go.Eng

/- The plan of a region whose order is open holds whatever the order. -/
set_option linter.unusedVariables false
set_option linter.unusedSimpArgs false
namespace Go.Eng
open Go.RowKit (Below)

theorem LS.set {listed : Array Bool} {i j : Nat} (hi : i < listed.size) : LS (listed.setIfInBounds i true) j ↔ j = i ∨ LS listed j := by
  unfold LS
  by_cases e : j = i
  · subst e
    simp [Array.getD_eq_getD_getElem?, Array.getElem?_setIfInBounds, hi]
  · rw [getD_set_ne false (fun h => e h.symm)]
    simp [e]

/-- The parts of 'pairOk'. -/
theorem pair_ne {x y : DRec} (h : pairOk x y = true) : x.i ≠ y.i := by simp [pairOk] at h; exact h.1.1.1.1
theorem pair_lin {x y : DRec} (h : pairOk x y = true) : y.i ∉ x.deps := by
  simp only [pairOk, Bool.and_eq_true, Bool.not_eq_true'] at h
  have := h.1.1.1.2
  intro hm
  rw [List.contains_iff_mem.2 hm] at this
  cases this
theorem pair_dst {x y : DRec} (h : pairOk x y = true) {d : Nat} (hd : x.op.dst = some d) : y.op.dst ≠ some d ∧ (d ∈ y.op.ins → y.anc.testBit x.i = true) := by
  simp only [pairOk, hd, Bool.and_eq_true, Bool.or_eq_true, Bool.not_eq_true', bne_iff_ne] at h
  obtain ⟨h1, h2⟩ := h.1.1.2
  refine ⟨h1, fun hm => ?_⟩
  rcases h2 with h2 | h2
  · rw [List.contains_iff_mem.2 hm] at h2; cases h2
  · exact h2
theorem pair_anti {x y : DRec} (h : pairOk x y = true) {d : Nat} (hd : y.op.dst = some d) : d ∉ x.op.ins := by
  simp only [pairOk, hd, Bool.and_eq_true, Bool.not_eq_true'] at h
  have := h.1.2
  intro hm
  rw [List.contains_iff_mem.2 hm] at this
  cases this
theorem pair_cls {x y : DRec} (h : pairOk x y = true) (h1 : cls x.op.op ≠ .R) (h2 : cls y.op.op ≠ .A) : y.anc.testBit x.i = true := by
  simp only [pairOk, Bool.and_eq_true] at h
  have := h.2
  cases hx : cls x.op.op <;> cases hy : cls y.op.op <;> simp_all
theorem self_lt {n : Nat} {x : DRec} (h : selfOk n x = true) : x.i < n := by simp only [selfOk, Bool.and_eq_true, decide_eq_true_eq] at h; exact h.1.1.1.1
theorem self_deps {n : Nat} {x : DRec} (h : selfOk n x = true) : (∀ d ∈ x.deps, d < n) ∧ x.i ∉ x.deps := by
  simp only [selfOk, Bool.and_eq_true, Bool.not_eq_true'] at h
  refine ⟨fun d hd => by have := List.all_eq_true.1 h.1.1.1.2 d hd; simpa using this, fun hm => ?_⟩
  have := h.1.1.2
  rw [List.contains_iff_mem.2 hm] at this
  cases this
theorem self_dst {n : Nat} {x : DRec} (h : selfOk n x = true) {d : Nat} (hd : x.op.dst = some d) : d ∉ x.op.ins := by
  simp only [selfOk, hd, Bool.and_eq_true, Bool.not_eq_true'] at h
  have := h.1.2
  intro hm
  rw [List.contains_iff_mem.2 hm] at this
  cases this
theorem self_A {n : Nat} {x : DRec} (h : selfOk n x = true) (hA : cls x.op.op = .A) : x.op.gd = none ∧ ∃ d, x.op.dst = some d := by
  simp only [selfOk, hA, Bool.and_eq_true] at h
  have := h.2
  exact ⟨by simpa using this.1, Option.isSome_iff_exists.1 this.2⟩

theorem setTm_len (tm : List AVal) (d : Option Nat) (v : AVal) : (setTm tm d v).length = tm.length := by cases d <;> simp [setTm]
theorem setTm_get (tm : List AVal) (d : Nat) (v : AVal) (t : Nat) : (setTm tm (some d) v)[t]? = if d = t then (if d < tm.length then some v else none) else tm[t]? := by
  simp only [setTm, List.getElem?_set]
theorem setTm_ne {tm : List AVal} {d : Option Nat} {v : AVal} {t : Nat} (h : d ≠ some t) : (setTm tm d v)[t]? = tm[t]? := by
  cases d with
  | none => rfl
  | some d => rw [setTm_get, if_neg (fun e => h (by rw [e]))]
theorem setTm_getD {tm : List AVal} {d : Option Nat} {v : AVal} {t : Nat} (h : d ≠ some t) : (setTm tm d v).getD t .unk = tm.getD t .unk := by
  simp only [List.getD_eq_getElem?_getD, setTm_ne h]

theorem ev_ins {tm tm' : List AVal} {o : AOper} (h : ∀ t ∈ o.ins, tm.getD t .unk = tm'.getD t .unk) : ∀ x ∈ o.op.opds, ev tm x = ev tm' x := by
  intro x hx
  cases x with
  | t i =>
    refine h i ?_
    simp only [AOper.ins, List.mem_append, List.mem_flatMap]
    exact .inl ⟨.t i, hx, by simp [optTmp]⟩
  | c v => rfl
  | f f => rfl
theorem gd_ins {tm tm' : List AVal} {o : AOper} (h : ∀ t ∈ o.ins, tm.getD t .unk = tm'.getD t .unk) : gdA o.gd tm = gdA o.gd tm' := by
  cases hg : o.gd with
  | none => rfl
  | some p =>
    obtain ⟨t, b⟩ := p
    simp only [gdA]
    rw [h t (by simp [AOper.ins, hg])]

section
variable {O : Cfg} {P : Program} {base : Nat} {w0 : World}

/-- What is known of an allocation that has come up early. -/
def EarlyOk (base : Nat) (H : Hp) (G : Gh) (w : World) (lo : Nat) (a : Act) (x : DRec) (b : Nat) : Prop :=
  base ≤ b ∧ lo ≤ b ∧ b < w.heap.size ∧ G.fr b = some 0 ∧ unkB H G b ∧
    match x.op.op with
    | .alloc z => ∃ vs ty, w.heap[b]? = some (.cells (List.toArray vs) ty (0, 0)) ∧ Reps G w z vs ∧ ∀ d u, x.op.dst = some d → a.tmps[d]? = some u → u = .pointer (some ⟨b, 0, none⟩)
    | .mkmap => w.heap[b]? = some (.map #[] 0) ∧ ∀ d u, x.op.dst = some d → a.tmps[d]? = some u → u = .map (some b)
    | _ => False

structure DInv (O : Cfg) (P : Program) (base : Nat) (w0 : World) (Q : Post) (sp : S) (ops : Array Oper) (rs : List DRec) (H0 : Hp) (G0 : Gh) (w1 : World) (listed : Array Bool) (p : Nat) (s : S) (G : Gh) (w : World) (a : Act) (β : Nat → Nat) : Prop where
  size : listed.size = ops.size
  dc : DC ops listed
  pl : planD O P Q sp ((attach [] rs).drop p) s
  wr : Wr base w0 s.hp G w
  ext : GExt G0 w1 G w
  fr : Fr H0 G0 w1 s.hp G w
  ds : DsRep G w s.ds a.defers
  done : ∀ (k : Nat) x, rs[k]? = some x → k < p → cls x.op.op ≠ .R → LS listed x.i
  early : ∀ (k : Nat) x, rs[k]? = some x → p ≤ k → LS listed x.i → cls x.op.op = .A
  tlen : a.tmps.size = s.tm.length
  tm : ∀ (t : Nat) av u, s.tm[t]? = some av → a.tmps[t]? = some u → (∀ (k : Nat) x, rs[k]? = some x → x.op.dst = some t → k < p ∧ LS listed x.i) → Rep G w av u
  sptm : Reps G w sp.tm a.tmps.toList
  late : ∀ (k : Nat) x, rs[k]? = some x → k < p → ¬ LS listed x.i →
    (gdA x.op.gd s.tm = some true ∧ ∃ v, rop x.op.op s.tm s.hp = some v ∧ ∀ d, x.op.dst = some d → d < s.tm.length → s.tm[d]? = some v) ∨
    (gdA x.op.gd s.tm = some false ∧ ∀ d, x.op.dst = some d → d < s.tm.length → s.tm[d]? = some (.tup []))
  ear : ∀ (k : Nat) x, rs[k]? = some x → p ≤ k → LS listed x.i → EarlyOk base s.hp G w w1.heap.size a x (β k)
  inj : ∀ (k l : Nat) x y, rs[k]? = some x → rs[l]? = some y → p ≤ k → p ≤ l → LS listed x.i → LS listed y.i → β k = β l → k = l
  spun : ∀ (k : Nat) x, rs[k]? = some x → getTm sp.tm x.op.dst = .unk

variable {Q : Post} {sp : S} {ops : Array Oper} {rs : List DRec} {H0 : Hp} {G0 : Gh} {w1 : World}

theorem planD_at {p : Nat} {s : S} {x : DRec} (hx : rs[p]? = some x) (h : planD O P Q sp ((attach [] rs).drop p) s) :
    (match gdA x.op.gd s.tm with
    | some true => opR O P x.op.op s.tm s.hp s.ds (thenK s x.op.dst (fun s' => chkAll s' (((rs.take p).filter fun y => y.op.op.heapy && !(x.anc.testBit y.i) && (cls x.op.op == .W)).map (·.op)) ∧ planD O P Q sp ((attach [] rs).drop (p + 1)) s')) (elseQ sp Q)
    | some false => planD O P Q sp ((attach [] rs).drop (p + 1)) (s.put x.op.dst (.tup []))
    | none => False) := by
  have ha := attach_get rs [] p x hx
  simp only [List.nil_append] at ha
  have hlt : p < (attach [] rs).length := (List.getElem?_eq_some_iff.1 ha).1
  rw [List.drop_eq_getElem_cons hlt] at h
  have he : (attach [] rs)[p] = ⟨x.op, ((rs.take p).filter fun y => y.op.op.heapy && !(x.anc.testBit y.i) && (cls x.op.op == .W)).map (·.op)⟩ := by
    rw [List.getElem?_eq_getElem hlt] at ha
    exact Option.some.inj ha
  rw [he] at h
  exact h

/-- The block of an early allocation becomes an object that is known. -/
theorem openEarly {H : Hp} {G : Gh} {w : World} (hw : Wr base w0 H G w) {id b : Nat} (hun : G.st id = .unused) (hH : H id = none) (hbase : base ≤ b) (hb : b < w.heap.size) (hfr : G.fr b = some 0) (hu : unkB H G b) (ob : Ob)
    (hob : ∀ G', GExt G w G' w → G'.st id = .obj b → G'.fr b = some 0 → ObOk base G' w id ob) :
    ∃ G', Wr base w0 (H.upd id ob) G' w ∧ GExt G w G' w ∧ G'.st id = .obj b ∧ (∀ i, i ≠ id → G'.st i = G.st i) ∧ G'.fr = G.fr := by
  let G' : Gh := ⟨fun i => if i = id then .obj b else G.st i, G.fr⟩
  have hst : ∀ i, i ≠ id → G'.st i = G.st i := fun i hi => if_neg hi
  have hid : G'.st id = .obj b := if_pos rfl
  have hne : ∀ i, G.st i ≠ .unused → i ≠ id := fun i hi e => hi (e ▸ hun)
  have x : GExt G w G' w := {
    size := Nat.le_refl _
    shape := fun b _ => rfl
    imm := fun b hb hf => ⟨hf, rfl⟩
    own := fun b n hb hf => ⟨fun n' hn' => by rw [show G'.fr b = G.fr b from rfl, hf] at hn'; cases hn'; exact Nat.le_refl _, fun o _ => rfl⟩
    obj := fun i c hi => (hst i (hne i (by rw [hi]; simp))).trans hi
    dead := fun i hi => (hst i (hne i (by rw [hi]; simp))).trans hi
    tok := fun i c m sz hi => .inr ⟨c, m, sz, (hst i (hne i (by rw [hi]; simp))).trans hi, Nat.le_refl _, fun _ => ⟨rfl, rfl⟩⟩ }
  refine ⟨G', ⟨hw.below, hw.le, hw.old, hw.new, fun i o hi => ?_, fun i j c hi hj h1 h2 => ?_, ?_⟩, x, hid, hst, rfl⟩
  · by_cases e : i = id
    · subst e
      rw [Hp.upd_same] at hi; cases hi
      exact hob G' x hid hfr
    · rw [Hp.upd_ne _ _ e] at hi
      exact (hw.ob i o hi).mono x (hst i e) fun c _ => ⟨rfl, rfl⟩
  · by_cases e : i = id
    · by_cases e' : j = id
      · rw [e, e']
      · exfalso
        subst e
        rw [hid] at h1; cases h1
        rw [hst j e'] at h2
        rw [Hp.upd_ne _ _ e'] at hj
        exact hu j hj h2
    · by_cases e' : j = id
      · exfalso
        subst e'
        rw [hid] at h2; cases h2
        rw [hst i e] at h1
        rw [Hp.upd_ne _ _ e] at hi
        exact hu i hi h1
      · rw [Hp.upd_ne _ _ e] at hi
        rw [Hp.upd_ne _ _ e'] at hj
        rw [hst i e] at h1
        rw [hst j e'] at h2
        exact hw.apart i j c hi hj h1 h2
  · obtain ⟨n, hn⟩ := hw.fresh
    refine ⟨max n (id + 1), fun i hi => ?_⟩
    rw [hst i (by omega)]
    exact hn i (by omega)

def Stop (rs : List DRec) (listed : Array Bool) (p : Nat) : Prop := ∀ x, rs[p]? = some x → ¬ LS listed x.i ∧ cls x.op.op ≠ .R

/-- What comes next and is quiet, or has come up early, is taken into the plan. -/
theorem advance (st : Stat P ops rs) : ∀ (n p : Nat) (listed : Array Bool) (s : S) (G : Gh) (w : World) (a : Act) (β : Nat → Nat), rs.length - p ≤ n → DInv O P base w0 Q sp ops rs H0 G0 w1 listed p s G w a β →
    ∃ p' s' G', DInv O P base w0 Q sp ops rs H0 G0 w1 listed p' s' G' w a β ∧ Stop rs listed p' := by
  intro n
  induction n with
  | zero =>
    intro p listed s G w a β hn h
    exact ⟨p, s, G, h, fun x hx => by have := (List.getElem?_eq_some_iff.1 hx).1; omega⟩
  | succ n ih =>
    intro p listed s G w a β hn h
    cases hx : rs[p]? with
    | none => exact ⟨p, s, G, h, fun x hx' => by rw [hx] at hx'; cases hx'⟩
    | some x =>
      have hplt : p < rs.length := (List.getElem?_eq_some_iff.1 hx).1
      have hpl := planD_at hx h.pl
      have hself := st.self p x hx
      by_cases hl : LS listed x.i
      · -- an early allocation
        have hA := h.early p x hx (Nat.le_refl _) hl
        obtain ⟨hg, d, hd⟩ := self_A hself hA
        obtain ⟨e1, e2, e3, e4, e5, e6⟩ := h.ear p x hx (Nat.le_refl _) hl
        rw [hg] at hpl
        simp only [gdA] at hpl
        obtain ⟨id, hun, hH, hidne⟩ := fresh_id h.wr
        have main : ∀ (ob : Ob) (v : AVal), (∀ G', GExt G w G' w → G'.st id = .obj (β p) → G'.fr (β p) = some 0 → ObOk base G' w id ob) → planD O P Q sp ((attach [] rs).drop (p + 1)) ⟨setTm s.tm (some d) v, s.hp.upd id ob, s.ds⟩ →
            (∀ G' u, G'.st id = .obj (β p) → a.tmps[d]? = some u → Rep G' w v u) →
            ∃ p' s' G', DInv O P base w0 Q sp ops rs H0 G0 w1 listed p' s' G' w a β ∧ Stop rs listed p' := by
          intro ob v hob hplan hv
          obtain ⟨G', k1, k2, k3, k4, k5⟩ := openEarly h.wr hun hH e1 e3 e4 e5 ob hob
          refine ih (p + 1) listed ⟨setTm s.tm (some d) v, s.hp.upd id ob, s.ds⟩ G' w a β (by omega) ?_
          refine ⟨h.size, h.dc, hplan, k1, h.ext.trans k2, ⟨fun b hb hu => ?_, fun b hb hu i hi => ?_⟩, h.ds.mono k2, fun k y hy hk hc => ?_, fun k y hy hk hl' => h.early k y hy (by omega) hl', ?_, fun t av u hav hu hcond => ?_, h.sptm.mono k2, fun k y hy hk hl' => ?_, fun k y hy hk hl' => ?_, fun k l y z hy hz hk hl' h1 h2 => h.inj k l y z hy hz (by omega) (by omega) h1 h2, h.spun⟩
          · obtain ⟨q1, q2⟩ := h.fr.kept b hb hu
            exact ⟨q1, by rw [k5]; exact q2⟩
          · by_cases e : i = id
            · subst e
              rw [k3]
              intro hc
              have : β p = b := Option.some.inj hc
              omega
            · rw [k4 i e]
              change (s.hp.upd id ob) i ≠ none at hi
              rw [Hp.upd_ne _ _ e] at hi
              exact h.fr.unk b hb hu i hi
          · rcases Nat.lt_or_ge k p with hk' | hk'
            · exact h.done k y hy hk' hc
            · have : k = p := by omega
              subst this
              rw [hx] at hy; cases hy
              exact hl
          · rw [setTm_len]; exact h.tlen
          · by_cases e : d = t
            · subst e
              rw [setTm_get, if_pos rfl] at hav
              split at hav
              · cases hav
                exact hv G' u k3 hu
              · cases hav
            · rw [setTm_ne (by simpa using e)] at hav
              refine (h.tm t av u hav hu fun k y hy hdy => ?_).mono k2
              obtain ⟨q1, q2⟩ := hcond k y hy hdy
              refine ⟨?_, q2⟩
              rcases Nat.lt_or_ge k p with hk' | hk'
              · exact hk'
              · have : k = p := by omega
                subst this
                rw [hx] at hy; cases hy
                rw [hd] at hdy
                exact absurd (Option.some.inj hdy) e
          · rcases Nat.lt_or_ge k p with hk' | hk'
            · have hanti : ∀ t ∈ y.op.ins, (setTm s.tm (some d) v).getD t .unk = s.tm.getD t .unk := fun t ht => setTm_getD (fun e => by
                cases e
                exact pair_anti (st.pair k p y x hk' hy hx) hd ht)
              have hdne : ∀ d', y.op.dst = some d' → (setTm s.tm (some d) v)[d']? = s.tm[d']? := fun d' hd' => setTm_ne (fun e => by
                cases e
                exact (pair_dst (st.pair k p y x hk' hy hx) hd').1 hd)
              rcases h.late k y hy hk' hl' with ⟨g1, v', g2, g3⟩ | ⟨g1, g2⟩
              · refine .inl ⟨by rw [gd_ins hanti]; exact g1, v', rop_fresh hH (by rw [rop_congr (ev_ins hanti)]; exact g2), fun d' hd' hlt => ?_⟩
                rw [hdne d' hd']
                exact g3 d' hd' (by simpa [setTm_len] using hlt)
              · refine .inr ⟨by rw [gd_ins hanti]; exact g1, fun d' hd' hlt => ?_⟩
                rw [hdne d' hd']
                exact g2 d' hd' (by simpa [setTm_len] using hlt)
            · have : k = p := by omega
              subst this
              rw [hx] at hy; cases hy
              exact absurd hl hl'
          · obtain ⟨q1, q2, q3, q4, q5, q6⟩ := h.ear k y hy (by omega) hl'
            refine ⟨q1, q2, q3, by rw [k5]; exact q4, fun i hi => ?_, ?_⟩
            · by_cases e : i = id
              · subst e
                rw [k3]
                intro hc
                have hbb : β p = β k := Option.some.inj hc
                have := h.inj p k x y hx hy (Nat.le_refl _) (by omega) hl hl' hbb
                omega
              · rw [k4 i e]
                change (s.hp.upd id ob) i ≠ none at hi
                rw [Hp.upd_ne _ _ e] at hi
                exact q5 i hi
            · revert q6
              split
              · intro ⟨vs, ty, r1, r2, r3⟩; exact ⟨vs, ty, r1, r2.mono k2, r3⟩
              · exact (fun q => q)
              · exact (fun q => q)
        cases hop : x.op.op <;> rw [hop] at hA <;> simp only [cls, reduceCtorEq] at hA
        case alloc z =>
          rw [hop] at hpl e6
          simp only [opR, thenK] at hpl
          obtain ⟨vs, ty, r1, r2, r3⟩ := e6
          have := (hpl id hH).2
          rw [hd] at this
          exact main (.cells z) (.ref id 0) (fun G' hx' g1 g2 => ⟨β p, vs, ty, [], g1, e1, g2, by simpa using r1, r2.mono hx', fun _ h => by cases h⟩) this (fun G' u g hu => by rw [r3 d u hd hu]; exact .ref 0 g)
        case mkmap =>
          rw [hop] at hpl e6
          simp only [opR, thenK] at hpl
          obtain ⟨r1, r3⟩ := e6
          have := (hpl id hH).2
          rw [hd] at this
          exact main (.map []) (.map id) (fun G' hx' g1 g2 => ⟨β p, #[], 0, g1, e1, g2, r1, rfl, fun i p e hp => by simp at hp, fun i j e f he => by simp at he⟩) this (fun G' u g hu => by rw [r3 d u hd hu]; exact .map g)
      · by_cases hR : cls x.op.op = .R
        · -- a quiet one
          have hsame : ∀ (v : AVal), ∀ t ∈ x.op.ins, (setTm s.tm x.op.dst v).getD t .unk = s.tm.getD t .unk := fun v t ht => setTm_getD (fun e => self_dst hself e ht)
          have main : ∀ (v : AVal), planD O P Q sp ((attach [] rs).drop (p + 1)) ⟨setTm s.tm x.op.dst v, s.hp, s.ds⟩ →
              ((gdA x.op.gd s.tm = some true ∧ rop x.op.op s.tm s.hp = some v) ∨ (gdA x.op.gd s.tm = some false ∧ v = .tup [])) →
              ∃ p' s' G', DInv O P base w0 Q sp ops rs H0 G0 w1 listed p' s' G' w a β ∧ Stop rs listed p' := by
            intro v hplan hv
            refine ih (p + 1) listed ⟨setTm s.tm x.op.dst v, s.hp, s.ds⟩ G w a β (by omega) ?_
            refine ⟨h.size, h.dc, hplan, h.wr, h.ext, h.fr, h.ds, fun k y hy hk hc => ?_, fun k y hy hk hl' => h.early k y hy (by omega) hl', ?_, fun t av u hav hu hcond => ?_, h.sptm, fun k y hy hk hl' => ?_, fun k y hy hk hl' => h.ear k y hy (by omega) hl', fun k l y z hy hz hk hl' h1 h2 => h.inj k l y z hy hz (by omega) (by omega) h1 h2, h.spun⟩
            · rcases Nat.lt_or_ge k p with hk' | hk'
              · exact h.done k y hy hk' hc
              · have : k = p := by omega
                subst this
                rw [hx] at hy; cases hy
                exact absurd hR hc
            · rw [setTm_len]; exact h.tlen
            · have hne : x.op.dst ≠ some t := fun e => hl (hcond p x hx e).2
              rw [setTm_ne hne] at hav
              refine h.tm t av u hav hu fun k y hy hdy => ?_
              obtain ⟨q1, q2⟩ := hcond k y hy hdy
              refine ⟨?_, q2⟩
              rcases Nat.lt_or_ge k p with hk' | hk'
              · exact hk'
              · have : k = p := by omega
                subst this
                rw [hx] at hy; cases hy
                exact absurd hdy hne
            · rcases Nat.lt_or_ge k p with hk' | hk'
              · have hanti : ∀ t ∈ y.op.ins, (setTm s.tm x.op.dst v).getD t .unk = s.tm.getD t .unk := fun t ht => setTm_getD (fun e => pair_anti (st.pair k p y x hk' hy hx) e ht)
                have hdne : ∀ d', y.op.dst = some d' → (setTm s.tm x.op.dst v)[d']? = s.tm[d']? := fun d' hd' => setTm_ne (fun e => (pair_dst (st.pair k p y x hk' hy hx) hd').1 e)
                rcases h.late k y hy hk' hl' with ⟨g1, v', g2, g3⟩ | ⟨g1, g2⟩
                · refine .inl ⟨by rw [gd_ins hanti]; exact g1, v', by rw [rop_congr (ev_ins hanti)]; exact g2, fun d' hd' hlt => ?_⟩
                  rw [hdne d' hd']
                  exact g3 d' hd' (by simpa [setTm_len] using hlt)
                · refine .inr ⟨by rw [gd_ins hanti]; exact g1, fun d' hd' hlt => ?_⟩
                  rw [hdne d' hd']
                  exact g2 d' hd' (by simpa [setTm_len] using hlt)
              · have : k = p := by omega
                subst this
                rw [hx] at hy; cases hy
                have hval : ∀ d', x.op.dst = some d' → d' < (setTm s.tm x.op.dst v).length → (setTm s.tm x.op.dst v)[d']? = some v := fun d' hd' hlt => by
                  rw [hd', setTm_get, if_pos rfl, if_pos (by simpa [setTm_len] using hlt)]
                rcases hv with ⟨g1, g2⟩ | ⟨g1, rfl⟩
                · exact .inl ⟨by rw [gd_ins (hsame v)]; exact g1, v, by rw [rop_congr (ev_ins (hsame v))]; exact g2, hval⟩
                · exact .inr ⟨by rw [gd_ins (hsame _)]; exact g1, hval⟩
          split at hpl
          · rename_i hg
            have hq : ∀ o : AOp, cls o = .R → opR O P o s.tm s.hp s.ds (thenK s x.op.dst (fun s' => chkAll s' (((rs.take p).filter fun y => y.op.op.heapy && !(x.anc.testBit y.i) && (cls x.op.op == .W)).map (·.op)) ∧ planD O P Q sp ((attach [] rs).drop (p + 1)) s')) (elseQ sp Q) →
                ∃ v, rop o s.tm s.hp = some v ∧ planD O P Q sp ((attach [] rs).drop (p + 1)) ⟨setTm s.tm x.op.dst v, s.hp, s.ds⟩ := by
              intro o ho hh
              have hm : (match rop o s.tm s.hp with
                  | some v => (thenK s x.op.dst (fun s' => chkAll s' (((rs.take p).filter fun y => y.op.op.heapy && !(x.anc.testBit y.i) && (cls x.op.op == .W)).map (·.op)) ∧ planD O P Q sp ((attach [] rs).drop (p + 1)) s')) v s.hp s.ds
                  | none => False) := by
                cases o <;> first | exact hh | (simp [cls] at ho; done)
              cases hr : rop o s.tm s.hp with
              | none => rw [hr] at hm; exact hm.elim
              | some v => rw [hr] at hm; exact ⟨v, rfl, hm.2⟩
            obtain ⟨v, hv, hplan⟩ := hq x.op.op hR hpl
            exact main v hplan (.inl ⟨hg, hv⟩)
          · rename_i hg
            exact main _ hpl (.inr ⟨hg, rfl⟩)
          · exact hpl.elim
        · exact ⟨p, s, G, h, fun x' hx' => by rw [hx] at hx'; cases hx'; exact ⟨hl, hR⟩⟩

end
end Go.Eng

