/- The abstract values of the engine, and how they stand in memory. -/
import Derived.Tactics
import Derived.Orders
import Derived.Below
import Derived.Laws.World
import Derived.Laws.Entries
import Derived.Laws.Strings
import Derived.Laws.Build
import Derived.Laws.Slices
import Derived.Laws.StructEq
set_option linter.unusedVariables false
set_option linter.unusedSimpArgs false
namespace Go.Eng

/-- What a slice may be used for: 'no': it is read; 'full': its capacity is its length; 'own': it may be appended to, if the token lives; 'frz': a string's bytes, marked so. -/
inductive Tok where
  | no
  | full
  | own (id sz : Nat)
  | frz
  | nil
  deriving DecidableEq

inductive AVal where
  | bool (b : Bool)
  | int (k : IntKind) (n : Int)
  | str (s : List UInt8)
  | agg (cs : List AVal)
  | sl (rows : List (List AVal)) (t : Tok)
  | slm (id n sz : Nat)
  | ref (id off : Nat)
  | ip (cs : List AVal)
  | nilptr
  | map (id : Nat)
  | nilmap
  | func (fn : Fn) (first caps : List AVal)
  | nilfunc
  | iface (t : TypeId) (v : AVal)
  | nilif
  | tup (vs : List AVal)
  | unk

instance : Inhabited AVal := ⟨.unk⟩

def AVal.cells : AVal → List AVal
  | .agg cs => cs
  | v => [v]

/-- What an abstract number stands for: nothing yet, an object in a block, a growing row of m elements of sz cells in a block, or nothing more. -/
inductive Sta where
  | unused
  | obj (b : Nat)
  | tok (b m sz : Nat)
  | dead

structure Gh where
  st : Nat → Sta
  fr : Nat → Option Nat

/-- The cell may be read for ever. -/
def Gh.imm (G : Gh) (w : World) (b o : Nat) : Prop := b < w.heap.size ∧ ∀ n, G.fr b = some n → o < n

def ImmRow (G : Gh) (w : World) (b off : Nat) (vs : List Value) : Prop :=
  ∀ i v, vs[i]? = some v → w.cell? ⟨b, off + i, none⟩ = some v ∧ G.imm w b (off + i)

def TokOk (G : Gh) (w : World) (t : Tok) (b off n cap sz : Nat) : Prop :=
  match t with
  | .no => True
  | .full => cap = n
  | .frz => G.fr b = none ∧ ∃ c ty, w.heap[b]? = some (.cells c ty (c.size, c.size + 1))
  | .nil => False
  | .own id sz' => sz' = sz ∧ match G.st id with
    | .tok b' m s => n ≤ m ∧ (n = m → b' = b ∧ s = sz ∧ off = 0 ∧ ∃ e N, w.shape? b = some (e, N) ∧ cap * sz ≤ N)
    | .dead => True
    | _ => False

inductive Rep (G : Gh) (w : World) : AVal → Value → Prop
  | bool (b : Bool) : Rep G w (.bool b) (.bool b)
  | int (k : IntKind) (n : Int) : Rep G w (.int k n) (.int k n)
  | str (s : List UInt8) : Rep G w (.str s) (.string ⟨s.toArray⟩)
  | agg {cs : List AVal} {vs : List Value} (hl : cs.length = vs.length) (h : ∀ (i : Nat) a v, cs[i]? = some a → vs[i]? = some v → Rep G w a v) : Rep G w (.agg cs) (.agg vs.toArray)
  | slnil {t : Tok} (ht : t = .no ∨ t = .full ∨ t = .nil) : Rep G w (.sl [] t) (.slice none 0 0)
  | slz {t : Tok} {a : Addr} {cap : Nat} (ht : t = .no ∨ t = .full ∧ cap = 0) : Rep G w (.sl [] t) (.slice (some a) 0 cap)
  | sl {rows : List (List AVal)} {t : Tok} {vs : List Value} {b off cap sz : Nat} (hsz : ∀ r ∈ rows, r.length = sz) (hl : rows.flatten.length = vs.length)
      (h : ∀ (i : Nat) a v, rows.flatten[i]? = some a → vs[i]? = some v → Rep G w a v) (hi : ImmRow G w b off vs) (hb : b < w.heap.size) (hc : rows.length ≤ cap) (ht : TokOk G w t b off rows.length cap sz) :
      Rep G w (.sl rows t) (.slice (some ⟨b, off, none⟩) rows.length cap)
  | slm {id b n sz cap N : Nat} {e : TypeId} (h : G.st id = .obj b) (hs : w.shape? b = some (e, N)) (hc : n ≤ cap) (hN : cap * sz ≤ N) : Rep G w (.slm id n sz) (.slice (some ⟨b, 0, none⟩) n cap)
  | ref {id b : Nat} (off : Nat) (h : G.st id = .obj b) : Rep G w (.ref id off) (.pointer (some ⟨b, off, none⟩))
  | ip {cs : List AVal} {vs : List Value} {b off : Nat} (hl : cs.length = vs.length) (h : ∀ (i : Nat) a v, cs[i]? = some a → vs[i]? = some v → Rep G w a v)
      (hi : ImmRow G w b off vs) (hb : b < w.heap.size) : Rep G w (.ip cs) (.pointer (some ⟨b, off, none⟩))
  | nilptr : Rep G w .nilptr (.pointer none)
  | map {id b : Nat} (h : G.st id = .obj b) : Rep G w (.map id) (.map (some b))
  | nilmap : Rep G w .nilmap (.map none)
  | func {fn : Fn} {fs cs : List AVal} {vs us : List Value} (hl : fs.length = vs.length) (h : ∀ (i : Nat) a v, fs[i]? = some a → vs[i]? = some v → Rep G w a v)
      (hl' : cs.length = us.length) (h' : ∀ (i : Nat) a v, cs[i]? = some a → us[i]? = some v → Rep G w a v) : Rep G w (.func fn fs cs) (.func fn vs.toArray us.toArray)
  | nilfunc : Rep G w .nilfunc .nilFunc
  | iface {t : TypeId} {a : AVal} {v : Value} (h : Rep G w a v) : Rep G w (.iface t a) (.iface t v)
  | nilif : Rep G w .nilif .nilIface
  | tup {cs : List AVal} {vs : List Value} (hl : cs.length = vs.length) (h : ∀ (i : Nat) a v, cs[i]? = some a → vs[i]? = some v → Rep G w a v) : Rep G w (.tup cs) (.tuple vs.toArray)
  | unk (v : Value) : Rep G w .unk v

def Reps (G : Gh) (w : World) (cs : List AVal) (vs : List Value) : Prop :=
  cs.length = vs.length ∧ ∀ (i : Nat) a v, cs[i]? = some a → vs[i]? = some v → Rep G w a v

/-- How the memory and what is known of it go on. -/
structure GExt (G : Gh) (w : World) (G' : Gh) (w' : World) : Prop where
  size : w.heap.size ≤ w'.heap.size
  shape : ∀ b, b < w.heap.size → w'.shape? b = w.shape? b
  imm : ∀ b, b < w.heap.size → G.fr b = none → G'.fr b = none ∧ w'.heap[b]? = w.heap[b]?
  own : ∀ b n, b < w.heap.size → G.fr b = some n → (∀ n', G'.fr b = some n' → n ≤ n') ∧ ∀ o, o < n → w'.cell? ⟨b, o, none⟩ = w.cell? ⟨b, o, none⟩
  obj : ∀ id b, G.st id = .obj b → G'.st id = .obj b
  dead : ∀ id, G.st id = .dead → G'.st id = .dead
  tok : ∀ id b m s, G.st id = .tok b m s → G'.st id = .dead ∨ ∃ b' m' s', G'.st id = .tok b' m' s' ∧ m ≤ m' ∧ (m = m' → b' = b ∧ s' = s)

theorem GExt.refl (G : Gh) (w : World) : GExt G w G w :=
  ⟨Nat.le_refl _, fun _ _ => rfl, fun _ _ h => ⟨h, rfl⟩, fun b n _ h => ⟨fun n' h' => by rw [h] at h'; cases h'; exact Nat.le_refl _, fun _ _ => rfl⟩, fun _ _ h => h, fun _ h => h,
    fun id b m s h => .inr ⟨b, m, s, h, Nat.le_refl _, fun _ => ⟨rfl, rfl⟩⟩⟩

theorem World.cell?_lt {w : World} {a : Addr} {v : Value} (h : w.cell? a = some v) : a.block < w.heap.size := by
  rcases Nat.lt_or_ge a.block w.heap.size with h' | h'
  · exact h'
  · simp [World.cell?, Array.getElem?_eq_none h'] at h

theorem World.shape?_lt {w : World} {b : Nat} {r : TypeId × Nat} (h : w.shape? b = some r) : b < w.heap.size := by
  rcases Nat.lt_or_ge b w.heap.size with h' | h'
  · exact h'
  · simp [World.shape?, Array.getElem?_eq_none h'] at h

theorem GExt.cell {G G' : Gh} {w w' : World} (h : GExt G w G' w') {b o : Nat} (hi : G.imm w b o) : w'.cell? ⟨b, o, none⟩ = w.cell? ⟨b, o, none⟩ := by
  obtain ⟨hb, ho⟩ := hi
  cases hf : G.fr b with
  | none =>
    obtain ⟨_, he⟩ := h.imm b hb hf
    simp only [World.cell?, he]
  | some n => exact (h.own b n hb hf).2 o (ho n hf)

theorem GExt.imm' {G G' : Gh} {w w' : World} (h : GExt G w G' w') {b o : Nat} (hi : G.imm w b o) : G'.imm w' b o := by
  obtain ⟨hb, ho⟩ := hi
  refine ⟨Nat.lt_of_lt_of_le hb h.size, fun n hn => ?_⟩
  cases hf : G.fr b with
  | none => rw [(h.imm b hb hf).1] at hn; cases hn
  | some m => exact Nat.lt_of_lt_of_le (ho m hf) ((h.own b m hb hf).1 n hn)

theorem GExt.trans {G G' G'' : Gh} {w w' w'' : World} (h : GExt G w G' w') (k : GExt G' w' G'' w'') : GExt G w G'' w'' where
  size := Nat.le_trans h.size k.size
  shape b hb := (k.shape b (Nat.lt_of_lt_of_le hb h.size)).trans (h.shape b hb)
  imm b hb hf := by
    obtain ⟨h1, h2⟩ := h.imm b hb hf
    obtain ⟨k1, k2⟩ := k.imm b (Nat.lt_of_lt_of_le hb h.size) h1
    exact ⟨k1, k2.trans h2⟩
  own b n hb hf := by
    have hb' := Nat.lt_of_lt_of_le hb h.size
    obtain ⟨h1, h2⟩ := h.own b n hb hf
    cases hf' : G'.fr b with
    | none =>
      obtain ⟨k1, k2⟩ := k.imm b hb' hf'
      refine ⟨fun n' hn' => (by rw [k1] at hn'; cases hn'), fun o ho => ?_⟩
      rw [← h2 o ho]
      simp only [World.cell?, k2]
    | some m =>
      obtain ⟨k1, k2⟩ := k.own b m hb' hf'
      have hnm := h1 m hf'
      exact ⟨fun n' hn' => Nat.le_trans hnm (k1 n' hn'), fun o ho => (k2 o (Nat.lt_of_lt_of_le ho hnm)).trans (h2 o ho)⟩
  obj id b hs := k.obj id b (h.obj id b hs)
  dead id hs := k.dead id (h.dead id hs)
  tok id b m s hs := by
    rcases h.tok id b m s hs with hd | ⟨b', m', s', hs', hm, he⟩
    · exact .inl (k.dead id hd)
    · rcases k.tok id b' m' s' hs' with hd | ⟨b'', m'', s'', hs'', hm', he'⟩
      · exact .inl hd
      · refine .inr ⟨b'', m'', s'', hs'', Nat.le_trans hm hm', fun e => ?_⟩
        have e1 : m = m' := by omega
        have e2 : m' = m'' := by omega
        obtain ⟨a1, a2⟩ := he e1
        obtain ⟨b1, b2⟩ := he' e2
        exact ⟨b1.trans a1, b2.trans a2⟩

theorem ImmRow.mono {G G' : Gh} {w w' : World} {b off : Nat} {vs : List Value} (h : ImmRow G w b off vs) (x : GExt G w G' w') : ImmRow G' w' b off vs := fun i v hv => by
  obtain ⟨h1, h2⟩ := h i v hv
  exact ⟨(x.cell h2).trans h1, x.imm' h2⟩

theorem TokOk.mono {G G' : Gh} {w w' : World} {t : Tok} {b off n cap sz : Nat} (h : TokOk G w t b off n cap sz) (hb : b < w.heap.size) (x : GExt G w G' w') : TokOk G' w' t b off n cap sz := by
  cases t with
  | no => trivial
  | full => exact h
  | nil => exact h
  | frz =>
    obtain ⟨h1, c, ty, h2⟩ := h
    obtain ⟨k1, k2⟩ := x.imm b hb h1
    exact ⟨k1, c, ty, k2.trans h2⟩
  | own id sz' =>
    obtain ⟨hs, h⟩ := h
    refine ⟨hs, ?_⟩
    cases hst : G.st id with
    | unused => simp only [hst] at h
    | obj b' => simp only [hst] at h
    | dead => rw [x.dead id hst]; trivial
    | tok b' m s =>
      simp only [hst] at h
      obtain ⟨h1, h2⟩ := h
      rcases x.tok id b' m s hst with hd | ⟨b'', m', s', hs', hm, he⟩
      · rw [hd]; trivial
      · simp only [hs']
        refine ⟨by omega, fun e => ?_⟩
        have e1 : n = m := by omega
        obtain ⟨a1, a2, a3, e', N, a4, a5⟩ := h2 e1
        obtain ⟨c1, c2⟩ := he (by omega)
        exact ⟨c1.trans a1, c2.trans a2, a3, e', N, (x.shape b hb).trans a4, a5⟩

theorem Rep.mono {G G' : Gh} {w w' : World} {a : AVal} {v : Value} (h : Rep G w a v) (x : GExt G w G' w') : Rep G' w' a v := by
  induction h with
  | bool b => exact .bool b
  | int k n => exact .int k n
  | str s => exact .str s
  | agg hl _ ih => exact .agg hl ih
  | slnil ht => exact .slnil ht
  | slz ht => exact .slz ht
  | sl hsz hl _ hi hb hc ht ih => exact .sl hsz hl ih (hi.mono x) (Nat.lt_of_lt_of_le hb x.size) hc (ht.mono hb x)
  | slm h hs hc hN => exact .slm (x.obj _ _ h) ((x.shape _ (World.shape?_lt hs)).trans hs) hc hN
  | ref off h => exact .ref off (x.obj _ _ h)
  | ip hl _ hi hb ih => exact .ip hl ih (hi.mono x) (Nat.lt_of_lt_of_le hb x.size)
  | nilptr => exact .nilptr
  | map h => exact .map (x.obj _ _ h)
  | nilmap => exact .nilmap
  | func hl _ hl' _ ih ih' => exact .func hl ih hl' ih'
  | nilfunc => exact .nilfunc
  | iface _ ih => exact .iface ih
  | nilif => exact .nilif
  | tup hl _ ih => exact .tup hl ih
  | unk v => exact .unk v

theorem Reps.mono {G G' : Gh} {w w' : World} {as : List AVal} {vs : List Value} (h : Reps G w as vs) (x : GExt G w G' w') : Reps G' w' as vs :=
  ⟨h.1, fun i a v ha hv => (h.2 i a v ha hv).mono x⟩

theorem Reps.nil {G : Gh} {w : World} : Reps G w [] [] := ⟨rfl, fun i a v h => by simp at h⟩
theorem Reps.cons {G : Gh} {w : World} {a : AVal} {v : Value} {as : List AVal} {vs : List Value} (h : Rep G w a v) (hs : Reps G w as vs) : Reps G w (a :: as) (v :: vs) :=
  ⟨by simp [hs.1], fun i b u hb hu => by
    cases i with
    | zero => simp at hb hu; subst hb; subst hu; exact h
    | succ i => exact hs.2 i b u (by simpa using hb) (by simpa using hu)⟩
theorem Reps.head {G : Gh} {w : World} {a : AVal} {v : Value} {as : List AVal} {vs : List Value} (h : Reps G w (a :: as) (v :: vs)) : Rep G w a v := h.2 0 a v rfl rfl
theorem Reps.tail {G : Gh} {w : World} {a : AVal} {v : Value} {as : List AVal} {vs : List Value} (h : Reps G w (a :: as) (v :: vs)) : Reps G w as vs :=
  ⟨by simpa using h.1, fun i b u hb hu => h.2 (i + 1) b u (by simpa using hb) (by simpa using hu)⟩
theorem Reps.append {G : Gh} {w : World} {as bs : List AVal} {vs us : List Value} (h : Reps G w as vs) (k : Reps G w bs us) : Reps G w (as ++ bs) (vs ++ us) := by
  refine ⟨by simp [h.1, k.1], fun i a v ha hv => ?_⟩
  rcases Nat.lt_or_ge i as.length with hi | hi
  · rw [List.getElem?_append_left hi] at ha
    rw [List.getElem?_append_left (by rw [← h.1]; exact hi)] at hv
    exact h.2 i a v ha hv
  · rw [List.getElem?_append_right hi] at ha
    rw [List.getElem?_append_right (by rw [← h.1]; exact hi)] at hv
    exact k.2 (i - as.length) a v ha (by rw [h.1]; exact hv)
theorem Reps.take {G : Gh} {w : World} {as : List AVal} {vs : List Value} (h : Reps G w as vs) (n : Nat) : Reps G w (as.take n) (vs.take n) := by
  refine ⟨by simp [h.1], fun i a v ha hv => ?_⟩
  rw [List.getElem?_take] at ha hv
  split at ha
  · rename_i hi; rw [if_pos hi] at hv; exact h.2 i a v ha hv
  · cases ha
theorem Reps.drop {G : Gh} {w : World} {as : List AVal} {vs : List Value} (h : Reps G w as vs) (n : Nat) : Reps G w (as.drop n) (vs.drop n) := by
  refine ⟨by simp [h.1], fun i a v ha hv => ?_⟩
  rw [List.getElem?_drop] at ha hv
  exact h.2 _ a v ha hv
theorem Reps.get {G : Gh} {w : World} {as : List AVal} {vs : List Value} (h : Reps G w as vs) {i : Nat} {a : AVal} (ha : as[i]? = some a) : ∃ v, vs[i]? = some v ∧ Rep G w a v := by
  have hi : i < as.length := by
    rcases Nat.lt_or_ge i as.length with h' | h'
    · exact h'
    · rw [List.getElem?_eq_none h'] at ha; cases ha
  have hi' : i < vs.length := by rw [← h.1]; exact hi
  exact ⟨vs[i], List.getElem?_eq_getElem hi', h.2 i a _ ha (List.getElem?_eq_getElem hi')⟩
theorem Reps.set {G : Gh} {w : World} {as : List AVal} {vs : List Value} (h : Reps G w as vs) {a : AVal} {v : Value} (k : Rep G w a v) (n : Nat) : Reps G w (as.set n a) (vs.set n v) := by
  refine ⟨by simp [h.1], fun i b u hb hu => ?_⟩
  rw [List.getElem?_set] at hb hu
  split at hb
  · rename_i e; subst e
    rw [if_pos rfl] at hu
    split at hb
    · split at hu
      · cases hb; cases hu; exact k
      · cases hu
    · cases hb
  · rename_i e
    rw [if_neg e] at hu
    exact h.2 i b u hb hu

theorem Rep.agg_inv {G : Gh} {w : World} {cs : List AVal} {v : Value} (h : Rep G w (.agg cs) v) : ∃ vs, v = .agg vs.toArray ∧ Reps G w cs vs := by
  cases h with | agg hl h => exact ⟨_, rfl, hl, h⟩
theorem Rep.agg' {G : Gh} {w : World} {cs : List AVal} {vs : List Value} (h : Reps G w cs vs) : Rep G w (.agg cs) (.agg vs.toArray) := .agg h.1 h.2
theorem Rep.tup' {G : Gh} {w : World} {cs : List AVal} {vs : List Value} (h : Reps G w cs vs) : Rep G w (.tup cs) (.tuple vs.toArray) := .tup h.1 h.2

/-- No value that fills several cells, none unknown. -/
def AVal.known : AVal → Bool
  | .unk => false
  | _ => true

theorem Rep.cells {G : Gh} {w : World} {a : AVal} {v : Value} (h : Rep G w a v) (hk : a.known = true) : Reps G w a.cells v.cells.toList := by
  cases h with
  | agg hl h => exact ⟨by simpa [AVal.cells, Value.cells] using hl, by simpa [AVal.cells, Value.cells] using h⟩
  | unk v => cases hk
  | bool b => exact Reps.cons (.bool b) Reps.nil
  | int k n => exact Reps.cons (.int k n) Reps.nil
  | str s => exact Reps.cons (.str s) Reps.nil
  | slnil ht => exact Reps.cons (.slnil ht) Reps.nil
  | slz ht => exact Reps.cons (.slz ht) Reps.nil
  | sl hsz hl h hi hb hc ht => exact Reps.cons (.sl hsz hl h hi hb hc ht) Reps.nil
  | slm h hs hc hN => exact Reps.cons (.slm h hs hc hN) Reps.nil
  | ref off h => exact Reps.cons (.ref off h) Reps.nil
  | ip hl h hi hb => exact Reps.cons (.ip hl h hi hb) Reps.nil
  | nilptr => exact Reps.cons .nilptr Reps.nil
  | map h => exact Reps.cons (.map h) Reps.nil
  | nilmap => exact Reps.cons .nilmap Reps.nil
  | func hl h hl' h' => exact Reps.cons (.func hl h hl' h') Reps.nil
  | nilfunc => exact Reps.cons .nilfunc Reps.nil
  | iface h => exact Reps.cons (.iface h) Reps.nil
  | nilif => exact Reps.cons .nilif Reps.nil
  | tup hl h => exact Reps.cons (.tup hl h) Reps.nil

/-- What is known less. -/
inductive Wk : AVal → AVal → Prop
  | refl (a : AVal) : Wk a a
  | unk (a : AVal) : Wk a .unk
  | sl (rows : List (List AVal)) (t : Tok) : Wk (.sl rows t) (.sl rows .no)
  | agg {cs ds : List AVal} (hl : cs.length = ds.length) (h : ∀ (i : Nat) a b, cs[i]? = some a → ds[i]? = some b → Wk a b) : Wk (.agg cs) (.agg ds)
  | tup {cs ds : List AVal} (hl : cs.length = ds.length) (h : ∀ (i : Nat) a b, cs[i]? = some a → ds[i]? = some b → Wk a b) : Wk (.tup cs) (.tup ds)
  | iface {t : TypeId} {a b : AVal} (h : Wk a b) : Wk (.iface t a) (.iface t b)
  | slw {rows rows' : List (List AVal)} (t : Tok) (hl : rows.length = rows'.length) (hlen : ∀ (i : Nat) r r', rows[i]? = some r → rows'[i]? = some r' → r.length = r'.length)
      (h : ∀ (i : Nat) r r' (j : Nat) a b, rows[i]? = some r → rows'[i]? = some r' → r[j]? = some a → r'[j]? = some b → Wk a b) : Wk (.sl rows t) (.sl rows' .no)

theorem flat_rel {R : AVal → AVal → Prop} : ∀ (rows rows' : List (List AVal)), rows.length = rows'.length → (∀ (i : Nat) r r', rows[i]? = some r → rows'[i]? = some r' → r.length = r'.length) →
    (∀ (i : Nat) r r' (j : Nat) a b, rows[i]? = some r → rows'[i]? = some r' → r[j]? = some a → r'[j]? = some b → R a b) →
    rows.flatten.length = rows'.flatten.length ∧ ∀ (k : Nat) b, rows'.flatten[k]? = some b → ∃ a, rows.flatten[k]? = some a ∧ R a b
  | [], [], _, _, _ => ⟨rfl, fun k b h => by simp at h⟩
  | [], _ :: _, h, _, _ => by simp at h
  | _ :: _, [], h, _, _ => by simp at h
  | r :: rs, r' :: rs', hl, hlen, h => by
    obtain ⟨k1, k2⟩ := flat_rel rs rs' (by simpa using hl) (fun i a b ha hb => hlen (i + 1) a b (by simpa using ha) (by simpa using hb)) (fun i a b j x y ha hb => h (i + 1) a b j x y (by simpa using ha) (by simpa using hb))
    have e := hlen 0 r r' rfl rfl
    refine ⟨by simp only [List.flatten_cons, List.length_append, e, k1], fun k b hb => ?_⟩
    rw [List.flatten_cons] at hb ⊢
    rcases Nat.lt_or_ge k r'.length with hk | hk
    · rw [List.getElem?_append_left hk] at hb
      rw [List.getElem?_append_left (by omega)]
      exact ⟨r[k], List.getElem?_eq_getElem (by omega), h 0 r r' k _ b rfl rfl (List.getElem?_eq_getElem (by omega)) hb⟩
    · rw [List.getElem?_append_right hk] at hb
      rw [List.getElem?_append_right (by omega), e]
      exact k2 _ b hb

theorem Rep.wk {G : Gh} {w : World} {a b : AVal} (hab : Wk a b) : ∀ {v : Value}, Rep G w a v → Rep G w b v := by
  induction hab with
  | refl a => exact fun h => h
  | unk a => exact fun _ => .unk _
  | sl rows t =>
    intro v h
    cases h with
    | slnil _ => exact .slnil (.inl rfl)
    | slz _ => exact .slz (.inl rfl)
    | sl hsz hl h hi hb hc _ => exact .sl hsz hl h hi hb hc trivial
  | @agg cs ds hl h ih =>
    intro v k
    obtain ⟨vs, rfl, kl, k⟩ := k.agg_inv
    refine .agg (hl ▸ kl) fun i b u hb hu => ?_
    have hi : i < cs.length := by
      rcases Nat.lt_or_ge i ds.length with h' | h'
      · omega
      · rw [List.getElem?_eq_none h'] at hb; cases hb
    exact ih i _ b (List.getElem?_eq_getElem hi) hb (k i _ u (List.getElem?_eq_getElem hi) hu)
  | @tup cs ds hl h ih =>
    intro v k
    cases k with
    | tup kl k =>
      refine .tup (hl ▸ kl) fun i b u hb hu => ?_
      have hi : i < cs.length := by
        rcases Nat.lt_or_ge i ds.length with h' | h'
        · omega
        · rw [List.getElem?_eq_none h'] at hb; cases hb
      exact ih i _ b (List.getElem?_eq_getElem hi) hb (k i _ u (List.getElem?_eq_getElem hi) hu)
  | iface h ih =>
    intro v k
    cases k with
    | iface k => exact .iface (ih k)
  | @slw rows rows' t hl hlen h ih =>
    intro v k
    have nilc : rows = [] → rows' = [] := fun e => by subst e; exact List.eq_nil_of_length_eq_zero (by simpa using hl.symm)
    cases k with
    | slnil _ => rw [nilc rfl]; exact .slnil (.inl rfl)
    | slz _ => rw [nilc rfl]; exact .slz (.inl rfl)
    | @sl _ _ vs b off cap sz hsz hl2 h2 hi hb hc _ =>
      obtain ⟨f1, f2⟩ := flat_rel (R := fun a b => ∀ v, Rep G w a v → Rep G w b v) rows rows' hl hlen (fun i r r' j a b h1 h2 h3 h4 v => ih i r r' j a b h1 h2 h3 h4)
      rw [hl]
      refine .sl (sz := sz) (vs := vs) (fun r hr => ?_) (f1.symm.trans hl2) (fun i a v ha hv => ?_) hi hb (by omega) trivial
      · obtain ⟨i, hi2, rfl⟩ := List.mem_iff_getElem.1 hr
        have hx : i < rows.length := by omega
        rw [← hlen i rows[i] rows'[i] (List.getElem?_eq_getElem hx) (List.getElem?_eq_getElem hi2)]
        exact hsz _ (List.getElem_mem hx)
      · obtain ⟨a', ha', hR⟩ := f2 i a ha
        exact hR v (h2 i a' v ha' hv)

end Go.Eng

/- The abstract state, its tie to the machine's, and the rules for control. -/
set_option linter.unusedVariables false
set_option linter.unusedSimpArgs false
namespace Go.Eng
open Go.RowKit (Below)

inductive Ob where
  | cells (cs : List AVal) (o : Option TypeId := none)
  | map (es : List (AVal × AVal))
  | tok (n sz : Nat) (o : Option TypeId)
  | gone

abbrev Hp := Nat → Option Ob
def Hp.upd (H : Hp) (i : Nat) (o : Ob) : Hp := fun j => if j = i then some o else H j
def Hp.none : Hp := fun _ => Option.none
@[simp] theorem Hp.upd_same (H : Hp) (i : Nat) (o : Ob) : H.upd i o i = some o := by simp [Hp.upd]
theorem Hp.upd_ne (H : Hp) {i j : Nat} (o : Ob) (h : j ≠ i) : H.upd i o j = H j := by simp [Hp.upd, h]
theorem Hp.upd_upd (H : Hp) (i : Nat) (o o' : Ob) : (H.upd i o).upd i o' = H.upd i o' := by funext j; unfold Hp.upd; split <;> rfl
theorem Hp.upd_id (H : Hp) {i : Nat} {o : Ob} (h : H i = some o) : H.upd i o = H := by
  funext k; unfold Hp.upd; split
  · rename_i e; rw [e, h]
  · rfl
/-- An object is forgotten. -/
def Hp.del (H : Hp) (i : Nat) : Hp := fun j => if j = i then Option.none else H j
@[simp] theorem Hp.del_same (H : Hp) (i : Nat) : H.del i i = Option.none := by simp [Hp.del]
theorem Hp.del_ne (H : Hp) {i j : Nat} (h : j ≠ i) : H.del i j = H j := by simp [Hp.del, h]

/-- What is known less. -/
def Hp.le (H H' : Hp) : Prop := ∀ i o, H i = some o → H' i = some o

def Sta.block : Sta → Option Nat
  | .obj b => some b
  | .tok b _ _ => some b
  | _ => none

/-- Keys that a map can have here: one cell of plain data, or a row of such. -/
def MapOk (G : Gh) (w : World) (es : List (AVal × AVal)) (arr : Array MapEntry) (clock : Nat) : Prop :=
  es.length = arr.size ∧ (∀ (i : Nat) p e, es[i]? = some p → arr[i]? = some e → Rep G w p.1 e.key ∧ Rep G w p.2 e.val ∧ e.born < clock) ∧
    ∀ (i j : Nat) e f, arr[i]? = some e → arr[j]? = some f → e.born = f.born → i = j

def ObOk (base : Nat) (G : Gh) (w : World) (id : Nat) : Ob → Prop
  | .cells cs o => ∃ b vs ty ex, G.st id = .obj b ∧ base ≤ b ∧ G.fr b = some 0 ∧ w.heap[b]? = some (.cells (List.toArray (vs ++ ex)) ty (0, 0)) ∧ Reps G w cs vs ∧ ∀ e, o = some e → ty = e
  | .map es => ∃ b arr clock, G.st id = .obj b ∧ base ≤ b ∧ G.fr b = some 0 ∧ w.heap[b]? = some (.map arr clock) ∧ MapOk G w es arr clock
  | .tok n sz o => ∃ b c ty, G.st id = .tok b n sz ∧ base ≤ b ∧ G.fr b = some (n * sz) ∧ w.heap[b]? = some (.cells c ty (0, 0)) ∧ n * sz ≤ c.size ∧ ∀ e, o = some e → ty = e
  | .gone => False

structure Wr (base : Nat) (w0 : World) (H : Hp) (G : Gh) (w : World) : Prop where
  below : Below base w0 w
  le : base ≤ w.heap.size
  old : ∀ b, b < base → G.fr b = none
  new : ∀ b, w.heap.size ≤ b → G.fr b = none
  ob : ∀ id o, H id = some o → ObOk base G w id o
  apart : ∀ i j b, H i ≠ none → H j ≠ none → (G.st i).block = some b → (G.st j).block = some b → i = j
  fresh : ∃ n, ∀ id, n ≤ id → G.st id = .unused

/-- The block is none of those that are known and may be written. -/
def unkB (H : Hp) (G : Gh) (b : Nat) : Prop := ∀ id, H id ≠ none → (G.st id).block ≠ some b

/-- What is not known is left alone. -/
structure Fr (H : Hp) (G : Gh) (w : World) (H' : Hp) (G' : Gh) (w' : World) : Prop where
  kept : ∀ b, b < w.heap.size → unkB H G b → w'.heap[b]? = w.heap[b]? ∧ G'.fr b = G.fr b
  unk : ∀ b, b < w.heap.size → unkB H G b → unkB H' G' b

theorem Fr.refl (H : Hp) (G : Gh) (w : World) : Fr H G w H G w := ⟨fun _ _ _ => ⟨rfl, rfl⟩, fun _ _ h => h⟩
theorem Fr.trans {H H' H'' : Hp} {G G' G'' : Gh} {w w' w'' : World} (h : Fr H G w H' G' w') (hs : w.heap.size ≤ w'.heap.size) (k : Fr H' G' w' H'' G'' w'') : Fr H G w H'' G'' w'' :=
  ⟨fun b hb hu => by
    obtain ⟨h1, h2⟩ := h.kept b hb hu
    obtain ⟨k1, k2⟩ := k.kept b (Nat.lt_of_lt_of_le hb hs) (h.unk b hb hu)
    exact ⟨k1.trans h1, k2.trans h2⟩, fun b hb hu => k.unk b (Nat.lt_of_lt_of_le hb hs) (h.unk b hb hu)⟩
theorem Fr.le {H H' H2 : Hp} {G G' : Gh} {w w' : World} (h : Fr H G w H' G' w') (hl : H2.le H') : Fr H G w H2 G' w' :=
  ⟨h.kept, fun b hb hu id hid => h.unk b hb hu id (fun e => by
    cases hh : H2 id with
    | none => exact hid hh
    | some o => rw [hl id o hh] at e; cases e)⟩

structure ADef where
  fn : Fn
  caps : List AVal
  args : List AVal

structure S where
  tm : List AVal
  hp : Hp
  ds : List ADef

def DsRep (G : Gh) (w : World) : List ADef → List Deferred → Prop
  | [], [] => True
  | d :: ds, c :: cs => (∃ caps, c.target = .fn d.fn (List.toArray caps) ∧ Reps G w d.caps caps ∧ Reps G w d.args c.args.toList) ∧ DsRep G w ds cs
  | _, _ => False

theorem DsRep.mono {G G' : Gh} {w w' : World} (x : GExt G w G' w') : ∀ {ds : List ADef} {cs : List Deferred}, DsRep G w ds cs → DsRep G' w' ds cs
  | [], [], _ => trivial
  | d :: ds, c :: cs, ⟨⟨caps, h1, h2, h3⟩, h⟩ => ⟨⟨caps, h1, h2.mono x, h3.mono x⟩, DsRep.mono x h⟩
  | [], _ :: _, h => h.elim
  | _ :: _, [], h => h.elim

theorem MapOk.mono {G G' : Gh} {w w' : World} {es : List (AVal × AVal)} {arr : Array MapEntry} {clock : Nat} (h : MapOk G w es arr clock) (x : GExt G w G' w') : MapOk G' w' es arr clock :=
  ⟨h.1, fun i p e hp he => let ⟨h1, h2, h3⟩ := h.2.1 i p e hp he; ⟨h1.mono x, h2.mono x, h3⟩, h.2.2⟩

/-- The machine's state is as the abstract one says. -/
structure Good (base : Nat) (w0 : World) (H : Hp) (G : Gh) (w : World) (s : S) (G' : Gh) (a' : Act) (w' : World) : Prop where
  wr : Wr base w0 s.hp G' w'
  ext : GExt G w G' w'
  tm : Reps G' w' s.tm a'.tmps.toList
  ds : DsRep G' w' s.ds a'.defers
  fr : Fr H G w s.hp G' w'

inductive AEx where
  | normal
  | exit (id : Nat)
  | goto (l : Nat)
  | ret
  | panic (v : AVal)

abbrev Post := AEx → S → Prop

/-- What is taken for granted of a run: may it end for want of room; what holds of the world in which it began. -/
structure Cfg where
  O : Prop
  L : Nat → World → Prop

def Meets (O : Cfg) (base : Nat) (w0 : World) (H : Hp) (G : Gh) (w : World) (Q : Post) : Exit → Act → World → Prop
  | .outgrown, _, _ => O.O
  | .panic chain, a', w' => ∃ v u s' G', chain = [{ v := u, recovered := false }] ∧ Rep G' w' v u ∧ Q (.panic v) s' ∧ Good base w0 H G w s' G' a' w'
  | .normal, a', w' => ∃ s' G', Q .normal s' ∧ Good base w0 H G w s' G' a' w'
  | .exit id, a', w' => ∃ s' G', Q (.exit id) s' ∧ Good base w0 H G w s' G' a' w'
  | .goto l, a', w' => ∃ s' G', Q (.goto l) s' ∧ Good base w0 H G w s' G' a' w'
  | .ret, a', w' => ∃ s' G', Q .ret s' ∧ Good base w0 H G w s' G' a' w'

theorem Good.trans {base : Nat} {w0 : World} {H H1 : Hp} {G G1 G2 : Gh} {w w1 : World} {s : S} {a2 : Act} {w2 : World} (h : GExt G w G1 w1) (hf : Fr H G w H1 G1 w1) (k : Good base w0 H1 G1 w1 s G2 a2 w2) : Good base w0 H G w s G2 a2 w2 :=
  ⟨k.wr, h.trans k.ext, k.tm, k.ds, hf.trans h.size k.fr⟩

theorem Meets.trans {O : Cfg} {base : Nat} {w0 : World} {H H1 : Hp} {G G1 : Gh} {w w1 : World} {Q : Post} (h : GExt G w G1 w1) (hf : Fr H G w H1 G1 w1) : ∀ {e : Exit} {a' : Act} {w' : World}, Meets O base w0 H1 G1 w1 Q e a' w' → Meets O base w0 H G w Q e a' w'
  | .outgrown, _, _, k => k
  | .panic _, _, _, ⟨v, u, s', G', h1, h2, h3, h4⟩ => ⟨v, u, s', G', h1, h2, h3, Good.trans h hf h4⟩
  | .normal, _, _, ⟨s', G', h3, h4⟩ => ⟨s', G', h3, Good.trans h hf h4⟩
  | .exit _, _, _, ⟨s', G', h3, h4⟩ => ⟨s', G', h3, Good.trans h hf h4⟩
  | .goto _, _, _, ⟨s', G', h3, h4⟩ => ⟨s', G', h3, Good.trans h hf h4⟩
  | .ret, _, _, ⟨s', G', h3, h4⟩ => ⟨s', G', h3, Good.trans h hf h4⟩

theorem Meets.mono {O : Cfg} {base : Nat} {w0 : World} {H : Hp} {G : Gh} {w : World} {Q Q' : Post} (h : ∀ e s, Q e s → Q' e s) : ∀ {e : Exit} {a' : Act} {w' : World}, Meets O base w0 H G w Q e a' w' → Meets O base w0 H G w Q' e a' w'
  | .outgrown, _, _, k => k
  | .panic _, _, _, ⟨v, u, s', G', h1, h2, h3, h4⟩ => ⟨v, u, s', G', h1, h2, h _ _ h3, h4⟩
  | .normal, _, _, ⟨s', G', h3, h4⟩ => ⟨s', G', h _ _ h3, h4⟩
  | .exit _, _, _, ⟨s', G', h3, h4⟩ => ⟨s', G', h _ _ h3, h4⟩
  | .goto _, _, _, ⟨s', G', h3, h4⟩ => ⟨s', G', h _ _ h3, h4⟩
  | .ret, _, _, ⟨s', G', h3, h4⟩ => ⟨s', G', h _ _ h3, h4⟩

def AWp (O : Cfg) (P : Program) (c : Code) (Q : Post) (s : S) : Prop :=
  ∀ base w0 G w a, O.L base w0 → Wr base w0 s.hp G w → Reps G w s.tm a.tmps.toList → DsRep G w s.ds a.defers → c.wp P (Meets O base w0 s.hp G w Q) a w

section
variable {O : Cfg} {P : Program} {Q Q' : Post} {s : S}

theorem AWp.mono {c : Code} (h : AWp O P c Q s) (hq : ∀ e s, Q e s → Q' e s) : AWp O P c Q' s :=
  fun base w0 G w a hL h1 h2 h3 => Code.wp_mono (fun e a' w' => Meets.mono hq) (h base w0 G w a hL h1 h2 h3)

theorem AWp.skip (h : Q .normal s) : AWp O P .skip Q s := fun base w0 G w a hL h1 h2 h3 => wp_skip ⟨s, G, h, h1, GExt.refl _ _, h2, h3, Fr.refl _ _ _⟩
theorem AWp.label {l : Nat} (h : Q .normal s) : AWp O P (.label l) Q s := fun base w0 G w a hL h1 h2 h3 => wp_label ⟨s, G, h, h1, GExt.refl _ _, h2, h3, Fr.refl _ _ _⟩
theorem AWp.exit {id : Nat} (h : Q (.exit id) s) : AWp O P (.exit id) Q s := fun base w0 G w a hL h1 h2 h3 => wp_exit ⟨s, G, h, h1, GExt.refl _ _, h2, h3, Fr.refl _ _ _⟩
theorem AWp.goto {l : Nat} (h : Q (.goto l) s) : AWp O P (.goto l) Q s := fun base w0 G w a hL h1 h2 h3 => wp_goto ⟨s, G, h, h1, GExt.refl _ _, h2, h3, Fr.refl _ _ _⟩
theorem AWp.ret (h : Q .ret s) : AWp O P .ret Q s := fun base w0 G w a hL h1 h2 h3 => wp_ret ⟨s, G, h, h1, GExt.refl _ _, h2, h3, Fr.refl _ _ _⟩

def andThen (K : S → Prop) (Q : Post) : Post
  | .normal, s => K s
  | e, s => Q e s

theorem AWp.seq {x y : Code} (h : AWp O P x (andThen (AWp O P y Q) Q) s) : AWp O P (.seq x y) Q s := by
  intro base w0 G w a hL h1 h2 h3
  refine wp_seq (Code.wp_mono ?_ (h base w0 G w a hL h1 h2 h3))
  intro e a' w' hm
  cases e with
  | normal =>
    obtain ⟨s', G', hq, hg⟩ := hm
    exact Code.wp_mono (fun e a w => Meets.trans hg.ext hg.fr) (hq base w0 G' w' a' hL hg.wr hg.tm hg.ds)
  | outgrown => exact hm
  | panic c => exact hm
  | exit id => exact hm
  | goto l => exact hm
  | ret => exact hm

inductive Opd where
  | t (i : Nat)
  | c (v : AVal)
  | f (f : FuncId)

def ev (tm : List AVal) : Opd → AVal
  | .t i => tm.getD i .unk
  | .c v => v
  | .f f => .func (.func f) [] []

theorem AWp.cond {c : Operand} {o : Opd} {x y : Code} {b : Bool} (ho : ∀ G w (a : Act), Reps G w s.tm a.tmps.toList → Rep G w (ev s.tm o) (a.eval c)) (hb : ev s.tm o = .bool b)
    (ht : b = true → AWp O P x Q s) (hf : b = false → AWp O P y Q s) : AWp O P (.cond c x y) Q s := by
  intro base w0 G w a hL h1 h2 h3
  have hc := ho G w a h2
  rw [hb] at hc
  have hc' : a.eval c = .bool b := by generalize a.eval c = v at hc; cases hc; rfl
  refine wp_cond hc' ?_
  cases b with
  | true => exact ht rfl base w0 G w a hL h1 h2 h3
  | false => exact hf rfl base w0 G w a hL h1 h2 h3

def inBlk (id : Nat) (Q : Post) : Post
  | .exit id', s => if id' = id then Q .normal s else Q (.exit id') s
  | e, s => Q e s

theorem AWp.block {id : Nat} {c : Code} (h : AWp O P c (inBlk id Q) s) : AWp O P (.block id c) Q s := by
  intro base w0 G w a hL h1 h2 h3
  refine wp_block (Code.wp_mono ?_ (h base w0 G w a hL h1 h2 h3))
  intro e a' w' hm
  cases e with
  | exit id' =>
    obtain ⟨s', G', hq, hg⟩ := hm
    simp only [Exit.inBlock]
    simp only [inBlk] at hq
    split
    · rename_i e; rw [if_pos e] at hq; exact ⟨s', G', hq, hg⟩
    · rename_i e; rw [if_neg e] at hq; exact ⟨s', G', hq, hg⟩
  | normal => exact hm
  | outgrown => exact hm
  | panic c => exact hm
  | goto l => exact hm
  | ret => exact hm

theorem wp_loop_rel {P : Program} {Q : Exit → Act → World → Prop} {c : Code} (I : Nat → Act → World → Prop)
    (round : ∀ n a w, I n a w → c.wp P (Exit.then (fun a' w' => ∃ m, m < n ∧ I m a' w') Q) a w) {n : Nat} {a : Act} {w : World} (h₀ : I n a w) : (Code.loop c).wp P Q a w := by
  intro b k cs
  have key : ∀ n a w, I n a w →
      ∃ e a' w', Q e a' w' ∧ Arrives P (lone (b.at a (.code c :: .inLoop c :: k)) cs w) b k cs e a' w' := by
    intro n
    induction n using Nat.strongRecOn with
    | _ n ih =>
      intro a w hI
      obtain ⟨e, a₁, w₁, hq, harr⟩ := round n a w hI b (.inLoop c :: k) cs
      cases e with
      | normal =>
        obtain ⟨m, hlt, hI₁⟩ := hq
        obtain ⟨e₂, a₂, w₂, hq₂, harr₂⟩ := ih m hlt a₁ w₁ hI₁
        exact ⟨e₂, a₂, w₂, hq₂, .of_steps (Steps.trans harr (.one step_inLoop)) harr₂⟩
      | exit id => exact ⟨_, a₁, w₁, hq, .pass (x := .inLoop c) rfl (fun _ _ => .inl (by simp)) harr⟩
      | goto l => exact ⟨_, a₁, w₁, hq, .pass (x := .inLoop c) rfl (fun _ _ => .inl (by simp)) harr⟩
      | ret => exact ⟨_, a₁, w₁, hq, .pass (x := .inLoop c) rfl (fun _ _ => .inl (by simp)) harr⟩
      | panic ch => exact ⟨_, a₁, w₁, hq, .pass (x := .inLoop c) rfl (fun _ _ => .inl (by simp)) harr⟩
      | outgrown => exact ⟨_, a₁, w₁, hq, .pass (x := .inLoop c) rfl (fun _ _ => .inl (by simp)) harr⟩
  obtain ⟨e, a', w', hq, harr⟩ := key _ a w h₀
  exact ⟨e, a', w', hq, .of_steps (.one step_loop) harr⟩

/-- A loop: I n s: n is a bound on the rounds that are left. -/
theorem AWp.loop {c : Code} (I : Nat → S → Prop) {n : Nat} (h0 : I n s)
    (round : ∀ n s, I n s → AWp O P c (andThen (fun s' => ∃ m, m < n ∧ I m s') Q) s) : AWp O P (.loop c) Q s := by
  intro base w0 G w a hL h1 h2 h3
  refine wp_loop_rel (fun n a' w' => ∃ s' G', I n s' ∧ Good base w0 s.hp G w s' G' a' w') ?_ (n := n) ⟨s, G, h0, h1, GExt.refl _ _, h2, h3, Fr.refl _ _ _⟩
  intro n a' w' ⟨s', G', hI, hg⟩
  refine Code.wp_mono ?_ (round n s' hI base w0 G' w' a' hL hg.wr hg.tm hg.ds)
  intro e a2 w2 hm
  cases e with
  | normal =>
    obtain ⟨s2, G2, ⟨m, hlt, hI2⟩, hg2⟩ := hm
    exact ⟨m, hlt, s2, G2, hI2, Good.trans hg.ext hg.fr hg2⟩
  | outgrown => exact hm
  | panic c => exact Meets.trans (O := O) (base := base) (w0 := w0) (Q := Q) hg.ext hg.fr (e := .panic c) hm
  | exit id => exact Meets.trans (O := O) (base := base) (w0 := w0) (Q := Q) hg.ext hg.fr (e := .exit id) hm
  | goto l => exact Meets.trans (O := O) (base := base) (w0 := w0) (Q := Q) hg.ext hg.fr (e := .goto l) hm
  | ret => exact Meets.trans (O := O) (base := base) (w0 := w0) (Q := Q) hg.ext hg.fr (e := .ret) hm

inductive ARet where
  | ret (v : AVal)
  | panic (v : AVal)

def RMeets (O : Cfg) (base : Nat) (w0 : World) (H : Hp) (G : Gh) (w : World) (Q : ARet → Hp → Prop) : Ending → World → Prop
  | .outgrown, _ => O.O
  | .panicked chain, w' => ∃ v u H' G', chain = [{ v := u, recovered := false }] ∧ Rep G' w' v u ∧ Q (.panic v) H' ∧ Wr base w0 H' G' w' ∧ GExt G w G' w' ∧ Fr H G w H' G' w'
  | .returned u, w' => ∃ v H' G', Rep G' w' v u ∧ Q (.ret v) H' ∧ Wr base w0 H' G' w' ∧ GExt G w G' w' ∧ Fr H G w H' G' w'

/-- A function is called: it has a body, or it is one of the machine's own. -/
def CallOk (P : Program) (f : FuncId) (vs : Array Value) (w : World) (R : Ending → World → Prop) : Prop :=
  ((callFunc f vs).run P w = .ok (.enter f vs) w ∧ Calls P f vs w R) ∨ ∃ u w', (callFunc f vs).run P w = .ok (.value u) w' ∧ R (.returned u) w'

/-- The contract of a function. -/
def ACalls (O : Cfg) (P : Program) (f : FuncId) (args : List AVal) (H : Hp) (Q : ARet → Hp → Prop) : Prop :=
  ∀ base w0 G w vs, O.L base w0 → Wr base w0 H G w → Reps G w args vs → CallOk P f vs.toArray w (RMeets O base w0 H G w Q)

theorem CallOk.mono {P : Program} {f : FuncId} {vs : Array Value} {w : World} {R R' : Ending → World → Prop} (h : CallOk P f vs w R) (hr : ∀ e w', R e w' → R' e w') : CallOk P f vs w R' := by
  rcases h with ⟨h1, h2⟩ | ⟨u, w', h1, h2⟩
  · exact .inl ⟨h1, h2.mono hr⟩
  · exact .inr ⟨u, w', h1, hr _ _ h2⟩

theorem RMeets.mono {O : Cfg} {base : Nat} {w0 : World} {H : Hp} {G : Gh} {w : World} {Q Q' : ARet → Hp → Prop} (h : ∀ r H, Q r H → Q' r H) : ∀ {e : Ending} {w' : World}, RMeets O base w0 H G w Q e w' → RMeets O base w0 H G w Q' e w'
  | .outgrown, _, k => k
  | .panicked _, _, ⟨v, u, H', G', h1, h2, h3, h4⟩ => ⟨v, u, H', G', h1, h2, h _ _ h3, h4⟩
  | .returned _, _, ⟨v, H', G', h2, h3, h4⟩ => ⟨v, H', G', h2, h _ _ h3, h4⟩

theorem ACalls.mono {f : FuncId} {args : List AVal} {H : Hp} {Q Q' : ARet → Hp → Prop} (h : ACalls O P f args H Q) (hq : ∀ r H, Q r H → Q' r H) : ACalls O P f args H Q' :=
  fun base w0 G w vs hL h1 h2 => CallOk.mono (h base w0 G w vs hL h1 h2) fun e w' => RMeets.mono hq

theorem Wr.le' {base : Nat} {w0 : World} {H H' : Hp} {G : Gh} {w : World} (h : Wr base w0 H' G w) (hl : H.le H') : Wr base w0 H G w :=
  ⟨h.below, h.le, h.old, h.new, fun id o ho => h.ob id o (hl id o ho), fun i j b hi hj => h.apart i j b (fun e => by
      cases hh : H i with
      | none => exact hi hh
      | some o => rw [hl i o hh] at e; cases e) (fun e => by
      cases hh : H j with
      | none => exact hj hh
      | some o => rw [hl j o hh] at e; cases e), h.fresh⟩

/-- What is known may be forgotten at the end. -/
theorem ACalls.forget {f : FuncId} {args : List AVal} {H : Hp} {Q : ARet → Hp → Prop}
    (h : ACalls O P f args H fun r H' => (match r with | .ret v => ∃ v' H2, Wk v v' ∧ H2.le H' ∧ Q (.ret v') H2 | .panic v => ∃ v' H2, Wk v v' ∧ H2.le H' ∧ Q (.panic v') H2)) : ACalls O P f args H Q :=
  fun base w0 G w vs hL h1 h2 => CallOk.mono (h base w0 G w vs hL h1 h2) fun e w' hm => by
    cases e with
    | outgrown => exact hm
    | panicked chain =>
      obtain ⟨v, u, H', G', he, hr, ⟨v', H2, hv, hl, hq⟩, hw, hx, hf⟩ := hm
      exact ⟨v', u, H2, G', he, hr.wk hv, hq, hw.le' hl, hx, hf.le hl⟩
    | returned u =>
      obtain ⟨v, H', G', hr, ⟨v', H2, hv, hl, hq⟩, hw, hx, hf⟩ := hm
      exact ⟨v', H2, G', hr.wk hv, hq, hw.le' hl, hx, hf.le hl⟩
end

end Go.Eng

/- What the memory's own steps do to what is known of it. -/
set_option linter.unusedVariables false
set_option linter.unusedSimpArgs false
namespace Go.Eng
open Go.RowKit (Below)

theorem heap_push_lt (w : World) (o : Obj) {b : Nat} (h : b < w.heap.size) : (w.alloc o).heap[b]? = w.heap[b]? := by
  show (w.heap.push o)[b]? = _
  rw [Array.getElem?_push, if_neg (by omega)]
theorem heap_push_eq (w : World) (o : Obj) : (w.alloc o).heap[w.heap.size]? = some o := by
  show (w.heap.push o)[w.heap.size]? = _
  simp

theorem cell?_of_heap {w w' : World} {b o : Nat} (h : w'.heap[b]? = w.heap[b]?) : w'.cell? ⟨b, o, none⟩ = w.cell? ⟨b, o, none⟩ := by simp only [World.cell?, h]
theorem shape?_of_heap {w w' : World} {b : Nat} (h : w'.heap[b]? = w.heap[b]?) : w'.shape? b = w.shape? b := by simp only [World.shape?, h]

/-- ObOk goes on where the object's block and the ghosts of its number have not turned. -/
theorem ObOk.mono {base : Nat} {G G' : Gh} {w w' : World} {id : Nat} {o : Ob} (h : ObOk base G w id o) (x : GExt G w G' w') (hs : G'.st id = G.st id)
    (hf : ∀ b, (G.st id).block = some b → G'.fr b = G.fr b ∧ w'.heap[b]? = w.heap[b]?) : ObOk base G' w' id o := by
  cases o with
  | cells cs o =>
    obtain ⟨b, vs, ty, ex, h1, h2, h3, h4, h5, h6⟩ := h
    obtain ⟨f1, f2⟩ := hf b (by rw [h1]; rfl)
    exact ⟨b, vs, ty, ex, hs.trans h1, h2, f1.trans h3, f2.trans h4, h5.mono x, h6⟩
  | map es =>
    obtain ⟨b, arr, clock, h1, h2, h3, h4, h5⟩ := h
    obtain ⟨f1, f2⟩ := hf b (by rw [h1]; rfl)
    exact ⟨b, arr, clock, hs.trans h1, h2, f1.trans h3, f2.trans h4, h5.mono x⟩
  | tok n sz o =>
    obtain ⟨b, c, ty, h1, h2, h3, h4, h5⟩ := h
    obtain ⟨f1, f2⟩ := hf b (by rw [h1]; rfl)
    exact ⟨b, c, ty, hs.trans h1, h2, f1.trans h3, f2.trans h4, h5⟩
  | gone => exact h.elim

theorem ObOk.lt {base : Nat} {G : Gh} {w : World} {id : Nat} {o : Ob} (h : ObOk base G w id o) : ∃ b, (G.st id).block = some b ∧ b < w.heap.size ∧ base ≤ b := by
  have lt : ∀ {b : Nat} {o : Obj}, w.heap[b]? = some o → b < w.heap.size := fun {b o} h => (Array.getElem?_eq_some_iff.1 h).1
  cases o with
  | cells cs o => obtain ⟨b, vs, ty, ex, h1, h2, h3, h4, h5⟩ := h; exact ⟨b, by rw [h1]; rfl, lt h4, h2⟩
  | map es => obtain ⟨b, arr, clock, h1, h2, h3, h4, h5⟩ := h; exact ⟨b, by rw [h1]; rfl, lt h4, h2⟩
  | tok n sz o => obtain ⟨b, c, ty, h1, h2, h3, h4, h5⟩ := h; exact ⟨b, by rw [h1]; rfl, lt h4, h2⟩
  | gone => exact h.elim

section
variable {base : Nat} {w0 : World} {H : Hp} {G : Gh} {w : World}

/-- The world has turned in nothing that counts here. -/
theorem Wr.same {w' : World} (h : Wr base w0 H G w) (hh : w'.heap = w.heap) (ho : w'.os = w.os) (ht : w'.tape = w.tape) (hu : w'.output = w.output) : Wr base w0 H G w' ∧ GExt G w G w' := by
  have hc : ∀ b : Nat, w'.heap[b]? = w.heap[b]? := fun b => by rw [hh]
  have x : GExt G w G w' := ⟨by rw [hh]; exact Nat.le_refl _, fun b _ => shape?_of_heap (hc b), fun b _ hf => ⟨hf, hc b⟩, fun b n _ hf => ⟨fun n' hn' => by rw [hf] at hn'; cases hn'; exact Nat.le_refl _, fun o _ => cell?_of_heap (hc b)⟩,
    fun _ _ h => h, fun _ h => h, fun id b m s h => .inr ⟨b, m, s, h, Nat.le_refl _, fun _ => ⟨rfl, rfl⟩⟩⟩
  exact ⟨⟨h.below.trans ⟨ho, ht, hu, by rw [hh]; exact Nat.le_refl _, fun k _ => hc k⟩, by rw [hh]; exact h.le, h.old, by rw [hh]; exact h.new,
    fun id o hi => (h.ob id o hi).mono x rfl fun b _ => ⟨rfl, hc b⟩, h.apart, h.fresh⟩, x⟩

theorem Wr.drew (h : Wr base w0 H G w) : Wr base w0 H G w.drew ∧ GExt G w G w.drew := h.same rfl rfl rfl rfl

/-- A new block that nobody writes. -/
theorem Wr.alloc (h : Wr base w0 H G w) (o : Obj) : Wr base w0 H G (w.alloc o) ∧ GExt G w G (w.alloc o) := by
  have hc : ∀ b, b < w.heap.size → (w.alloc o).heap[b]? = w.heap[b]? := fun b hb => heap_push_lt w o hb
  have x : GExt G w G (w.alloc o) := ⟨by simp, fun b hb => shape?_of_heap (hc b hb), fun b hb hf => ⟨hf, hc b hb⟩, fun b n hb hf => ⟨fun n' hn' => by rw [hf] at hn'; cases hn'; exact Nat.le_refl _, fun o _ => cell?_of_heap (hc b hb)⟩,
    fun _ _ h => h, fun _ h => h, fun id b m s h => .inr ⟨b, m, s, h, Nat.le_refl _, fun _ => ⟨rfl, rfl⟩⟩⟩
  exact ⟨⟨h.below.alloc h.le o, by have := h.le; simp; omega, h.old, fun b hb => h.new b (by simp at hb; omega),
    fun id o' hi => (h.ob id o' hi).mono x rfl fun b hb => ⟨rfl, (by
      obtain ⟨b', h1, h2, _⟩ := (h.ob id o' hi).lt
      rw [h1] at hb; cases hb
      exact hc b h2)⟩, h.apart, h.fresh⟩, x⟩

def Gh.setSt (G : Gh) (id : Nat) (s : Sta) (b : Nat) (f : Option Nat) : Gh := ⟨fun i => if i = id then s else G.st i, fun k => if k = b then f else G.fr k⟩

theorem fresh_id (h : Wr base w0 H G w) : ∃ id, G.st id = .unused ∧ H id = none ∧ (∀ i, H i ≠ none → i ≠ id) := by
  obtain ⟨n, hn⟩ := h.fresh
  have hH : H n = none := by
    cases hh : H n with
    | none => rfl
    | some o =>
      obtain ⟨b, h1, _⟩ := (h.ob n o hh).lt
      rw [hn n (Nat.le_refl _)] at h1
      cases h1
  exact ⟨n, hn n (Nat.le_refl _), hH, fun i hi e => hi (e ▸ hH)⟩

/-- A new object of the call's own. -/
theorem Wr.newOb (h : Wr base w0 H G w) {id : Nat} (hid : G.st id = .unused) (hH : H id = none) (o : Obj) (s : Sta) (f : Nat) (ob : Ob) (hs : s.block = some w.heap.size)
    (hu : s = .obj w.heap.size ∨ ∃ m sz, s = .tok w.heap.size m sz)
    (hob : ∀ G' w', GExt G w G' w' → G'.st id = s → G'.fr w.heap.size = some f → w'.heap[w.heap.size]? = some o → ObOk base G' w' id ob) :
    Wr base w0 (H.upd id ob) (G.setSt id s w.heap.size (some f)) (w.alloc o) ∧ GExt G w (G.setSt id s w.heap.size (some f)) (w.alloc o) := by
  have hc : ∀ b, b < w.heap.size → (w.alloc o).heap[b]? = w.heap[b]? := fun b hb => heap_push_lt w o hb
  have hfr : ∀ b, b < w.heap.size → (G.setSt id s w.heap.size (some f)).fr b = G.fr b := fun b hb => by simp only [Gh.setSt]; rw [if_neg (by omega)]
  have hst : ∀ i, i ≠ id → (G.setSt id s w.heap.size (some f)).st i = G.st i := fun i hi => by simp only [Gh.setSt]; rw [if_neg hi]
  have hne : ∀ i, G.st i ≠ .unused → i ≠ id := fun i hi e => hi (e ▸ hid)
  have x : GExt G w (G.setSt id s w.heap.size (some f)) (w.alloc o) := {
    size := by simp
    shape := fun b hb => shape?_of_heap (hc b hb)
    imm := fun b hb hf => ⟨(hfr b hb).trans hf, hc b hb⟩
    own := fun b n hb hf => ⟨fun n' hn' => by rw [hfr b hb, hf] at hn'; cases hn'; exact Nat.le_refl _, fun o _ => cell?_of_heap (hc b hb)⟩
    obj := fun i b hi => by rw [hst i (hne i (by rw [hi]; simp))]; exact hi
    dead := fun i hi => by rw [hst i (hne i (by rw [hi]; simp))]; exact hi
    tok := fun i b m sz hi => .inr ⟨b, m, sz, by rw [hst i (hne i (by rw [hi]; simp))]; exact hi, Nat.le_refl _, fun _ => ⟨rfl, rfl⟩⟩ }
  refine ⟨⟨h.below.alloc h.le o, by have := h.le; simp; omega, fun b hb => ?_, fun b hb => ?_, fun i o' hi => ?_, fun i j b hi hj h1 h2 => ?_, ?_⟩, x⟩
  · rw [hfr b (by have := h.le; omega)]; exact h.old b hb
  · simp at hb
    simp only [Gh.setSt]; rw [if_neg (by omega)]
    exact h.new b (by omega)
  · by_cases e : i = id
    · subst e
      rw [Hp.upd_same] at hi; cases hi
      exact hob _ _ x (by simp [Gh.setSt]) (by simp [Gh.setSt]) (heap_push_eq w o)
    · rw [Hp.upd_ne _ _ e] at hi
      refine (h.ob i o' hi).mono x (hst i e) fun b hb => ?_
      obtain ⟨b', h1, h2, _⟩ := (h.ob i o' hi).lt
      rw [h1] at hb; cases hb
      exact ⟨hfr b h2, hc b h2⟩
  · by_cases e : i = id
    · by_cases e' : j = id
      · rw [e, e']
      · exfalso
        rw [Hp.upd_ne _ _ e'] at hj
        rw [hst j e'] at h2
        subst e
        simp only [Gh.setSt, if_true] at h1
        rw [hs] at h1; cases h1
        cases hh : H j with
        | none => exact hj hh
        | some o' =>
          obtain ⟨b', k1, k2, _⟩ := (h.ob j o' hh).lt
          rw [h2] at k1; cases k1; omega
    · by_cases e' : j = id
      · exfalso
        rw [Hp.upd_ne _ _ e] at hi
        rw [hst i e] at h1
        subst e'
        simp only [Gh.setSt, if_true] at h2
        rw [hs] at h2; cases h2
        cases hh : H i with
        | none => exact hi hh
        | some o' =>
          obtain ⟨b', k1, k2, _⟩ := (h.ob i o' hh).lt
          rw [h1] at k1; cases k1; omega
      · rw [Hp.upd_ne _ _ e] at hi
        rw [Hp.upd_ne _ _ e'] at hj
        rw [hst i e] at h1
        rw [hst j e'] at h2
        exact h.apart i j b hi hj h1 h2
  · obtain ⟨n, hn⟩ := h.fresh
    refine ⟨max n (id + 1), fun i hi => ?_⟩
    rw [hst i (by omega)]
    exact hn i (by omega)

/-- A block of an object has turned. -/
theorem Wr.setOb (h : Wr base w0 H G w) {id b : Nat} {ob ob' : Ob} {o o' : Obj} (hH : H id = some ob) (hst : G.st id = .obj b) (hf : G.fr b = some 0) (hb : base ≤ b) (ho : w.heap[b]? = some o)
    (w' : World) (hw : w'.heap = w.heap.setIfInBounds b o') (h1 : w'.os = w.os) (h2 : w'.tape = w.tape) (h3 : w'.output = w.output)
    (hsh : (match o, o' with | .cells c t _, .cells c' t' _ => t = t' ∧ c.size = c'.size | .cells .., _ => False | _, .cells .. => False | _, _ => True))
    (hob : ∀ w', GExt G w G w' → w'.heap[b]? = some o' → ObOk base G w' id ob') : Wr base w0 (H.upd id ob') G w' ∧ GExt G w G w' := by
  have hlt : b < w.heap.size := (Array.getElem?_eq_some_iff.1 ho).1
  have hc : ∀ k, k ≠ b → w'.heap[k]? = w.heap[k]? := fun k hk => by rw [hw, Array.getElem?_setIfInBounds, if_neg (by omega)]
  have hcb : w'.heap[b]? = some o' := by rw [hw, Array.getElem?_setIfInBounds]; simp [hlt]
  have hsz : w'.heap.size = w.heap.size := by rw [hw]; simp
  have x : GExt G w G w' := {
    size := by rw [hsz]; exact Nat.le_refl _
    shape := fun k hk => by
      by_cases e : k = b
      · subst e
        simp only [World.shape?, hcb, ho]
        cases o <;> cases o' <;> simp at hsh ⊢
        obtain ⟨e1, e2⟩ := hsh
        exact ⟨e1.symm, e2.symm⟩
      · exact shape?_of_heap (hc k e)
    imm := fun k hk hfk => ⟨hfk, hc k (fun e => by rw [e, hf] at hfk; cases hfk)⟩
    own := fun k n hk hfk => ⟨fun n' hn' => by rw [hfk] at hn'; cases hn'; exact Nat.le_refl _, fun o ho => by
      by_cases e : k = b
      · subst e; rw [hf] at hfk; cases hfk; omega
      · exact cell?_of_heap (hc k e)⟩
    obj := fun _ _ h => h
    dead := fun _ h => h
    tok := fun id b m s h => .inr ⟨b, m, s, h, Nat.le_refl _, fun _ => ⟨rfl, rfl⟩⟩ }
  refine ⟨⟨h.below.trans ⟨h1, h2, h3, by rw [hsz]; exact Nat.le_refl _, fun k hk => hc k (by omega)⟩, by rw [hsz]; exact h.le, h.old, by rw [hsz]; exact h.new, fun i ob2 hi => ?_, fun i j k hi hj => ?_, h.fresh⟩, x⟩
  · by_cases e : i = id
    · subst e
      rw [Hp.upd_same] at hi; cases hi
      exact hob w' x hcb
    · rw [Hp.upd_ne _ _ e] at hi
      refine (h.ob i ob2 hi).mono x rfl fun k hk => ⟨rfl, hc k fun e' => ?_⟩
      subst e'
      exact e (h.apart i id k (by rw [hi]; simp) (by rw [hH]; simp) hk (by rw [hst]; rfl))
  · have f : ∀ i, (H.upd id ob') i ≠ none → H i ≠ none := fun i hi => by
      by_cases e : i = id
      · subst e; rw [hH]; simp
      · rwa [Hp.upd_ne _ _ e] at hi
    exact h.apart i j k (f i hi) (f j hj)

/-! ### What is not known is left alone -/
theorem Fr.same {w' : World} (hh : w'.heap = w.heap) : Fr H G w H G w' := ⟨fun b _ _ => ⟨by rw [hh], rfl⟩, fun _ _ h => h⟩
theorem Fr.drew : Fr H G w H G w.drew := Fr.same rfl
theorem Fr.alloc (o : Obj) : Fr H G w H G (w.alloc o) := ⟨fun b hb _ => ⟨heap_push_lt w o hb, rfl⟩, fun _ _ h => h⟩
theorem Fr.newOb {id : Nat} {o : Obj} {s : Sta} {f : Nat} {ob : Ob} (hs : s.block = some w.heap.size) : Fr H G w (H.upd id ob) (G.setSt id s w.heap.size (some f)) (w.alloc o) := by
  refine ⟨fun b hb _ => ⟨heap_push_lt w o hb, by simp only [Gh.setSt]; rw [if_neg (by omega)]⟩, fun b hb hu i hi => ?_⟩
  simp only [Gh.setSt]
  by_cases e : i = id
  · rw [if_pos e, hs]
    intro h; cases h; omega
  · rw [if_neg e]
    rw [Hp.upd_ne _ _ e] at hi
    exact hu i hi
theorem Fr.setOb {id b : Nat} {ob ob' : Ob} {o' : Obj} {w' : World} (hH : H id = some ob) (hst : (G.st id).block = some b) (hw : w'.heap = w.heap.setIfInBounds b o') : Fr H G w (H.upd id ob') G w' := by
  refine ⟨fun k hk hu => ⟨?_, rfl⟩, fun k hk hu i hi => ?_⟩
  · have hne : k ≠ b := fun e => hu id (by rw [hH]; simp) (by rw [e]; exact hst)
    rw [hw, Array.getElem?_setIfInBounds, if_neg (by omega)]
  · by_cases e : i = id
    · subst e; exact hu i (by rw [hH]; simp)
    · rw [Hp.upd_ne _ _ e] at hi; exact hu i hi

end
end Go.Eng

/- Operations that write nothing that is known: what they are abstractly, and that they are so. -/
set_option linter.unusedVariables false
set_option linter.unusedSimpArgs false
namespace Go.Eng
open Go.RowKit (Below)

/-! ### Literals and operands -/
def lit : Nat → Value → AVal
  | _, .bool b => .bool b
  | _, .int k n => .int k n
  | _, .string s => .str s.data.toList
  | _, .pointer none => .nilptr
  | _, .slice none 0 0 => .sl [] .full
  | _, .map none => .nilmap
  | _, .nilFunc => .nilfunc
  | _, .nilIface => .nilif
  | n + 1, .agg cs => .agg (cs.toList.map (lit n))
  | n + 1, .tuple cs => .tup (cs.toList.map (lit n))
  | n + 1, .iface t v => .iface t (lit n v)
  | _, _ => .unk

theorem lit_rep (G : Gh) (w : World) : ∀ (n : Nat) (v : Value), Rep G w (lit n v) v := by
  intro n
  induction n with
  | zero =>
    intro v
    unfold lit
    split <;> first | exact .unk _ | exact .bool _ | exact .int _ _ | exact .str _ | exact .nilptr | exact .slnil (.inr (.inl rfl)) | exact .nilmap | exact .nilfunc | exact .nilif | (rename_i h; cases h)
  | succ n ih =>
    intro v
    have hs : ∀ cs : Array Value, Reps G w (cs.toList.map (lit n)) cs.toList := fun cs => ⟨by simp, fun i a u ha hu => by
      rw [List.getElem?_map, hu] at ha
      cases ha
      exact ih u⟩
    unfold lit
    split <;> first | exact .unk _ | exact .bool _ | exact .int _ _ | exact .str _ | exact .nilptr | exact .slnil (.inr (.inl rfl)) | exact .nilmap | exact .nilfunc | exact .nilif | skip
    · rename_i cs h; cases h; exact Rep.agg' (hs cs)
    · rename_i cs h; cases h; exact Rep.tup' (hs cs)
    · rename_i h; cases h; exact .iface (ih _)

/-- A zero row is none at all. -/
def nilT : AVal → AVal
  | .sl [] .full => .sl [] .nil
  | x => x

theorem lit_full {n : Nat} {v : Value} (h : lit n v = .sl [] .full) : v = .slice none 0 0 := by
  unfold lit at h
  split at h <;> first | (cases h; done) | rfl

theorem lit0_rep (G : Gh) (w : World) (n : Nat) (v : Value) : Rep G w (nilT (lit n v)) v := by
  unfold nilT
  split
  · rename_i h
    rw [lit_full h]
    exact .slnil (.inr (.inr rfl))
  · exact lit_rep G w n v

def opd : Operand → Opd
  | .tmp t => .t t
  | .const v => .c (lit 3 v)
  | .func f => .f f
  | .global _ => .c .unk

theorem ev_rep {G : Gh} {w : World} {tm : List AVal} {a : Act} (h : Reps G w tm a.tmps.toList) (x : Operand) : Rep G w (ev tm (opd x)) (a.eval x) := by
  cases x with
  | tmp t =>
    simp only [opd, ev, Act.eval]
    rcases Nat.lt_or_ge t tm.length with ht | ht
    · have h1 : t < a.tmps.size := by have e : tm.length = a.tmps.toList.length := h.1; rw [show a.tmps.toList.length = a.tmps.size from by simp] at e; rw [← e]; exact ht
      have e1 : tm.getD t .unk = tm[t] := by simp [List.getD_eq_getElem?_getD, List.getElem?_eq_getElem ht]
      have e2 : a.tmps.getD t undef = a.tmps[t] := by simp [Array.getD, h1]
      rw [e1, e2]
      exact h.2 t _ _ (List.getElem?_eq_getElem ht) (by simp [h1])
    · have e1 : tm.getD t .unk = .unk := by simp [List.getD_eq_getElem?_getD, List.getElem?_eq_none ht]
      rw [e1]; exact .unk _
  | const v => exact lit_rep G w 3 v
  | func f => exact .func rfl (fun i a v h => by simp at h) rfl (fun i a v h => by simp at h)
  | global g => exact .unk _

theorem evs_rep {G : Gh} {w : World} {tm : List AVal} {a : Act} (h : Reps G w tm a.tmps.toList) (xs : List Operand) : Reps G w (xs.map fun x => ev tm (opd x)) (xs.map a.eval) := by
  induction xs with
  | nil => exact Reps.nil
  | cons x xs ih => exact Reps.cons (ev_rep h x) ih

/-! ### What a known abstract value says of the value -/
section inv
variable {G : Gh} {w : World} {u : Value}
theorem Rep.bool_inv {b : Bool} (h : Rep G w (.bool b) u) : u = .bool b := by cases h; rfl
theorem Rep.int_inv {k : IntKind} {n : Int} (h : Rep G w (.int k n) u) : u = .int k n := by cases h; rfl
theorem Rep.str_inv {s : List UInt8} (h : Rep G w (.str s) u) : u = .string ⟨s.toArray⟩ := by cases h; rfl
theorem Rep.nilptr_inv (h : Rep G w .nilptr u) : u = .pointer none := by cases h; rfl
theorem Rep.nilmap_inv (h : Rep G w .nilmap u) : u = .map none := by cases h; rfl
theorem Rep.nilfunc_inv (h : Rep G w .nilfunc u) : u = .nilFunc := by cases h; rfl
theorem Rep.nilif_inv (h : Rep G w .nilif u) : u = .nilIface := by cases h; rfl
theorem Rep.ref_inv {id off : Nat} (h : Rep G w (.ref id off) u) : ∃ b, u = .pointer (some ⟨b, off, none⟩) ∧ G.st id = .obj b := by cases h; rename_i b h; exact ⟨b, rfl, h⟩
theorem Rep.map_inv {id : Nat} (h : Rep G w (.map id) u) : ∃ b, u = .map (some b) ∧ G.st id = .obj b := by cases h; rename_i b h; exact ⟨b, rfl, h⟩
theorem Rep.ip_inv {cs : List AVal} (h : Rep G w (.ip cs) u) : ∃ b off vs, u = .pointer (some ⟨b, off, none⟩) ∧ Reps G w cs vs ∧ ImmRow G w b off vs ∧ b < w.heap.size := by
  cases h with | @ip _ vs b off hl h hi hb => exact ⟨b, off, vs, rfl, ⟨hl, h⟩, hi, hb⟩
theorem Rep.tup_inv {cs : List AVal} (h : Rep G w (.tup cs) u) : ∃ vs, u = .tuple (List.toArray vs) ∧ Reps G w cs vs := by
  cases h with | @tup _ vs hl h => exact ⟨vs, rfl, hl, h⟩
theorem Rep.iface_inv {t : TypeId} {v : AVal} (h : Rep G w (.iface t v) u) : ∃ v', u = .iface t v' ∧ Rep G w v v' := by
  cases h with | @iface _ _ v' h => exact ⟨v', rfl, h⟩
theorem Rep.func_inv {fn : Fn} {fs cs : List AVal} (h : Rep G w (.func fn fs cs) u) : ∃ vs us, u = .func fn (List.toArray vs) (List.toArray us) ∧ Reps G w fs vs ∧ Reps G w cs us := by
  cases h with | @func _ _ _ vs us hl h hl' h' => exact ⟨vs, us, rfl, ⟨hl, h⟩, ⟨hl', h'⟩⟩
theorem Rep.sl_inv {rows : List (List AVal)} {t : Tok} (h : Rep G w (.sl rows t) u) :
    (rows = [] ∧ u = .slice none 0 0 ∧ (t = .no ∨ t = .full ∨ t = .nil)) ∨
    (∃ b off cap sz vs, u = .slice (some ⟨b, off, none⟩) rows.length cap ∧ (∀ r ∈ rows, r.length = sz) ∧ Reps G w rows.flatten vs ∧ ImmRow G w b off vs ∧ b < w.heap.size ∧ rows.length ≤ cap ∧ TokOk G w t b off rows.length cap sz) ∨
    (rows = [] ∧ ∃ a cap, u = .slice (some a) 0 cap ∧ (t = .no ∨ t = .full ∧ cap = 0)) := by
  cases h with
  | slnil ht => exact .inl ⟨rfl, rfl, ht⟩
  | @slz _ a cap ht => exact .inr (.inr ⟨rfl, a, cap, rfl, ht⟩)
  | @sl _ _ vs b off cap sz hsz hl h hi hb hc ht => exact .inr (.inl ⟨b, off, cap, sz, vs, rfl, hsz, ⟨hl, h⟩, hi, hb, hc, ht⟩)

theorem Rep.slm_inv {id n sz : Nat} (h : Rep G w (.slm id n sz) u) : ∃ b cap e N, u = .slice (some ⟨b, 0, none⟩) n cap ∧ G.st id = .obj b ∧ w.shape? b = some (e, N) ∧ n ≤ cap ∧ cap * sz ≤ N := by
  cases h with
  | slm h hs hc hN => exact ⟨_, _, _, _, rfl, h, hs, hc, hN⟩
theorem Rep.nil_inv {rows : List (List AVal)} (h : Rep G w (.sl rows .nil) u) : rows = [] ∧ u = .slice none 0 0 := by
  rcases h.sl_inv with ⟨h1, h2, _⟩ | ⟨b, off, cap, sz, vs, _, _, _, _, _, _, ht⟩ | ⟨_, a, cap, _, ht⟩
  · exact ⟨h1, h2⟩
  · exact ht.elim
  · rcases ht with ht | ⟨ht, _⟩ <;> cases ht

theorem Rep.of_nil {rows : List (List AVal)} (h : Rep G w (.sl rows .nil) u) : Rep G w (.sl rows .full) u := by
  obtain ⟨rfl, rfl⟩ := h.nil_inv
  exact .slnil (.inr (.inl rfl))
end inv

/-! ### Rows of cells -/
theorem run_loadCellsFrom {P : Program} {w : World} {b off : Nat} {vs : List Value} (h : ∀ i v, vs[i]? = some v → w.cell? ⟨b, off + i, none⟩ = some v) :
    ∀ (n i : Nat) (acc : Array Value), i + n ≤ vs.length → (loadCellsFrom ⟨b, off, none⟩ i n acc).run P w = .ok (acc ++ ((vs.drop i).take n).toArray) w := by
  intro n
  induction n with
  | zero => intro i acc _; simp [loadCellsFrom]
  | succ n ih =>
    intro i acc hi
    have hl : i < vs.length := by omega
    have hc := h i vs[i] (List.getElem?_eq_getElem hl)
    simp only [loadCellsFrom, Sem.run_bind, Addr.add_lit, run_load, hc, Result.andThen_ok]
    rw [ih (i + 1) _ (by omega)]
    rw [List.drop_eq_getElem_cons hl, List.take_succ_cons]
    simp

theorem run_loadCells {P : Program} {w : World} {b off : Nat} {vs : List Value} (h : ∀ i v, vs[i]? = some v → w.cell? ⟨b, off + i, none⟩ = some v) (n : Nat) (hn : n ≤ vs.length) :
    (loadCells ⟨b, off, none⟩ n).run P w = .ok (vs.take n).toArray w := by
  unfold loadCells
  rw [run_loadCellsFrom h n 0 #[] (by omega)]
  simp

/-- The type's variables: none: one cell; n: a struct or an array of n cells. -/
def aggOf (P : Program) (t : TypeId) : Option (Option Nat) :=
  match P.underlying t with
  | none => none
  | some (.struct _) | some (.array _ _) => (P.info? t).map fun i => some i.size
  | some _ => some none

theorem aggOf_some {P : Program} {t : TypeId} {n : Nat} (h : aggOf P t = some (some n)) (w : World) : (isAgg t).run P w = .ok true w ∧ (sizeOf t).run P w = .ok n w := by
  unfold aggOf at h
  split at h
  · cases h
  · rename_i hu
    cases hi : P.info? t with
    | none => simp [hi] at h
    | some i => simp [hi] at h; subst h; exact ⟨by simp [isAgg, run_underlying hu], by simp [sizeOf, typeInfo, hi]⟩
  · rename_i hu
    cases hi : P.info? t with
    | none => simp [hi] at h
    | some i => simp [hi] at h; subst h; exact ⟨by simp [isAgg, run_underlying hu], by simp [sizeOf, typeInfo, hi]⟩
  · cases h
theorem aggOf_none {P : Program} {t : TypeId} (h : aggOf P t = some none) (w : World) : (isAgg t).run P w = .ok false w := by
  unfold aggOf at h
  split at h
  · cases h
  · rename_i hu; cases hi : P.info? t <;> simp [hi] at h
  · rename_i hu; cases hi : P.info? t <;> simp [hi] at h
  · rename_i d hn1 hn2 hu
    simp only [isAgg, Sem.run_bind, run_underlying hu, Result.andThen_ok]
    cases d <;> first | rfl | (exact absurd rfl (hn1 _)) | (exact absurd rfl (hn2 _ _))

def sizeOf? (P : Program) (t : TypeId) : Option Nat := (P.info? t).map (·.size)
theorem run_sizeOf? {P : Program} {t : TypeId} {n : Nat} (h : sizeOf? P t = some n) (w : World) : (sizeOf t).run P w = .ok n w := by
  unfold sizeOf? at h
  cases hi : P.info? t with
  | none => simp [hi] at h
  | some i => simp [hi] at h; subst h; simp [sizeOf, typeInfo, hi]

def takeA (k : Option Nat) (cs : List AVal) : Option AVal :=
  match k with
  | none => cs[0]?
  | some n => if n ≤ cs.length then some (.agg (cs.take n)) else none

def loadA (H : Hp) (k : Option Nat) (p : AVal) : Option AVal :=
  match p with
  | .ip cs => takeA k cs
  | .ref i o => match H i with
    | some (.cells cs _) => takeA k (cs.drop o)
    | _ => none
  | _ => none

theorem run_loadVar {P : Program} {G : Gh} {w : World} {b off : Nat} {t : TypeId} {k : Option Nat} {cs : List AVal} {vs : List Value} {v : AVal} (hk : aggOf P t = some k)
    (hr : Reps G w cs vs) (hc : ∀ i v, vs[i]? = some v → w.cell? ⟨b, off + i, none⟩ = some v) (h : takeA k cs = some v) :
    ∃ u, (loadVar t ⟨b, off, none⟩).run P w = .ok u w ∧ Rep G w v u := by
  cases k with
  | none =>
    obtain ⟨u, hu, hr'⟩ := hr.get (i := 0) h
    refine ⟨u, ?_, hr'⟩
    have := hc 0 u hu
    simp only [loadVar, Sem.run_bind, aggOf_none hk, Result.andThen_ok]
    simp only [Nat.add_zero] at this
    simp [run_load, this]
  | some n =>
    obtain ⟨h1, h2⟩ := aggOf_some hk w
    simp only [takeA] at h
    split at h
    · rename_i hn
      cases h
      refine ⟨.agg (vs.take n).toArray, ?_, Rep.agg' (hr.take n)⟩
      simp only [loadVar, Sem.run_bind, h1, Result.andThen_ok, if_true, h2, Sem.run_ite]
      rw [run_loadCells hc n (by rw [← hr.1]; exact hn)]
      rfl
    · cases h

theorem cell_of_block {w : World} {b : Nat} {vs : List Value} {ty : TypeId} {fr : Nat × Nat} (h : w.heap[b]? = some (.cells vs.toArray ty fr)) (o : Nat) : ∀ (i : Nat) v, (vs.drop o)[i]? = some v → w.cell? ⟨b, o + i, none⟩ = some v := by
  intro i v hv
  rw [List.getElem?_drop] at hv
  simp [World.cell?, h, hv]

theorem cell_of_blockX {w : World} {b : Nat} {vs ex : List Value} {ty : TypeId} {fr : Nat × Nat} (h : w.heap[b]? = some (.cells (vs ++ ex).toArray ty fr)) (o : Nat) : ∀ (i : Nat) v, (vs.drop o)[i]? = some v → w.cell? ⟨b, o + i, none⟩ = some v := fun i v hv => by
  refine cell_of_block h o i v ?_
  rw [List.getElem?_drop] at hv ⊢
  rw [List.getElem?_append_left (List.getElem?_eq_some_iff.1 hv).1]
  exact hv

/-- What an operation gives that writes nothing that is known. -/
def RunsV (P : Program) (base : Nat) (w0 : World) (H : Hp) (G : Gh) (w : World) (m : Sem Value) (v : AVal) : Prop :=
  ∃ u w', m.run P w = .ok u w' ∧ Rep G w' v u ∧ Wr base w0 H G w' ∧ GExt G w G w' ∧ Fr H G w H G w'

theorem RunsV.here {P : Program} {base : Nat} {w0 : World} {H : Hp} {G : Gh} {w : World} {m : Sem Value} {v : AVal} {u : Value} (hw : Wr base w0 H G w) (h : m.run P w = .ok u w) (hr : Rep G w v u) :
    RunsV P base w0 H G w m v := ⟨u, w, h, hr, hw, GExt.refl _ _, Fr.refl _ _ _⟩

section runs
variable {P : Program} {base : Nat} {w0 : World} {H : Hp} {G : Gh} {w : World}

theorem runs_load {t : TypeId} {k : Option Nat} {p v : AVal} {u : Value} (hw : Wr base w0 H G w) (hk : aggOf P t = some k) (hp : Rep G w p u) (h : loadA H k p = some v) : RunsV P base w0 H G w (Instr.loadAt t u) v := by
  unfold loadA at h
  split at h
  · obtain ⟨b, off, vs, rfl, hr, hi, hb⟩ := hp.ip_inv
    obtain ⟨u, h1, h2⟩ := run_loadVar hk hr (fun i v hv => (hi i v hv).1) h
    exact .here hw (by simpa [Instr.loadAt, Instr.sureAddr] using h1) h2
  · rename_i i o
    split at h
    · rename_i cs hH
      obtain ⟨b, rfl, hst⟩ := hp.ref_inv
      obtain ⟨b', vs, ty, ex, h1, h2, h3, h4, h5, h6⟩ := hw.ob i _ hH
      rw [hst] at h1; cases h1
      obtain ⟨u, k1, k2⟩ := run_loadVar hk (h5.drop o) (cell_of_blockX h4 o) h
      exact .here hw (by simpa [Instr.loadAt, Instr.sureAddr] using k1) k2
    · cases h
  · cases h

/-! #### build -/
def fillA (z : List AVal) : List (Nat × Nat × AVal) → Option (List AVal)
  | [] => some z
  | (off, n, v) :: rest => if v.known = true ∧ v.cells.length = n ∧ off + n ≤ z.length then fillA (z.take off ++ v.cells ++ z.drop (off + n)) rest else none

theorem foldl_set (cs : List Value) : ∀ (off : Nat) (z : Array Value), off + cs.length ≤ z.size →
    ((cs.zipIdx 0).foldl (fun c (x : Value × Nat) => c.setIfInBounds (off + x.2) x.1) z).toList = z.toList.take off ++ cs ++ z.toList.drop (off + cs.length) := by
  intro off z h
  have key : ∀ (cs : List Value) (j : Nat) (z : Array Value), off + j + cs.length ≤ z.size →
      ((cs.zipIdx j).foldl (fun c (x : Value × Nat) => c.setIfInBounds (off + x.2) x.1) z).toList = z.toList.take (off + j) ++ cs ++ z.toList.drop (off + j + cs.length) := by
    intro cs
    induction cs with
    | nil => intro j z _; simp
    | cons c cs ih =>
      intro j z hz
      simp only [List.zipIdx_cons, List.foldl_cons]
      simp only [List.length_cons] at hz
      rw [ih (j + 1) _ (by simp; omega)]
      have hlt : off + j < z.toList.length := by simp; omega
      simp only [Array.toList_setIfInBounds]
      rw [show off + (j + 1) = off + j + 1 from by omega, List.take_succ_eq_append_getElem (by simpa using hlt)]
      rw [List.take_set_of_le (Nat.le_refl _), List.getElem_set_self, List.drop_set_of_lt (by omega)]
      simp only [List.append_assoc, List.cons_append, List.nil_append, List.length_cons]
      rw [show off + j + 1 + cs.length = off + j + (cs.length + 1) from by omega]
  have := key cs 0 z (by simpa using h)
  simpa using this

theorem fill_ok {place : Nat → Option (Nat × Nat)} : ∀ (ps : List (Nat × Value)) (aps : List (Nat × Nat × AVal)) (z : List AVal) (zs : Array Value) (out : List AVal),
    ps.length = aps.length → (∀ (i : Nat) p q, ps[i]? = some p → aps[i]? = some q → place p.1 = some (q.1, q.2.1) ∧ Rep G w q.2.2 p.2) → Reps G w z zs.toList → fillA z aps = some out →
    ∃ r : Array Value, Instr.fill place zs ps = some r ∧ Reps G w out r.toList := by
  intro ps
  induction ps with
  | nil =>
    intro aps z zs out hl h hz hf
    cases aps with
    | nil => simp only [fillA] at hf; cases hf; exact ⟨zs, rfl, hz⟩
    | cons q aps => simp at hl
  | cons p ps ih =>
    intro aps z zs out hl h hz hf
    cases aps with
    | nil => simp at hl
    | cons q aps =>
      obtain ⟨i, v⟩ := p
      obtain ⟨off, n, av⟩ := q
      obtain ⟨h1, h2⟩ := h 0 _ _ rfl rfl
      simp only at h1 h2
      simp only [fillA] at hf
      split at hf
      · rename_i hc
        obtain ⟨hk, hn, ho⟩ := hc
        have hcells := h2.cells hk
        have hvs : v.cells.size = n := by have := hcells.1; simp at this; omega
        have hzs : zs.size = z.length := by have := hz.1; simp at this; omega
        simp only [Instr.fill, h1]
        rw [if_neg (by simp [hvs]; omega)]
        have hset := foldl_set v.cells.toList off zs (by simp; omega)
        refine ih aps _ _ out (by simpa using hl) (fun i p q hp hq => h (i + 1) p q (by simpa using hp) (by simpa using hq)) ?_ hf
        have e : (v.cells.zipIdx.foldl (fun cs (x : Value × Nat) => cs.setIfInBounds (off + x.2) x.1) zs) = ((v.cells.toList.zipIdx 0).foldl (fun c (x : Value × Nat) => c.setIfInBounds (off + x.2) x.1) zs) := by
          rw [← Array.foldl_toList, Array.toList_zipIdx]
        show Reps G w _ (Array.toList (v.cells.zipIdx.foldl (fun cs (x : Value × Nat) => cs.setIfInBounds (off + x.2) x.1) zs))
        rw [e, hset]
        have hlen : v.cells.toList.length = n := by simpa using hvs
        rw [hlen]
        exact ((hz.take off).append hcells).append (hz.drop (off + n))
      · cases hf

end runs
end Go.Eng

/- The abstract operations, the ones that write nothing that is known. -/
set_option linter.unusedVariables false
set_option linter.unusedSimpArgs false
namespace Go.Eng
open Go.RowKit (Below)

/-- Kinds of keys. -/
inductive KK where
  | str
  | int
  | bool
  | str3
  deriving DecidableEq

/-- Kinds of what can be nil. -/
inductive NK where
  | ptr
  | sl
  | map
  | func
  | iface
  deriving DecidableEq

inductive AOp where
  | mv (x : Opd)
  | pick (c x y : Opd)
  | build (z : List AVal) (ps : List (Nat × Nat × Opd))
  | load (k : Option Nat) (x : Opd)
  | nilck (x : Opd)
  | bin (op : BinOp) (x y : Opd)
  | beq (ng : Bool) (x y : Opd)
  | isnil (ng : Bool) (nk : NK) (x : Opd)
  | sleq (ng : Bool) (ks : List (Nat × KK)) (x y : Opd)
  | not (x : Opd)
  | neg (x : Opd)
  | cint (k : IntKind) (x : Opd)
  | cstr (x : Opd)
  | b2s (x : Opd)
  | s2b (x : Opd)
  | sls (x : Opd)
  | mkif (t : TypeId) (x : Opd)
  | mkfn (fn : Fn) (f c : List Opd)
  | slS (x : Opd) (lo hi : Option Opd)
  | slL (sz : Nat) (x : Opd) (lo hi mx : Option Opd)
  | faddr (off : Nat) (x : Opd)
  | field (k : Option Nat) (off : Nat) (x : Opd)
  | iaddr (sz : Nat) (x i : Opd)
  | ixS (x i : Opd)
  | ext (x : Opd) (i : Nat)
  | lenS (x : Opd)
  | lenL (x : Opd)
  | bsl (sz : Nat) (ps : List Opd)
  | bslf (sz : Nat) (ps : List Opd)
  | tas (ok : Bool) (t : TypeId) (z : AVal) (x : Opd)
  | look (ok : Bool) (kk : KK) (z : AVal) (m k : Opd)
  | lenM (m : Opd)
  | maxi (x y : Opd)
  | mini (x y : Opd)
  | alloc (z : List AVal)
  | box (x : Opd)
  | mkmap
  | store (n : Nat) (x v : Opd)
  | mset (kk : KK) (m k v : Opd)
  | allocT (t : TypeId) (z : List AVal)
  | app (sz bytes : Nat) (e : TypeId) (x y : Opd)
  | apps (bytes : Nat) (e : TypeId) (x y : Opd)
  | call (f : Opd) (args : List Opd)
  | dfr (f : Opd) (args : List Opd)
  | pnc (x : Opd)

def b2i (b : Bool) (x y : AVal) : AVal := match b with | true => x | false => y

def binA (op : BinOp) (x y : AVal) : Option AVal :=
  match x, y with
  | .int k a, .int k' b =>
    if k = k' then
      match op with
      | .add => some (.int k (k.wrap (a + b)))
      | .sub => some (.int k (k.wrap (a - b)))
      | .mul => some (.int k (k.wrap (a * b)))
      | .quo => if b = 0 then none else some (.int k (k.wrap (a.tdiv b)))
      | .rem => if b = 0 then none else some (.int k (a.tmod b))
      | .eql => some (.bool (a == b))
      | .neq => some (.bool (a != b))
      | .lss => some (.bool (decide (a < b)))
      | .leq => some (.bool (decide (a ≤ b)))
      | .gtr => some (.bool (decide (a > b)))
      | .geq => some (.bool (decide (a ≥ b)))
      | _ => none
    else none
  | .str a, .str b =>
    match op with
    | .add => if a.length + b.length ≤ 9223372036854775807 then some (.str (a ++ b)) else none
    | .eql => some (.bool (a == b))
    | .neq => some (.bool (!(a == b)))
    | .lss => some (.bool (Op.bytesLess a b))
    | .leq => some (.bool (Op.bytesLess a b || a == b))
    | .gtr => some (.bool (!(Op.bytesLess a b || a == b)))
    | .geq => some (.bool (!(Op.bytesLess a b)))
    | _ => none
  | _, _ => none

def isNilA (nk : NK) (x : AVal) : Option Bool :=
  match nk, x with
  | .ptr, .nilptr | .map, .nilmap | .func, .nilfunc | .iface, .nilif => some true
  | .ptr, .ref _ _ | .ptr, .ip _ | .map, .map _ | .func, .func _ _ _ | .iface, .iface _ _ => some false
  | .sl, .sl (_ :: _) _ => some false
  | _, _ => none

def bnd (o : Option AVal) (d : Nat) : Option Nat :=
  match o with
  | none => some d
  | some (.int _ n) => if 0 ≤ n then some n.toNat else none
  | _ => none

def slSA (s : List UInt8) (lo hi : Option AVal) : Option AVal :=
  match bnd hi s.length, bnd lo 0 with
  | some h, some l => if l ≤ h ∧ h ≤ s.length then some (.str ((s.take h).drop l)) else none
  | _, _ => none

def slLA (sz : Nat) (rows : List (List AVal)) (t : Tok) (lo hi mx : Option AVal) : Option AVal :=
  match bnd mx rows.length, bnd hi rows.length, bnd lo 0 with
  | some m, some h, some l =>
    if l ≤ h ∧ h ≤ m ∧ m ≤ rows.length ∧ (hi.isSome ∨ mx.isNone) then
      if rows.all (fun r => r.length == sz) = true then
        some (.sl ((rows.take h).drop l) (if mx.isSome ∧ h = m then .full else if mx.isNone ∧ h = rows.length ∧ (l = 0 ∨ t = .full) then t else .no))
      else none
    else none
  | _, _, _ => none

/-- A slice that is written: its beginning. -/
def slMA (sz id n sz' : Nat) (lo hi mx : Option AVal) : Option AVal :=
  match mx, bnd hi n, bnd lo 0 with
  | none, some h, some 0 => if h ≤ n ∧ sz = sz' then some (.slm id h sz) else none
  | _, _, _ => none
/-- The address of one of its elements. -/
def iaddrM (sz id n sz' : Nat) (k : Int) : Option AVal := if 0 ≤ k ∧ k < n ∧ sz = sz' then some (.ref id (k.toNat * sz)) else none
def partA (k : Option Nat) (off : Nat) (cs : List AVal) : Option AVal :=
  match k with
  | none => cs[off]?
  | some n => if off + n ≤ cs.length then some (.agg ((cs.drop off).take n)) else none

def iaddrA (sz : Nat) (rows : List (List AVal)) (n : Int) : Option AVal :=
  if 0 ≤ n then match rows[n.toNat]? with
    | some r => if r.length = sz then some (.ip r) else none
    | none => none
  else none

def bytesOf (rows : List (List AVal)) : Option (List UInt8) :=
  match rows with
  | [] => some []
  | [.int .u8 n] :: rest => if 0 ≤ n ∧ n < 256 then (bytesOf rest).map fun s => UInt8.ofNat n.toNat :: s else none
  | _ => none

def rowsA (sz : Nat) (xs : List AVal) : Option (List (List AVal)) :=
  match xs with
  | [] => some []
  | x :: rest => if x.known = true ∧ x.cells.length = sz then (rowsA sz rest).map (x.cells :: ·) else none

/-- Are two cells of plain data the same? -/
def eqCell (k : KK) (x y : AVal) : Option Bool :=
  match k, x, y with
  | .int, .int k a, .int k' b => if k = k' then some (a == b) else none
  | .str, .str a, .str b => some (a == b)
  | .bool, .bool a, .bool b => some (a == b)
  | _, _, _ => none

def eqCells (ks : List (Nat × KK)) (xs ys : List AVal) : Option Bool :=
  match ks with
  | [] => some true
  | (off, k) :: rest =>
    match xs[off]?, ys[off]? with
    | some x, some y => match eqCell k x y with
      | some true => eqCells rest xs ys
      | some false => some false
      | none => none
    | _, _ => none

/-- The value at a key. -/
def findA (kk : KK) (k : AVal) : List (AVal × AVal) → Option (Option AVal)
  | [] => some none
  | (k', v) :: rest => match eqCell kk k k' with
    | some true => some (some v)
    | some false => findA kk k rest
    | none => none

def nilckA (x : AVal) : Option AVal :=
  match x with
  | .ref i o => some (.ref i o)
  | .ip cs => some (.ip cs)
  | .func (.func f) a b => some (.func (.func f) a b)
  | _ => none

def faddrA (off : Nat) (x : AVal) : Option AVal :=
  match x with
  | .ref i o => some (.ref i (o + off))
  | .ip cs => if off ≤ cs.length then some (.ip (cs.drop off)) else none
  | _ => none

def tasA (ok : Bool) (t : TypeId) (z x : AVal) : Option AVal :=
  match x with
  | .iface t' v => if t' = t then some (if ok = true then .tup [v, .bool true] else v) else if ok = true then some (.tup [z, .bool false]) else none
  | .nilif => if ok = true then some (.tup [z, .bool false]) else none
  | _ => none

def lookA (H : Hp) (ok : Bool) (kk : KK) (z m k : AVal) : Option AVal :=
  match m with
  | .map id => match H id with
    | some (.map es) => (findA kk k es).map fun r => if ok = true then .tup [r.getD z, .bool r.isSome] else r.getD z
    | _ => none
  | .nilmap => some (if ok = true then .tup [z, .bool false] else z)
  | _ => none

def rop (o : AOp) (tm : List AVal) (H : Hp) : Option AVal :=
  match o with
  | .mv x => some (ev tm x)
  | .pick c x y => match ev tm c with
    | .bool b => some (b2i b (ev tm x) (ev tm y))
    | _ => none
  | .build z ps => (fillA z (ps.map fun p => (p.1, p.2.1, ev tm p.2.2))).map .agg
  | .load k x => loadA H k (ev tm x)
  | .nilck x => nilckA (ev tm x)
  | .bin op x y => binA op (ev tm x) (ev tm y)
  | .beq ng x y => match ev tm x, ev tm y with
    | .bool a, .bool b => some (.bool (xor ng (a == b)))
    | _, _ => none
  | .isnil ng nk x => (isNilA nk (ev tm x)).map fun b => .bool (xor ng b)
  | .sleq ng ks x y => match ev tm x, ev tm y with
    | .agg a, .agg b => (eqCells ks a b).map fun r => .bool (xor ng r)
    | _, _ => none
  | .not x => match ev tm x with
    | .bool b => some (.bool (!b))
    | _ => none
  | .neg x => match ev tm x with
    | .int k n => some (.int k (k.wrap (0 - n)))
    | _ => none
  | .cint k x => match ev tm x with
    | .int _ n => some (.int k (k.wrap n))
    | _ => none
  | .cstr x => match ev tm x with
    | .str s => some (.str s)
    | _ => none
  | .b2s x => match ev tm x with
    | .sl rows _ => (bytesOf rows).map .str
    | _ => none
  | .s2b x => match ev tm x with
    | .str s => some (.sl (s.map fun b => [.int .u8 b.toNat]) .frz)
    | _ => none
  | .sls x => match ev tm x with
    | .sl rows .frz => some (.sl rows .frz)
    | _ => none
  | .mkif t x => some (.iface t (ev tm x))
  | .mkfn fn f c => some (.func fn (f.map (ev tm)) (c.map (ev tm)))
  | .slS x lo hi => match ev tm x with
    | .str s => slSA s (lo.map (ev tm)) (hi.map (ev tm))
    | _ => none
  | .slL sz x lo hi mx => match ev tm x with
    | .sl rows t => slLA sz rows t (lo.map (ev tm)) (hi.map (ev tm)) (mx.map (ev tm))
    | .slm id n sz' => slMA sz id n sz' (lo.map (ev tm)) (hi.map (ev tm)) (mx.map (ev tm))
    | _ => none
  | .faddr off x => faddrA off (ev tm x)
  | .field k off x => match ev tm x with
    | .agg cs => partA k off cs
    | _ => none
  | .iaddr sz x i => match ev tm x, ev tm i with
    | .sl rows _, .int _ n => iaddrA sz rows n
    | .slm id n sz', .int _ k => iaddrM sz id n sz' k
    | _, _ => none
  | .ixS x i => match ev tm x, ev tm i with
    | .str s, .int _ n => if 0 ≤ n then (s[n.toNat]?).map fun b => .int .u8 b.toNat else none
    | _, _ => none
  | .ext x i => match ev tm x with
    | .tup vs => vs[i]?
    | _ => none
  | .lenS x => match ev tm x with
    | .str s => some (.int .i64 s.length)
    | _ => none
  | .lenL x => match ev tm x with
    | .sl rows _ => some (.int .i64 rows.length)
    | .slm _ n _ => some (.int .i64 n)
    | _ => none
  | .bsl sz ps => (rowsA sz (ps.map (ev tm))).map fun rows => .sl rows .full
  | .bslf sz ps => (rowsA sz (ps.map (ev tm))).map fun rows => .sl rows .frz
  | .tas ok t z x => tasA ok t z (ev tm x)
  | .look ok kk z m k => lookA H ok kk z (ev tm m) (ev tm k)
  | .lenM m => match ev tm m with
    | .map id => match H id with
      | some (.map es) => some (.int .i64 es.length)
      | _ => none
    | .nilmap => some (.int .i64 0)
    | _ => none
  | .maxi x y => match ev tm x, ev tm y with
    | .int k a, .int _ b => some (.int k (if b > a then b else a))
    | _, _ => none
  | .mini x y => match ev tm x, ev tm y with
    | .int k a, .int _ b => some (.int k (if b < a then b else a))
    | _, _ => none
  | _ => none

/-! ### What the operations of the program are here -/
def nilLit : Operand → Option NK
  | .const (.pointer none) => some .ptr
  | .const (.slice none 0 0) => some .sl
  | .const (.map none) => some .map
  | .const .nilFunc => some .func
  | .const .nilIface => some .iface
  | _ => none

def nkOf : TypeDesc → Option NK
  | .pointer _ => some .ptr
  | .slice _ => some .sl
  | .map _ _ => some .map
  | .func _ _ _ => some .func
  | .interface _ => some .iface
  | _ => none

def kkOf (d : Option TypeDesc) : Option KK :=
  match d with
  | some .string => some .str
  | some (.int _) => some .int
  | some .bool => some .bool
  | _ => none

/-- Does a struct begin with a pointer to its own kind? What kind of thing lies there is kept then. -/
def selfPtr (P : Program) (t : TypeId) : Bool :=
  match P.underlying t with
  | some (.struct fs) => match fs[0]? with
    | some f => match P.underlying f.type with
      | some (.pointer u) => u == t
      | _ => false
    | none => false
  | _ => false

def litCells (P : Program) (t : TypeId) : Option (List AVal) := ((P.info? t).bind (·.zero)).map fun z => z.cells.toList.map fun v => nilT (lit 2 v)

def partOf (P : Program) (fs : Array Field) (p : Nat × Operand) : Option (Nat × Nat × Opd) :=
  match fs[p.1]? with
  | some f => some (f.offset, P.cellsOf f.type, opd p.2)
  | none => none

def compBuild (P : Program) (t : TypeId) (ps : List (Nat × Operand)) : Option AOp :=
  match P.underlying t with
  | some (.struct fs) =>
    match ((P.info? t).bind (·.zero)) with
    | some z =>
      if fs.all (fun f => (P.info? f.type).isSome) = true then
        (ps.mapM (partOf P fs)).map fun aps => .build (z.cells.toList.map (lit 2)) aps
      else none
    | none => none
  | _ => none

/-- The fields of a struct that can be compared cell by cell. -/
def eqFields (P : Program) (fs : List Field) : Option (List (Nat × KK)) :=
  match fs with
  | [] => some []
  | f :: rest => if f.name = "_" then none else match kkOf (P.underlying f.type), eqFields P rest with
    | some k, some r => some ((f.offset, k) :: r)
    | _, _ => none

def compBin (P : Program) (op : BinOp) (t : TypeId) (x y : Operand) : Option AOp :=
  match op with
  | .eql | .neq =>
    let ng := match op with | .neq => true | _ => false
    match P.underlying t with
    | some (.int _) | some .string => some (.bin op (opd x) (opd y))
    | some .bool => some (.beq ng (opd x) (opd y))
    | some (.struct fs) => if P.stoodInHeld t = true then none else (eqFields P fs.toList).map fun ks => .sleq ng ks (opd x) (opd y)
    | some d => match nkOf d with
      | some nk => if nilLit y = some nk then some (.isnil ng nk (opd x)) else none
      | none => none
    | none => none
  | .shl | .shr | .and | .or | .xor | .andNot => none
  | _ => some (.bin op (opd x) (opd y))

def compOp (P : Program) (o : Oper) : Option AOp :=
  match o.op with
  | .move x | .assign x => some (.mv (opd x))
  | .pick c x y => some (.pick (opd c) (opd x) (opd y))
  | .build t ps => compBuild P t ps.toList
  | .load t x => (aggOf P t).map fun k => .load k (opd x)
  | .nilCheck x => some (.nilck (opd x))
  | .binOp op t x y _ => compBin P op t x y
  | .unOp .not _ x => some (.not (opd x))
  | .unOp .neg _ x => some (.neg (opd x))
  | .convert src dst x =>
    match P.underlying src, P.underlying dst with
    | some (.int _), some (.int k) => some (.cint k (opd x))
    | some .string, some .string => some (.cstr (opd x))
    | some (.slice e), some .string => (match P.underlying e with | some (.int .u8) => some (.b2s (opd x)) | _ => none)
    | some .string, some (.slice e) => (match P.underlying e with | some (.int .u8) => some (.s2b (opd x)) | _ => none)
    | some (.slice _), some (.slice e) => if src = dst then (match P.underlying e with | some (.int .u8) => some (.sls (opd x)) | _ => none) else none
    | _, _ => none
  | .makeInterface t x => if P.concrete t = true then some (.mkif t (opd x)) else none
  | .makeFunc fn f c => some (.mkfn fn (f.toList.map opd) (c.toList.map opd))
  | .slice t x lo hi mx =>
    match P.underlying t with
    | some .string => if mx.isSome = true then none else some (.slS (opd x) (lo.map opd) (hi.map opd))
    | some (.slice e) => (sizeOf? P e).map fun sz => .slL sz (opd x) (lo.map opd) (hi.map opd) (mx.map opd)
    | _ => none
  | .fieldAddr s x f =>
    match P.underlying s with
    | some (.struct fs) => match fs[f]? with
      | some fl => match sizeOf? P fl.type with
        | some 0 => none
        | some _ => some (.faddr fl.offset (opd x))
        | none => none
      | none => none
    | _ => none
  | .field t x f =>
    match P.underlying t with
    | some (.struct fs) => match fs[f]? with
      | some fl => (aggOf P fl.type).map fun k => .field k fl.offset (opd x)
      | none => none
    | _ => none
  | .indexAddr t x i =>
    match P.underlying t with
    | some (.slice e) => (sizeOf? P e).map fun sz => .iaddr sz (opd x) (opd i)
    | _ => none
  | .index t x i =>
    match P.underlying t with
    | some .string => some (.ixS (opd x) (opd i))
    | _ => none
  | .extract x i => some (.ext (opd x) i)
  | .buildSlice t len ps =>
    match P.underlying t with
    | some (.slice e) => match sizeOf? P e with
      | some sz => if (ps.toList.map (·.1)) = List.range len ∧ len * sz ≤ 16777216 ∧ (litCells P e).isSome = true ∧ sz ≠ 0 then some (.bsl sz (ps.toList.map fun p => opd p.2)) else none
      | none => none
    | _ => none
  | .typeAssert x _ t ok =>
    match P.underlying t with
    | some (.interface _) | none => none
    | some _ => match (P.info? t).bind (·.zero) with
      | some z => some (.tas ok t (lit 3 z) (opd x))
      | none => none
  | .lookup t m k ok =>
    match P.underlying t with
    | some (.map kt e) => match kkOf (P.underlying kt), (P.info? e).bind (·.zero) with
      | some kk, some z => some (.look ok kk (lit 3 z) (opd m) (opd k))
      | _, _ => none
    | _ => none
  | .call { callee := .builtin .len, args, argTypes } =>
    match argTypes[0]?, args[0]? with
    | some t, some x => match P.underlying t with
      | some .string => some (.lenS (opd x))
      | some (.slice _) => some (.lenL (opd x))
      | some (.map _ _) => some (.lenM (opd x))
      | _ => none
    | _, _ => none
  | .call { callee := .builtin .max, args, .. } => match args.toList with
    | [x, y] => some (.maxi (opd x) (opd y))
    | _ => none
  | .call { callee := .builtin .min, args, .. } => match args.toList with
    | [x, y] => some (.mini (opd x) (opd y))
    | _ => none
  | .call { callee := .value f, args, .. } => some (.call (opd f) (args.toList.map opd))
  | .alloc t => (litCells P t).map fun z => if selfPtr P t then .allocT t z else .alloc z
  | .box t x => some (.box (opd x))
  | .makeMap t none => some .mkmap
  | .store t x v => (sizeOf? P t).map fun n => .store n (opd x) (opd v)
  | .mapUpdate t m k v | .insert t m k v =>
    match P.underlying t with
    | some (.map kt _) => (kkOf (P.underlying kt)).map fun kk => .mset kk (opd m) (opd k) (opd v)
    | _ => none
  | .call { callee := .builtin .append, args, argTypes } =>
    match argTypes[0]?, argTypes[1]?, args.toList with
    | some t, some u, [x, y] => match P.underlying t, P.underlying u with
      | some (.slice e), some (.slice _) => match P.info? e with
        | some i => if i.size ≠ 0 ∧ i.bytes ≠ 0 ∧ i.zero.map (·.cells.size) = some i.size ∧ u = t ∧ argTypes = #[t, t] then some (.app i.size i.bytes e (opd x) (opd y)) else none
        | none => none
      | some (.slice e), some .string => match P.info? e with
        | some i => if i.size = 1 ∧ i.bytes ≠ 0 ∧ i.zero.map (·.cells.size) = some i.size ∧ argTypes = #[t, u] then some (.apps i.bytes e (opd x) (opd y)) else none
        | none => none
      | _, _ => none
    | _, _, _ => none
  | .defer { callee := .value f, args, .. } => some (.dfr (opd f) (args.toList.map opd))
  | .panic x => some (.pnc (opd x))
  | _ => none

end Go.Eng

/- The operations that write nothing that is known do what they do abstractly. -/
set_option linter.unusedVariables false
set_option linter.unusedSimpArgs false
namespace Go.Eng
open Go.RowKit (Below)

def RunsN (P : Program) (base : Nat) (w0 : World) (H : Hp) (G : Gh) (w : World) (m : Sem Next) (v : AVal) : Prop :=
  ∃ u w', m.run P w = .ok (.value u) w' ∧ Rep G w' v u ∧ Wr base w0 H G w' ∧ GExt G w G w' ∧ Fr H G w H G w'

section
variable {P : Program} {base : Nat} {w0 : World} {H : Hp} {G : Gh} {w : World} {tm : List AVal} {a : Act}

theorem RunsV.next {m : Sem Value} {v : AVal} (h : RunsV P base w0 H G w m v) : RunsN P base w0 H G w (do pure (.value (← m))) v := by
  obtain ⟨u, w', h1, h2, h3, h4⟩ := h
  exact ⟨u, w', by simp [h1], h2, h3, h4⟩

theorem RunsN.here {m : Sem Next} {v : AVal} {u : Value} (hw : Wr base w0 H G w) (h : m.run P w = .ok (.value u) w) (hr : Rep G w v u) : RunsN P base w0 H G w m v := ⟨u, w, h, hr, hw, GExt.refl _ _, Fr.refl _ _ _⟩

theorem RunsV.bool {m : Sem Value} {b : Bool} (hw : Wr base w0 H G w) (h : m.run P w = .ok (.bool b) w) : RunsV P base w0 H G w m (.bool b) := .here hw h (.bool b)
theorem RunsV.int {m : Sem Value} {k : IntKind} {n : Int} (hw : Wr base w0 H G w) (h : m.run P w = .ok (.int k n) w) : RunsV P base w0 H G w m (.int k n) := .here hw h (.int k n)
theorem RunsV.str {m : Sem Value} {s : List UInt8} (hw : Wr base w0 H G w) (h : m.run P w = .ok (.string ⟨s.toArray⟩) w) : RunsV P base w0 H G w m (.str s) := .here hw h (.str s)

/-! #### bin -/
theorem runs_bin {op : BinOp} {t : TypeId} {x y : Operand} {a b v : AVal} {p q : Value} (hw : Wr base w0 H G w) (hp : Rep G w a p) (hq : Rep G w b q) (h : binA op a b = some v) :
    RunsV P base w0 H G w (do eqGuard op t x y p q; binOp op t p q) v := by
  unfold binA at h
  split at h
  · rename_i k m k' n
    rw [hp.int_inv, hq.int_inv]
    split at h
    · rename_i hk
      subst hk
      cases op <;> simp only [reduceCtorEq] at h <;> first
        | (cases h; refine .int hw ?_; simp [eqGuard_at_int, binOp, Op.intArith, Op.intCmp]; done)
        | (cases h; refine .bool hw ?_; simp [eqGuard_at_int, binOp, Op.intArith, Op.intCmp]; done)
        | (split at h
           · cases h
           · rename_i hz; cases h; refine .int hw ?_; simp [eqGuard_at_int, binOp, Op.intDiv, hz]; done)
    · cases h
  · rename_i s u
    rw [hp.str_inv, hq.str_inv]
    have e1 : (ByteArray.mk s.toArray).toList = s := ByteArray.toList_mk s
    have e2 : (ByteArray.mk u.toArray).toList = u := ByteArray.toList_mk u
    cases op <;> simp only [reduceCtorEq] at h <;> first
      | (cases h; refine .bool hw ?_; simp only [eqGuard_at_string, binOp, Op.stringOp, e1, e2, Sem.run_bind, Sem.run_pure, Result.andThen_ok]; done)
      | (split at h
         · rename_i hz
           cases h
           refine .str hw ?_
           have hs : (ByteArray.mk s.toArray).size = s.length := by simp [ByteArray.size]
           have hu : (ByteArray.mk u.toArray).size = u.length := by simp [ByteArray.size]
           have e : (ByteArray.mk s.toArray ++ ByteArray.mk u.toArray) = ⟨(s ++ u).toArray⟩ := by
             apply ByteArray.ext; simp [ByteArray.data_append]
           simp only [eqGuard_at_string, binOp, Op.stringOp, Sem.run_bind, Sem.run_pure, Result.andThen_ok, Sem.run_ite, hs, hu, IntKind.max_i64]
           rw [if_neg (by omega), e]
         · cases h)
  · cases h

theorem run_equal {t : TypeId} {x y : Value} {r : Result Bool} (f : ∀ d, (Op.equalIn (d + 1) t x y).run P w = r) : (Op.equal t x y).run P w = r := f 9999

def isNeq (op : BinOp) : Bool := match op with | .neq => true | _ => false

theorem runs_beq {op : BinOp} {t : TypeId} {x y : Operand} {a b : Bool} {p q : Value} (hw : Wr base w0 H G w) (ht : P.underlying t = some .bool) (hp : Rep G w (.bool a) p) (hq : Rep G w (.bool b) q)
    (hop : op = .eql ∨ op = .neq) : RunsV P base w0 H G w (do eqGuard op t x y p q; binOp op t p q) (.bool (xor (isNeq op) (a == b))) := by
  rw [hp.bool_inv, hq.bool_inv]
  refine .bool hw ?_
  have he : (Op.equal t (.bool a) (.bool b)).run P w = .ok (a == b) w := run_equal fun d => by simp [Op.equalIn, run_underlying ht]
  rcases hop with rfl | rfl <;> simp [eqGuard_at_bool, binOp, he, isNeq]

theorem runs_isnil {op : BinOp} {t : TypeId} {x y : Operand} {a : AVal} {b : Bool} {p : Value} {d : TypeDesc} {nk : NK} {act : Act} (hw : Wr base w0 H G w) (ht : P.underlying t = some d)
    (hd : nkOf d = some nk) (hy : nilLit y = some nk)
    (hp : Rep G w a p) (h : isNilA nk a = some b) (hop : op = .eql ∨ op = .neq) : RunsV P base w0 H G w (do eqGuard op t x y p (act.eval y); binOp op t p (act.eval y)) (.bool (xor (isNeq op) b)) := by
  refine .bool hw ?_
  unfold nilLit at hy
  unfold isNilA at h
  split at h <;> cases h
  · rw [hp.nilptr_inv]
    split at hy <;> cases hy
    cases d <;> simp [nkOf] at hd
    rcases hop with rfl | rfl <;> simp only [Act.eval, eqGuard_at_pointer, binOp, isNeq, Bool.not_true, Bool.not_false, Bool.or_true, Bool.false_eq_true, if_true, if_false, Sem.run_bind, Sem.run_pure, Result.andThen_ok] <;> rw [run_equal (r := .ok true w) (fun d => by simp [Op.equalIn, run_underlying ht])] <;> rfl
  · rw [hp.nilmap_inv]
    split at hy <;> cases hy
    cases d <;> simp [nkOf] at hd
    rcases hop with rfl | rfl <;> simp only [Act.eval, eqGuard_at_map, binOp, isNeq, Bool.not_true, Bool.not_false, Bool.or_true, Bool.false_eq_true, if_true, if_false, Sem.run_bind, Sem.run_pure, Result.andThen_ok] <;> rw [run_equal (r := .ok true w) (fun d => by simp [Op.equalIn, run_underlying ht])] <;> rfl
  · rw [hp.nilfunc_inv]
    split at hy <;> cases hy
    cases d <;> simp [nkOf] at hd
    rcases hop with rfl | rfl <;> simp only [Act.eval, eqGuard, binOp, isNeq, Bool.not_true, Bool.not_false, Bool.or_true, Bool.false_eq_true, if_true, if_false, Sem.run_bind, Sem.run_pure, Result.andThen_ok] <;> rw [run_equal (r := .ok true w) (fun d => by simp [Op.equalIn, run_underlying ht])] <;> rfl
  · rw [hp.nilif_inv]
    split at hy <;> cases hy
    cases d <;> simp [nkOf] at hd
    rcases hop with rfl | rfl <;> simp only [Act.eval, eqGuard, binOp, isNeq, Bool.not_true, Bool.not_false, Bool.or_true, Bool.false_eq_true, if_true, if_false, Sem.run_bind, Sem.run_pure, Result.andThen_ok] <;> rw [run_equal (r := .ok true w) (fun d => by simp [Op.equalIn, run_underlying ht])] <;> rfl
  · obtain ⟨b, rfl, _⟩ := hp.ref_inv
    split at hy <;> cases hy
    cases d <;> simp [nkOf] at hd
    rcases hop with rfl | rfl <;> simp only [Act.eval, eqGuard_at_pointer, binOp, isNeq, Bool.not_true, Bool.not_false, Bool.or_true, Bool.false_eq_true, if_true, if_false, Sem.run_bind, Sem.run_pure, Result.andThen_ok] <;> rw [run_equal (r := .ok false w) (fun d => by simp [Op.equalIn, run_underlying ht])] <;> rfl
  · obtain ⟨b, off, vs, rfl, _⟩ := hp.ip_inv
    split at hy <;> cases hy
    cases d <;> simp [nkOf] at hd
    rcases hop with rfl | rfl <;> simp only [Act.eval, eqGuard_at_pointer, binOp, isNeq, Bool.not_true, Bool.not_false, Bool.or_true, Bool.false_eq_true, if_true, if_false, Sem.run_bind, Sem.run_pure, Result.andThen_ok] <;> rw [run_equal (r := .ok false w) (fun d => by simp [Op.equalIn, run_underlying ht])] <;> rfl
  · obtain ⟨b, rfl, _⟩ := hp.map_inv
    split at hy <;> cases hy
    cases d <;> simp [nkOf] at hd
    rcases hop with rfl | rfl <;> simp only [Act.eval, eqGuard_at_map, binOp, isNeq, Bool.not_true, Bool.not_false, Bool.or_true, Bool.false_eq_true, if_true, if_false, Sem.run_bind, Sem.run_pure, Result.andThen_ok] <;> rw [run_equal (r := .ok false w) (fun d => by simp [Op.equalIn, run_underlying ht])] <;> rfl
  · obtain ⟨vs, us, rfl, _⟩ := hp.func_inv
    split at hy <;> cases hy
    cases d <;> simp [nkOf] at hd
    rcases hop with rfl | rfl <;> simp only [Act.eval, eqGuard_at_func, binOp, isNeq, Bool.not_true, Bool.not_false, Bool.or_true, Bool.false_eq_true, if_true, if_false, Sem.run_bind, Sem.run_pure, Result.andThen_ok] <;> rw [run_equal (r := .ok false w) (fun d => by simp [Op.equalIn, run_underlying ht])] <;> rfl
  · obtain ⟨v, rfl, _⟩ := hp.iface_inv
    split at hy <;> cases hy
    cases d <;> simp [nkOf] at hd
    rcases hop with rfl | rfl <;> simp only [Act.eval, eqGuard, binOp, isNeq, Bool.not_true, Bool.not_false, Bool.or_true, Bool.false_eq_true, if_true, if_false, Sem.run_bind, Sem.run_pure, Result.andThen_ok] <;> rw [run_equal (r := .ok false w) (fun d => by simp [Op.equalIn, run_underlying ht])] <;> rfl
  · rcases hp.sl_inv with ⟨h1, _⟩ | ⟨b, off, cap, sz, vs, rfl, _⟩ | ⟨h1, _⟩
    rotate_right
    · cases h1
    · cases h1
    · split at hy <;> cases hy
      cases d <;> simp [nkOf] at hd
      rcases hop with rfl | rfl <;> simp only [Act.eval, eqGuard_at_slice, binOp, isNeq, Bool.not_true, Bool.not_false, Bool.or_true, Bool.false_eq_true, if_true, if_false, Sem.run_bind, Sem.run_pure, Result.andThen_ok] <;> rw [run_equal (r := .ok false w) (fun d => by simp [Op.equalIn, run_underlying ht])] <;> rfl

end
end Go.Eng

/- More of the operations that write nothing that is known. -/
set_option linter.unusedVariables false
set_option linter.unusedSimpArgs false
namespace Go.Eng
open Go.RowKit (Below)

section
variable {P : Program} {base : Nat} {w0 : World} {H : Hp} {G : Gh} {w : World} {tm : List AVal} {a : Act}

/-! #### slices of strings and rows -/
def ORep (G : Gh) (w : World) : Option AVal → Option Value → Prop
  | none, none => True
  | some x, some v => Rep G w x v
  | _, _ => False

theorem ORep.opd {tm : List AVal} {a : Act} (h : Reps G w tm a.tmps.toList) (x : Option Operand) : ORep G w ((x.map opd).map (ev tm)) (x.map a.eval) := by
  cases x with
  | none => trivial
  | some x => exact ev_rep h x

theorem ORep.bnd {o : Option AVal} {u : Option Value} {d h : Nat} (hr : ORep G w o u) (h0 : bnd o d = some h) :
    (u = none ∧ o = none ∧ h = d) ∨ ∃ k : IntKind, u = some (.int k (h : Int)) ∧ o.isSome = true := by
  unfold Eng.bnd at h0
  split at h0
  · cases u with
    | none => cases h0; exact .inl ⟨rfl, rfl, rfl⟩
    | some v => exact hr.elim
  · rename_i k n
    cases u with
    | none => exact hr.elim
    | some v =>
      have hr : Rep G w (.int k n) v := hr
      rw [hr.int_inv]
      split at h0
      · cases h0
        rename_i hn
        exact .inr ⟨k, by rw [Int.toNat_of_nonneg hn], rfl⟩
      · cases h0
  · cases h0

theorem run_sliceBound' (k : IntKind) (i y : Nat) (code : BoundsCode) (h1 : i ≤ y) : (Instr.sliceBound (.int k (i : Int)) y code).run P w = .ok i w := by
  rw [run_sliceBound w k (i : Int) y code (by omega) (by omega)]; simp

theorem run_sliceBounds {isSlice : Bool} {len cap l h m : Nat} {lo hi mx : Option Value}
    (hl : (lo = none ∧ l = 0) ∨ ∃ k : IntKind, lo = some (.int k (l : Int))) (hh : (hi = none ∧ h = len) ∨ ∃ k : IntKind, hi = some (.int k (h : Int)))
    (hm : (mx = none ∧ m = cap) ∨ ∃ k : IntKind, mx = some (.int k (m : Int))) (h1 : l ≤ h) (h2 : h ≤ m) (h3 : m ≤ cap) (hx : hi.isSome = true ∨ mx = none) :
    (Instr.sliceBounds isSlice len cap lo hi mx).run P w = .ok (l, h, m) w := by
  unfold Instr.sliceBounds
  rcases hm with ⟨rfl, rfl⟩ | ⟨km, rfl⟩ <;> rcases hh with ⟨rfl, rfl⟩ | ⟨kh, rfl⟩ <;> rcases hl with ⟨rfl, rfl⟩ | ⟨kl, rfl⟩ <;>
    simp only [Sem.run_bind, Sem.run_pure, Result.andThen_ok] <;> (try simp only [Option.isSome_none, Option.isSome_some, Bool.false_eq_true, reduceCtorEq, or_self, or_false, false_or] at hx) <;>
    (repeat first | rw [run_sliceBound' _ _ _ _ (by omega)] | simp only [Sem.run_bind, Sem.run_pure, Result.andThen_ok])

theorem runs_slS {t : TypeId} {s : List UInt8} {lo hi : Option AVal} {p : Value} {l h : Option Value} {v : AVal} (hw : Wr base w0 H G w) (ht : P.underlying t = some .string) (hp : Rep G w (.str s) p)
    (hl : ORep G w lo l) (hh : ORep G w hi h) (hv : slSA s lo hi = some v) : RunsV P base w0 H G w (Instr.sliceAt t p l h none) v := by
  rw [hp.str_inv]
  unfold slSA at hv
  split at hv
  · rename_i h' l' e1 e2
    split at hv
    · rename_i hc
      cases hv
      refine .str hw ?_
      have hs : (ByteArray.mk s.toArray).size = s.length := by simp [ByteArray.size]
      have b1 := hh.bnd e1
      have b2 := hl.bnd e2
      have hb : (Instr.sliceBounds false (ByteArray.mk s.toArray).size (ByteArray.mk s.toArray).size l h none).run P w = .ok (l', h', (ByteArray.mk s.toArray).size) w := by
        refine run_sliceBounds ?_ ?_ (.inl ⟨rfl, rfl⟩) hc.1 (by rw [hs]; exact hc.2) (Nat.le_refl _) (.inr rfl)
        · rcases b2 with ⟨e, _, e'⟩ | ⟨k, e, _⟩
          · exact .inl ⟨e, e'⟩
          · exact .inr ⟨k, e⟩
        · rcases b1 with ⟨e, _, e'⟩ | ⟨k, e, _⟩
          · exact .inl ⟨e, e'.trans hs.symm⟩
          · exact .inr ⟨k, e⟩
      have he : (ByteArray.mk s.toArray).extract l' h' = ⟨((s.take h').drop l').toArray⟩ := by
        apply ByteArray.ext
        simp [ByteArray.data_extract, List.extract_toArray]
        rw [List.drop_take]
      simp only [Instr.sliceAt, Sem.run_bind, run_underlying ht, Result.andThen_ok, Instr.slice, hb, Sem.run_ite, Option.isSome_none, Bool.false_eq_true, if_false, he, Sem.run_pure]
    · cases hv
  · cases hv

theorem flat_len {sz : Nat} : ∀ {rows : List (List AVal)}, (∀ r ∈ rows, r.length = sz) → rows.flatten.length = rows.length * sz
  | [], _ => by simp
  | r :: rows, h => by
    have ih := flat_len (rows := rows) (fun r hr => h r (by simp [hr]))
    have hr := h r (by simp)
    simp only [List.flatten_cons, List.length_append, List.length_cons, Nat.succ_mul, ih, hr]
    omega

theorem flat_take {sz : Nat} : ∀ {rows : List (List AVal)}, (∀ r ∈ rows, r.length = sz) → ∀ n, (rows.take n).flatten = rows.flatten.take (n * sz)
  | [], _, n => by simp
  | r :: rows, h, 0 => by simp
  | r :: rows, h, n + 1 => by
    have ih := flat_take (rows := rows) (fun r hr => h r (by simp [hr])) n
    have hr := h r (by simp)
    have e : (n + 1) * sz = sz + n * sz := by rw [Nat.succ_mul]; omega
    simp only [List.take_succ_cons, List.flatten_cons, ih, e, List.take_append, hr]
    have hA : r.take (sz + n * sz) = r := List.take_of_length_le (by omega)
    rw [hA, show sz + n * sz - sz = n * sz from by omega]

theorem flat_drop {sz : Nat} : ∀ {rows : List (List AVal)}, (∀ r ∈ rows, r.length = sz) → ∀ n, (rows.drop n).flatten = rows.flatten.drop (n * sz)
  | [], _, n => by simp
  | r :: rows, h, 0 => by simp
  | r :: rows, h, n + 1 => by
    have ih := flat_drop (rows := rows) (fun r hr => h r (by simp [hr])) n
    have hr := h r (by simp)
    have e : (n + 1) * sz = sz + n * sz := by rw [Nat.succ_mul]; omega
    simp only [List.drop_succ_cons, List.flatten_cons, ih, e, List.drop_append, hr]
    have hA : r.drop (sz + n * sz) = [] := List.drop_of_length_le (by omega)
    rw [hA, show sz + n * sz - sz = n * sz from by omega]
    simp

theorem Reps.flatten_get {rows : List (List AVal)} {vs : List Value} {sz : Nat} (h : Reps G w rows.flatten vs) (hs : ∀ r ∈ rows, r.length = sz) {n : Nat} {r : List AVal} (hr : rows[n]? = some r) :
    Reps G w r ((vs.drop (n * sz)).take sz) := by
  have h1 : n < rows.length := (List.getElem?_eq_some_iff.1 hr).1
  have h2 := (h.drop (n * sz)).take sz
  rw [← flat_drop hs n] at h2
  have e : rows.drop n = r :: rows.drop (n + 1) := by
    rw [List.drop_eq_getElem_cons h1]
    congr 1
    rw [List.getElem?_eq_getElem h1] at hr
    exact Option.some.inj hr
  rw [e, List.flatten_cons, List.take_append_of_le_length (by rw [hs r (List.mem_of_getElem? hr)]; exact Nat.le_refl _), List.take_of_length_le (by rw [hs r (List.mem_of_getElem? hr)]; exact Nat.le_refl _)] at h2
  exact h2

theorem ImmRow.drop {b off : Nat} {vs : List Value} (h : ImmRow G w b off vs) (n : Nat) : ImmRow G w b (off + n) (vs.drop n) := fun i v hv => by
  rw [List.getElem?_drop] at hv
  have := h (n + i) v hv
  rwa [← Nat.add_assoc] at this
theorem ImmRow.take {b off : Nat} {vs : List Value} (h : ImmRow G w b off vs) (n : Nat) : ImmRow G w b off (vs.take n) := fun i v hv => by
  rw [List.getElem?_take] at hv
  split at hv
  · exact h i v hv
  · cases hv

theorem runs_slM {t e : TypeId} {sz id n sz' : Nat} {lo hi mx : Option AVal} {p : Value} {l h m : Option Value} {v : AVal} (hw : Wr base w0 H G w) (ht : P.underlying t = some (.slice e))
    (he : sizeOf? P e = some sz) (hp : Rep G w (.slm id n sz') p) (hl : ORep G w lo l) (hh : ORep G w hi h) (hm : ORep G w mx m) (hv : slMA sz id n sz' lo hi mx = some v) :
    RunsV P base w0 H G w (Instr.sliceAt t p l h m) v := by
  unfold slMA at hv
  split at hv
  · rename_i h' e2 e3
    split at hv
    · rename_i hc
      obtain ⟨c1, rfl⟩ := hc
      cases hv
      have b2 := hh.bnd e2
      have b3 := hl.bnd e3
      obtain ⟨b, cap, ty, N, rfl, hst, hs, hc, hN⟩ := hp.slm_inv
      have hm0 : m = none := by
        cases m with
        | none => rfl
        | some v => exact hm.elim
      subst hm0
      have hb : (Instr.sliceBounds true n cap l h none).run P w = .ok (0, h', cap) w := by
        refine run_sliceBounds ?_ ?_ (.inl ⟨rfl, rfl⟩) (Nat.zero_le _) (by omega) (Nat.le_refl _) (.inr rfl)
        · rcases b3 with ⟨f1, _, f2⟩ | ⟨k, f1, _⟩
          · exact .inl ⟨f1, rfl⟩
          · exact .inr ⟨k, f1⟩
        · rcases b2 with ⟨f1, _, f2⟩ | ⟨k, f1, _⟩
          · exact .inl ⟨f1, f2⟩
          · exact .inr ⟨k, f1⟩
      refine .here hw (u := .slice (some ⟨b, 0, none⟩) h' cap) ?_ (.slm hst hs (by omega) hN)
      simp only [Instr.sliceAt, Sem.run_bind, run_underlying ht, Result.andThen_ok, Instr.slice, hb, run_sizeOf? he, Sem.run_pure]
      simp [Addr.add]
    · cases hv
  · cases hv

theorem runs_slL {t e : TypeId} {sz : Nat} {rows : List (List AVal)} {tk : Tok} {lo hi mx : Option AVal} {p : Value} {l h m : Option Value} {v : AVal} (hw : Wr base w0 H G w) (ht : P.underlying t = some (.slice e))
    (he : sizeOf? P e = some sz) (hp : Rep G w (.sl rows tk) p) (hl : ORep G w lo l) (hh : ORep G w hi h) (hm : ORep G w mx m) (hv : slLA sz rows tk lo hi mx = some v) :
    RunsV P base w0 H G w (Instr.sliceAt t p l h m) v := by
  unfold slLA at hv
  split at hv
  · rename_i m' h' l' e1 e2 e3
    split at hv
    · rename_i hc
      obtain ⟨c1, c2, c3, c4⟩ := hc
      split at hv
      · rename_i hall
        cases hv
        have hsz : ∀ r ∈ rows, r.length = sz := fun r hr => by have := List.all_eq_true.1 hall r hr; simpa using this
        have b1 := hm.bnd e1
        have b2 := hh.bnd e2
        have b3 := hl.bnd e3
        have x4 : h.isSome = true ∨ m = none := by
          rcases b1 with ⟨f1, f2, _⟩ | ⟨k, f1, f2⟩
          · exact .inr f1
          · rcases b2 with ⟨g1, g2, _⟩ | ⟨k', g1, g2⟩
            · rw [g2] at c4; simp at c4; rw [c4] at f2; cases f2
            · exact .inl (by rw [g1]; rfl)
        have y3 : (l = none ∧ l' = 0) ∨ ∃ k : IntKind, l = some (.int k (l' : Int)) := by
          rcases b3 with ⟨f1, _, f2⟩ | ⟨k, f1, _⟩
          · exact .inl ⟨f1, f2⟩
          · exact .inr ⟨k, f1⟩
        rcases hp.sl_inv with ⟨rfl, rfl, htk⟩ | ⟨b, off, cap, sz', vs, rfl, hsz', hr, hi', hb, hcap, htk⟩ | ⟨rfl, a', cap, rfl, htk⟩
        rotate_right
        · simp only [List.length_nil] at c3 e1 e2
          have z : m' = 0 ∧ h' = 0 ∧ l' = 0 := by omega
          obtain ⟨rfl, rfl, rfl⟩ := z
          obtain ⟨M, hM⟩ : ∃ M, M = if m = none then cap else 0 := ⟨_, rfl⟩
          refine .here hw (u := .slice (some a') 0 M) ?_ ?_
          · have hb : (Instr.sliceBounds true 0 cap l h m).run P w = .ok (0, 0, M) w := by
              refine run_sliceBounds y3 ?_ ?_ (Nat.le_refl _) (Nat.zero_le _) (by rw [hM]; split <;> omega) x4
              · rcases b2 with ⟨f1, _, f2⟩ | ⟨k, f1, _⟩
                · exact .inl ⟨f1, rfl⟩
                · exact .inr ⟨k, f1⟩
              · rcases b1 with ⟨f1, _, f2⟩ | ⟨k, f1, _⟩
                · exact .inl ⟨f1, by rw [hM, if_pos f1]⟩
                · exact .inr ⟨k, by rw [hM, if_neg (by rw [f1]; simp)]; exact f1⟩
            simp only [Instr.sliceAt, Sem.run_bind, run_underlying ht, Result.andThen_ok, Instr.slice, hb, run_sizeOf? he, Sem.run_pure]
            simp [Addr.add]
          · simp only [List.take_nil, List.drop_nil, List.length_nil]
            refine .slz ?_
            split
            · rename_i hf
              rcases b1 with ⟨g1, g2, _⟩ | ⟨k, g1, g2⟩
              · rw [g2] at hf; exact absurd hf.1 (by simp)
              · exact .inr ⟨rfl, by rw [hM, if_neg (by rw [g1]; simp)]⟩
            · split
              · rename_i hf
                rcases htk with htk | ⟨htk, hcz⟩
                · exact .inl htk
                · refine .inr ⟨htk, ?_⟩
                  rw [hM]; split <;> omega
              · exact .inl rfl
        · simp only [List.length_nil] at c3 e1 e2
          have z : m' = 0 ∧ h' = 0 ∧ l' = 0 := by omega
          obtain ⟨rfl, rfl, rfl⟩ := z
          refine .here hw (u := .slice none 0 0) ?_ ?_
          · have hb : (Instr.sliceBounds true 0 0 l h m).run P w = .ok (0, 0, 0) w := by
              refine run_sliceBounds y3 ?_ ?_ (Nat.le_refl _) (Nat.le_refl _) (Nat.le_refl _) x4
              · rcases b2 with ⟨f1, _, f2⟩ | ⟨k, f1, _⟩
                · exact .inl ⟨f1, rfl⟩
                · exact .inr ⟨k, f1⟩
              · rcases b1 with ⟨f1, _, f2⟩ | ⟨k, f1, _⟩
                · exact .inl ⟨f1, rfl⟩
                · exact .inr ⟨k, f1⟩
            simp only [Instr.sliceAt, Sem.run_bind, run_underlying ht, Result.andThen_ok, Instr.slice, hb, run_sizeOf? he, Sem.run_pure]
            rfl
          · simp only [List.take_nil, List.drop_nil, List.length_nil]
            refine .slnil ?_
            split
            · exact .inr (.inl rfl)
            · split
              · exact htk
              · exact .inl rfl
        · -- a row
          obtain ⟨M, hM⟩ : ∃ M, M = (if m = none then cap else m') := ⟨_, rfl⟩
          have hMh : h' ≤ M := by rw [hM]; split <;> omega
          have hMc : M ≤ cap := by rw [hM]; split <;> omega
          have hb' : (Instr.sliceBounds true rows.length cap l h m).run P w = .ok (l', h', M) w := by
            refine run_sliceBounds y3 ?_ ?_ c1 hMh hMc x4
            · rcases b2 with ⟨f1, _, f2⟩ | ⟨k, f1, _⟩
              · exact .inl ⟨f1, f2⟩
              · exact .inr ⟨k, f1⟩
            · rcases b1 with ⟨f1, _, f2⟩ | ⟨k, f1, _⟩
              · exact .inl ⟨f1, by rw [hM, if_pos f1]⟩
              · exact .inr ⟨k, by rw [hM, if_neg (by rw [f1]; simp)]; exact f1⟩
          have hlen : ((rows.take h').drop l').length = h' - l' := by simp; omega
          have hlz : l' * sz = l' * sz' := by
            cases rows with
            | nil => simp at c3; have : l' = 0 := by omega
                     subst this; simp
            | cons r rows => rw [← hsz r (by simp), ← hsz' r (by simp)]
          have hcb : M - l' ≥ h' - l' := by omega
          have htok : ∀ off', (l' = 0 → off' = off) → TokOk G w (if mx.isSome ∧ h' = m' then .full else if mx.isNone ∧ h' = rows.length ∧ (l' = 0 ∨ tk = .full) then tk else .no) b off' (h' - l') (M - l') sz' := by
            intro off' ho
            split
            · rename_i hf
              obtain ⟨f1, f2⟩ := hf
              rcases b1 with ⟨g1, g2, _⟩ | ⟨k, g1, g2⟩
              · rw [g2] at f1; cases f1
              · rw [if_neg (by rw [g1]; simp)] at hM
                show M - l' = h' - l'
                omega
            · split
              · rename_i hf
                obtain ⟨f1, f2, f3⟩ := hf
                have hMc' : M = cap := by
                  rcases b1 with ⟨g1, g2, _⟩ | ⟨k, g1, g2⟩
                  · rw [if_pos g1] at hM; exact hM
                  · cases mx <;> simp at f1 g2
                by_cases hfull : tk = .full
                · subst hfull
                  have : cap = rows.length := htk
                  show M - l' = h' - l'
                  omega
                · have hl0 : l' = 0 := f3.resolve_right hfull
                  subst hl0
                  rw [ho rfl, hMc', f2]
                  exact htk
              · trivial
          have hlen : ((rows.take h').drop l').length = h' - l' := by simp; omega
          have hszt : ∀ r ∈ (rows.take h').drop l', r.length = sz' := fun r hr => hsz' r (List.mem_of_mem_take (List.mem_of_mem_drop hr))
          by_cases hMl : M = l'
          · have hh0 : h' = l' := by omega
            refine .here hw (u := .slice (some ⟨b, off, none⟩) (h' - l') (M - l')) ?_ ?_
            · simp only [Instr.sliceAt, Sem.run_bind, run_underlying ht, Result.andThen_ok, Instr.slice, hb', run_sizeOf? he, Sem.run_pure]
              rw [if_pos hMl]
            · have e : (rows.take h').drop l' = [] := List.eq_nil_of_length_eq_zero (by omega)
              rw [e]
              have := htok off (fun _ => rfl)
              have e0 : h' - l' = ([] : List (List AVal)).length := by simp; omega
              rw [e0] at this ⊢
              exact .sl (vs := []) (fun r hr => by simp at hr) rfl (fun i a v h => by simp at h) (fun i v h => by simp at h) hb (by simp) this
          · refine .here hw (u := .slice (some ⟨b, off + l' * sz, none⟩) (h' - l') (M - l')) ?_ ?_
            · simp only [Instr.sliceAt, Sem.run_bind, run_underlying ht, Result.andThen_ok, Instr.slice, hb', run_sizeOf? he, Sem.run_pure]
              rw [if_neg hMl]
              simp [Addr.add_lit]
            · have hr' : Reps G w ((rows.take h').drop l').flatten ((vs.take (h' * sz')).drop (l' * sz')) := by
                rw [flat_drop (fun r hr => hsz' r (List.mem_of_mem_take hr)), flat_take hsz']
                exact (hr.take _).drop _
              have hi2 : ImmRow G w b (off + l' * sz) ((vs.take (h' * sz')).drop (l' * sz')) := by
                rw [hlz]
                exact (hi'.take _).drop _
              have := htok (off + l' * sz) (fun e => by rw [e]; simp)
              rw [← hlen] at this ⊢
              exact .sl hszt hr'.1 hr'.2 hi2 hb (by omega) this
      · cases hv
    · cases hv
  · cases hv

end
end Go.Eng

/- The rest of the operations that write nothing that is known, and the theorem about all of them. -/
set_option linter.unusedVariables false
set_option linter.unusedSimpArgs false
namespace Go.Eng
open Go.RowKit (Below)

section
variable {P : Program} {base : Nat} {w0 : World} {H : Hp} {G : Gh} {w : World} {tm : List AVal} {a : Act}

theorem runs_nilck {dst : Option Tmp} {type : TypeId} {pos : String} {after : Array Edge} {guard : Option (Nat × Bool)} {x : Operand} {v : AVal} {av : AVal} (hw : Wr base w0 H G w) (hx : Rep G w av (a.eval x))
    (h : nilckA av = some v) : RunsN P base w0 H G w (execOp a.eval ⟨dst, .nilCheck x, type, pos, after, guard⟩) v := by
  cases av <;> (try simp only [nilckA, reduceCtorEq, Option.some.injEq] at h)
  case func fn p q =>
    cases fn <;> simp only [nilckA, reduceCtorEq, Option.some.injEq] at h
    subst h
    obtain ⟨vs, us, hb, _⟩ := hx.func_inv
    rw [hb] at hx
    exact .here hw (by simp only [execOp, hb, Sem.run_pure]) hx
  all_goals subst h
  · obtain ⟨b, hb, _⟩ := hx.ref_inv
    rw [hb] at hx
    exact .here hw (by simp only [execOp, hb, Sem.run_pure]) hx
  · obtain ⟨b, off, vs, hb, _⟩ := hx.ip_inv
    rw [hb] at hx
    exact .here hw (by simp only [execOp, hb, Sem.run_pure]) hx

theorem runs_faddr {s : TypeId} {f off n : Nat} {fs : Array Field} {fl : Field} {av v : AVal} {u : Value} (hw : Wr base w0 H G w) (hs : P.underlying s = some (.struct fs)) (hf : fs[f]? = some fl)
    (hn : sizeOf? P fl.type = some (n + 1)) (ho : fl.offset = off) (hx : Rep G w av u)
    (h : faddrA off av = some v) : RunsV P base w0 H G w (Instr.fieldAt s u f) v := by
  cases av <;> simp only [faddrA, reduceCtorEq] at h
  · cases h
    obtain ⟨b, rfl, hst⟩ := hx.ref_inv
    refine .here hw (u := .pointer (some ⟨b, _ + off, none⟩)) ?_ (.ref _ hst)
    simp [Instr.fieldAt, run_underlying hs, hf, Instr.sureAddr, fieldPlace, run_sizeOf? hn, ho, Addr.add_lit]
  · split at h
    · rename_i hle
      cases h
      obtain ⟨b, o, vs, rfl, hr, hi, hb⟩ := hx.ip_inv
      have hr' := hr.drop off
      refine .here hw (u := .pointer (some ⟨b, o + off, none⟩)) ?_ (.ip hr'.1 hr'.2 (hi.drop off) hb)
      simp [Instr.fieldAt, run_underlying hs, hf, Instr.sureAddr, fieldPlace, run_sizeOf? hn, ho, Addr.add_lit]
    · cases h

theorem runs_part {t : TypeId} {k : Option Nat} {off : Nat} {cs : List AVal} {vs : List Value} {v : AVal} (hw : Wr base w0 H G w) (hk : aggOf P t = some k) (hr : Reps G w cs vs) (h : partA k off cs = some v) :
    RunsV P base w0 H G w (part t vs.toArray off) v := by
  unfold partA at h
  cases k with
  | none =>
    obtain ⟨u, hu, hr'⟩ := hr.get h
    refine .here hw (u := u) ?_ hr'
    simp only [part, Sem.run_bind, aggOf_none hk, Result.andThen_ok, Bool.false_eq_true, if_false]
    simp [hu]
  | some n =>
    simp only at h
    split at h
    · rename_i hn
      cases h
      obtain ⟨h1, h2⟩ := aggOf_some hk w
      refine .here hw (u := .agg ((vs.drop off).take n).toArray) ?_ (Rep.agg' ((hr.drop off).take n))
      simp only [part, Sem.run_bind, h1, Result.andThen_ok, if_true, h2, Sem.run_pure]
      have e : vs.toArray.extract off (off + n) = ((vs.drop off).take n).toArray := by
        rw [List.extract_toArray, List.extract_eq_take_drop]
        congr 2; omega
      rw [e]
    · cases h

theorem runs_iaddr {t e : TypeId} {sz : Nat} {rows : List (List AVal)} {tk : Tok} {k : IntKind} {n : Int} {p i : Value} {v : AVal} (hw : Wr base w0 H G w) (ht : P.underlying t = some (.slice e)) (he : sizeOf? P e = some sz)
    (hp : Rep G w (.sl rows tk) p) (hi : Rep G w (.int k n) i) (h : iaddrA sz rows n = some v) : RunsV P base w0 H G w (Instr.indexAt t p i) v := by
  rw [hi.int_inv]
  unfold iaddrA at h
  split at h
  · rename_i h0
    split at h
    · rename_i r hr
      split at h
      · rename_i hlen
        cases h
        have hlt : n.toNat < rows.length := (List.getElem?_eq_some_iff.1 hr).1
        rcases hp.sl_inv with ⟨rfl, _, _⟩ | ⟨b, off, cap, sz', vs, rfl, hsz, hrs, himm, hb, hcap, htk⟩ | ⟨rfl, _, _⟩
        rotate_right
        · simp at hlt
        · simp at hlt
        · have hmem : r ∈ rows := List.mem_of_getElem? hr
          have hszz : sz' = sz := by rw [← hsz r hmem, hlen]
          subst hszz
          have hr1 := hrs.flatten_get hsz hr
          refine .here hw (u := .pointer (some ⟨b, off + n.toNat * sz', none⟩)) ?_ (.ip hr1.1 hr1.2 ((himm.drop _).take _) hb)
          simp only [Instr.indexAt, asIntOf, Sem.run_bind, Sem.run_pure, Result.andThen_ok, run_underlying ht]
          rw [Sem.run_ite, if_pos ⟨h0, by omega⟩]
          simp [run_sizeOf? he, Addr.add_lit]
      · cases h
    · cases h
  · cases h

theorem runs_iaddrM {t e : TypeId} {sz id n sz' : Nat} {k : IntKind} {j : Int} {p i : Value} {v : AVal} (hw : Wr base w0 H G w) (ht : P.underlying t = some (.slice e)) (he : sizeOf? P e = some sz)
    (hp : Rep G w (.slm id n sz') p) (hi : Rep G w (.int k j) i) (h : iaddrM sz id n sz' j = some v) : RunsV P base w0 H G w (Instr.indexAt t p i) v := by
  rw [hi.int_inv]
  unfold iaddrM at h
  split at h
  · rename_i h0
    obtain ⟨h1, h2, rfl⟩ := h0
    cases h
    obtain ⟨b, cap, ty, N, rfl, hst, hs, hc, hN⟩ := hp.slm_inv
    refine .here hw (u := .pointer (some ⟨b, 0 + j.toNat * sz, none⟩)) ?_ (by rw [Nat.zero_add]; exact .ref _ hst)
    simp only [Instr.indexAt, asIntOf, Sem.run_bind, Sem.run_pure, Result.andThen_ok, run_underlying ht]
    rw [Sem.run_ite, if_pos ⟨h1, by omega⟩]
    simp [run_sizeOf? he, Addr.add_lit]
  · cases h

theorem runs_ixS {t : TypeId} {s : List UInt8} {k : IntKind} {n : Int} {p i : Value} {v : AVal} (hw : Wr base w0 H G w) (ht : P.underlying t = some .string) (hp : Rep G w (.str s) p) (hi : Rep G w (.int k n) i)
    (h : (if 0 ≤ n then (s[n.toNat]?).map fun b => AVal.int .u8 b.toNat else none) = some v) : RunsV P base w0 H G w (Instr.index t p i) v := by
  rw [hi.int_inv, hp.str_inv]
  split at h
  · rename_i h0
    cases hb : s[n.toNat]? with
    | none => simp [hb] at h
    | some b =>
      simp only [hb, Option.map_some, Option.some.injEq] at h
      subst h
      refine .int hw ?_
      have e : (ByteArray.mk s.toArray)[n.toNat]? = some b := by
        have : (ByteArray.mk s.toArray)[n.toNat]? = s.toArray[n.toNat]? := rfl
        rw [this]; simpa using hb
      simp only [Instr.index, asIntOf, Sem.run_bind, Sem.run_pure, Result.andThen_ok, run_underlying ht]
      rw [if_pos h0, e]
      rfl
  · cases h

theorem bytes_run {P : Program} {w : World} : ∀ (rows : List (List AVal)) (vs : List Value) (s : List UInt8) (acc : ByteArray), Reps G w rows.flatten vs → bytesOf rows = some s →
    (forIn (m := Sem) vs.toArray acc (fun c r => match c with
      | .int .u8 n => pure (ForInStep.yield (r.push (UInt8.ofNat n.toNat)))
      | x => do
        stuck "bytesToString: byte expected"
        pure (ForInStep.yield r))).run P w = .ok ⟨acc.data ++ s.toArray⟩ w := by
  intro rows
  induction rows with
  | nil =>
    intro vs s acc hr hs
    simp only [bytesOf, Option.some.injEq] at hs
    subst hs
    have : vs = [] := List.eq_nil_of_length_eq_zero hr.1.symm
    subst this
    simp
  | cons r rows ih =>
    intro vs s acc hr hs
    unfold bytesOf at hs
    split at hs
    · rename_i e; cases e
    · rename_i n rest e
      cases e
      split at hs
      · rename_i hn
        cases hb : bytesOf rows with
        | none => simp [hb] at hs
        | some s' =>
          simp only [hb, Option.map_some, Option.some.injEq] at hs
          subst hs
          cases vs with
          | nil => have := hr.1; simp at this
          | cons v vs =>
            have h1 := hr.head
            have h2 := hr.tail
            rw [h1.int_inv]
            have := ih vs s' (acc.push (UInt8.ofNat n.toNat)) (by simpa using h2) hb
            simp only [List.forIn_toArray, List.forIn_cons] at this ⊢
            simp only [Sem.run_bind, Sem.run_pure, Result.andThen_ok]
            rw [this]
            congr 1
            apply ByteArray.ext
            simp [ByteArray.push]
      · cases hs
    · cases hs

end
end Go.Eng

/- Rows that are built, strings and bytes, assertions, look-ups; then the theorem about all operations that write nothing that is known. -/
set_option linter.unusedVariables false
set_option linter.unusedSimpArgs false
namespace Go.Eng
open Go.RowKit (Below)

section
variable {P : Program} {base : Nat} {w0 : World} {H : Hp} {G : Gh} {w : World} {tm : List AVal} {a : Act}

theorem rowsA_spec {sz : Nat} : ∀ {xs : List AVal} {rows : List (List AVal)}, rowsA sz xs = some rows → rows = xs.map AVal.cells ∧ (∀ r ∈ rows, r.length = sz) ∧ ∀ x ∈ xs, x.known = true
  | [], rows, h => by simp only [rowsA, Option.some.injEq] at h; subst h; simp
  | x :: xs, rows, h => by
    simp only [rowsA] at h
    split at h
    · rename_i hc
      cases hr : rowsA sz xs with
      | none => simp [hr] at h
      | some rs =>
        simp only [hr, Option.map_some, Option.some.injEq] at h
        subst h
        obtain ⟨h1, h2, h3⟩ := rowsA_spec hr
        refine ⟨by rw [h1]; rfl, fun r hr => ?_, fun y hy => ?_⟩
        · rcases List.mem_cons.1 hr with rfl | hr
          · exact hc.2
          · exact h2 r hr
        · rcases List.mem_cons.1 hy with rfl | hy
          · exact hc.1
          · exact h3 y hy
    · cases h

theorem fillA_rows {sz : Nat} : ∀ (xs : List AVal) (k : Nat) (z : List AVal), (∀ x ∈ xs, x.known = true ∧ x.cells.length = sz) → z.length = (k + xs.length) * sz →
    fillA z ((xs.zipIdx k).map fun p => (p.2 * sz, sz, p.1)) = some (z.take (k * sz) ++ (xs.map AVal.cells).flatten)
  | [], k, z, _, hz => by simp at hz; simp [fillA, List.take_of_length_le (Nat.le_of_eq hz)]
  | x :: xs, k, z, hx, hz => by
    obtain ⟨h1, h2⟩ := hx x (by simp)
    have e1 : (k + (x :: xs).length) * sz = k * sz + sz + xs.length * sz := by simp only [List.length_cons]; rw [← Nat.succ_mul, ← Nat.add_mul]; congr 1; omega
    have hle : k * sz + sz ≤ z.length := by rw [hz, e1]; omega
    simp only [List.zipIdx_cons, List.map_cons, fillA]
    rw [if_pos ⟨h1, h2, hle⟩]
    have hlen : (z.take (k * sz) ++ x.cells ++ z.drop (k * sz + sz)).length = (k + 1 + xs.length) * sz := by
      have e2 : (k + 1 + xs.length) * sz = k * sz + sz + xs.length * sz := by rw [← Nat.succ_mul, ← Nat.add_mul]
      simp only [List.length_append, List.length_take, List.length_drop, h2, e2]
      rw [hz, e1]; omega
    rw [fillA_rows xs (k + 1) _ (fun y hy => hx y (by simp [hy])) hlen]
    have e3 : (k + 1) * sz = k * sz + sz := Nat.succ_mul k sz
    have hA : (z.take (k * sz) ++ x.cells).length = k * sz + sz := by simp [h2]; omega
    rw [e3, List.take_append_of_le_length (by omega), List.take_of_length_le (by omega)]
    simp [List.append_assoc]

theorem reps_unk (vs : List Value) : Reps G w (List.replicate vs.length .unk) vs :=
  ⟨by simp, fun i a v ha _ => by
    rw [List.getElem?_replicate] at ha
    split at ha
    · cases ha; exact .unk v
    · cases ha⟩

/-- A row of the call's own that nobody writes again. -/
theorem runs_newRow {rows : List (List AVal)} {sz : Nat} {cs : Array Value} {e : TypeId} {fr : Nat × Nat} {cap : Nat} {tk : Tok} (hw : Wr base w0 H G w) (hs : ∀ r ∈ rows, r.length = sz)
    {vs : List Value} (hr : Reps G w rows.flatten vs) (hcs : ∀ (i : Nat) v, vs[i]? = some v → cs[i]? = some v) (hc : rows.length ≤ cap) (ht : tk = .no ∨ (tk = .full ∧ cap = rows.length) ∨ (tk = .frz ∧ fr = (cs.size, cs.size + 1))) :
    Rep G (w.alloc (.cells cs e fr)) (.sl rows tk) (.slice (some ⟨w.heap.size, 0, none⟩) rows.length cap) ∧ Wr base w0 H G (w.alloc (.cells cs e fr)) ∧ GExt G w G (w.alloc (.cells cs e fr)) := by
  obtain ⟨h1, h2⟩ := hw.alloc (.cells cs e fr)
  have hr' := hr.mono h2
  refine ⟨.sl hs hr'.1 hr'.2 (fun i v hv => ⟨?_, ?_⟩) (by simp) hc ?_, h1, h2⟩
  · simp only [World.cell?, heap_push_eq, Nat.zero_add]
    exact hcs i v hv
  · refine ⟨by simp, fun n hn => ?_⟩
    rw [hw.new _ (Nat.le_refl _)] at hn
    cases hn
  · rcases ht with rfl | ⟨rfl, hc⟩ | ⟨rfl, rfl⟩
    · trivial
    · exact hc
    · exact ⟨hw.new _ (Nat.le_refl _), cs, e, heap_push_eq _ _⟩

theorem runs_bsl' {t e : TypeId} {sz len : Nat} {ps : List (Nat × Operand)} {rows : List (List AVal)} {z : Value} {i : TypeInfo} (hw : Wr base w0 H G w) (ht : P.underlying t = some (.slice e)) (hi : P.info? e = some i) (hsz : i.size = sz) (hz : i.zero = some z)
    (hps : ps.map (·.1) = List.range len) (hbig : len * sz ≤ 16777216) (hr : rowsA sz (ps.map fun p => ev tm (opd p.2)) = some rows) (hT : Reps G w tm a.tmps.toList) :
    ∃ (r : Array Value) (vs : List Value), (Instr.buildSlice t len (ps.toArray.map fun (i, x) => (i, a.eval x))).run P w = .ok (.slice (some ⟨w.heap.size, 0, none⟩) len len) (w.alloc (.cells r e)) ∧ rows.length = len ∧ (∀ r ∈ rows, r.length = sz) ∧ Reps G w rows.flatten vs ∧ ∀ (i : Nat) v, vs[i]? = some v → r[i]? = some v := by
  obtain ⟨h1, h2, h3⟩ := rowsA_spec hr
  have hlen : ps.length = len := by have := congrArg List.length hps; simpa using this
  have hrl : rows.length = len := by rw [h1]; simp [hlen]
  have hxs : ∀ x ∈ (ps.map fun p => ev tm (opd p.2)), x.known = true ∧ x.cells.length = sz := fun x hx => ⟨h3 x hx, h2 _ (by rw [h1]; exact List.mem_map_of_mem hx)⟩
  obtain ⟨zs, hzs⟩ : ∃ zs : Array Value, zs = ((Array.range (len * sz)).map (fun k => (if len * sz = 0 then (#[] : Array Value) else z.cells)[k % (if len * sz = 0 then (#[] : Array Value) else z.cells).size]!)) := ⟨_, rfl⟩
  have hzl : zs.toList.length = len * sz := by rw [hzs]; simp
  have hfa := fillA_rows (sz := sz) (ps.map fun p => ev tm (opd p.2)) 0 (List.replicate zs.toList.length .unk) hxs (by rw [List.length_replicate, hzl]; simp [hlen])
  simp only [Nat.zero_mul, List.take_zero, List.nil_append, ← h1] at hfa
  obtain ⟨r, hf, hrep⟩ := fill_ok (G := G) (w := w) (place := fun i => some (i * sz, sz)) (ps.map fun p => (p.1, a.eval p.2)) _ _ zs _ (by simp) (fun j p q hp hq => by
    rw [List.getElem?_map] at hp hq
    rw [List.getElem?_zipIdx, List.getElem?_map] at hq
    cases hpj : ps[j]? with
    | none => simp [hpj] at hp
    | some pj =>
      simp only [hpj, Option.map_some, Option.some.injEq] at hp hq
      subst hp; subst hq
      have hj : pj.1 = j := by
        have := congrArg (·[j]?) hps
        simp only [List.getElem?_map, hpj, Option.map_some] at this
        have hjl : j < len := by have := (List.getElem?_eq_some_iff.1 hpj).1; omega
        rw [List.getElem?_range hjl] at this
        exact Option.some.inj this
      simp only [hj, Nat.zero_add]
      exact ⟨by trivial, ev_rep hT _⟩) (reps_unk zs.toList) hfa
  refine ⟨r, r.toList, ?_, hrl, h2, hrep, fun i v hv => by simpa using hv⟩
  have hso : (sizeOf e).run P w = .ok sz w := by simp [sizeOf, typeInfo, hi, hsz]
  have hzv : (zeroValue e).run P w = .ok z w := by simp [zeroValue, typeInfo, hi, hz]
  have hpa : (ps.toArray.map fun (x : Nat × Operand) => (x.1, a.eval x.2)).toList = ps.map fun p => (p.1, a.eval p.2) := by simp
  simp only [Instr.buildSlice, Sem.run_bind, run_underlying ht, Result.andThen_ok, hso]
  rw [Sem.run_ite, if_neg (by simp; omega)]
  by_cases h0 : len * sz = 0
  · rw [Sem.run_ite, if_pos h0]
    simp only [Sem.run_bind, Sem.run_pure, Result.andThen_ok]
    simp only [if_pos h0] at hzs
    have hf' : Instr.fill (fun i => some (i * sz, sz)) (Array.map (fun k => (#[] : Array Value)[k % (#[] : Array Value).size]!) (Array.range (len * sz))) (ps.toArray.map fun (x : Nat × Operand) => (x.1, a.eval x.2)).toList = some r := by
      rw [← hzs, hpa]; exact hf
    rw [hf']
    simp [newRow]
  · rw [Sem.run_ite, if_neg h0]
    simp only [Sem.run_bind, hzv, Sem.run_pure, Result.andThen_ok]
    simp only [if_neg h0] at hzs
    have hf' : Instr.fill (fun i => some (i * sz, sz)) (Array.map (fun k => z.cells[k % z.cells.size]!) (Array.range (len * sz))) (ps.toArray.map fun (x : Nat × Operand) => (x.1, a.eval x.2)).toList = some r := by
      rw [← hzs, hpa]; exact hf
    rw [hf']
    simp [newRow]

theorem runs_bsl {t e : TypeId} {sz len : Nat} {ps : List (Nat × Operand)} {rows : List (List AVal)} {z : Value} {i : TypeInfo} (hw : Wr base w0 H G w) (ht : P.underlying t = some (.slice e)) (hi : P.info? e = some i) (hsz : i.size = sz) (hz : i.zero = some z)
    (hps : ps.map (·.1) = List.range len) (hbig : len * sz ≤ 16777216) (hr : rowsA sz (ps.map fun p => ev tm (opd p.2)) = some rows) (hT : Reps G w tm a.tmps.toList) :
    RunsV P base w0 H G w (Instr.buildSlice t len (ps.toArray.map fun (i, x) => (i, a.eval x))) (.sl rows .full) := by
  obtain ⟨r, vs, h1, h2, h3, h4, h5⟩ := runs_bsl' (H := H) hw ht hi hsz hz hps hbig hr hT
  obtain ⟨k1, k2, k3⟩ := runs_newRow (e := e) (fr := (0, 0)) (cap := len) (tk := .full) (cs := r) hw h3 h4 h5 (by omega) (.inr (.inl ⟨rfl, h2.symm⟩))
  exact ⟨.slice (some ⟨w.heap.size, 0, none⟩) len len, w.alloc (.cells r e), h1, by rw [h2] at k1; exact k1, k2, k3, Fr.alloc _⟩

theorem runs_tas {x t : TypeId} {ok : Bool} {av v : AVal} {u z : Value} {d : TypeDesc} {i : TypeInfo} (hw : Wr base w0 H G w) (ht : P.underlying t = some d) (hd : ∀ ms, d ≠ .interface ms) (hi : P.info? t = some i) (hz : i.zero = some z)
    (hx : Rep G w av u) (h : tasA ok t (lit 3 z) av = some v) : RunsV P base w0 H G w (Instr.typeAssert u x t ok) v := by
  have hzv : (zeroValue t).run P w = .ok z w := by simp [zeroValue, typeInfo, hi, hz]
  have fl : Rep G w (.tup [lit 3 z, .bool false]) (.tuple #[z, .bool false]) := Rep.tup' (Reps.cons (lit_rep G w 3 z) (Reps.cons (.bool false) Reps.nil))
  cases av <;> simp only [tasA, reduceCtorEq] at h
  case iface t' v' =>
    obtain ⟨p, rfl, hp⟩ := hx.iface_inv
    split at h
    · rename_i e
      cases h
      cases ok with
      | true =>
        refine .here hw (u := .tuple #[p, .bool true]) ?_ (Rep.tup' (Reps.cons hp (Reps.cons (.bool true) Reps.nil)))
        simp only [Instr.typeAssert, Sem.run_bind, run_underlying ht, Result.andThen_ok]
        cases d <;> first | (exact absurd rfl (hd _)) | simp [e]
      | false =>
        refine .here hw (u := p) ?_ hp
        simp only [Instr.typeAssert, Sem.run_bind, run_underlying ht, Result.andThen_ok]
        cases d <;> first | (exact absurd rfl (hd _)) | simp [e]
    · rename_i e
      split at h
      · rename_i hok
        cases h; subst hok
        refine .here hw (u := .tuple #[z, .bool false]) ?_ fl
        simp only [Instr.typeAssert, Sem.run_bind, run_underlying ht, Result.andThen_ok]
        cases d <;> first | (exact absurd rfl (hd _)) | simp [e, hzv]
      · cases h
  case nilif =>
    rw [hx.nilif_inv]
    split at h
    · rename_i hok
      cases h; subst hok
      refine .here hw (u := .tuple #[z, .bool false]) ?_ fl
      simp only [Instr.typeAssert, Sem.run_bind, run_underlying ht, Result.andThen_ok]
      cases d <;> first | (exact absurd rfl (hd _)) | simp [hzv]
    · cases h

/-! #### maps that are read -/
theorem eqCell_now {kk : KK} {d : TypeDesc} (hk : kkOf (some d) = some kk) {x y : AVal} {u v : Value} {b : Bool} (hx : Rep G w x u) (hy : Rep G w y v) (h : eqCell kk x y = some b) : Instr.sameNow d u v = some b := by
  unfold eqCell at h
  split at h
  · split at h
    · rename_i hkk
      cases h; subst hkk
      rw [hx.int_inv, hy.int_inv]
      cases d <;> simp [kkOf] at hk
      simp [Instr.sameNow]
    · cases h
  · cases h
    rw [hx.str_inv, hy.str_inv]
    cases d <;> simp [kkOf] at hk
    simp only [Instr.sameNow, Option.some.injEq]
    rename_i s s'
    rw [Bool.eq_iff_iff]
    change (s.toArray == s'.toArray) = true ↔ (s == s') = true
    simp
  · cases h
    rw [hx.bool_inv, hy.bool_inv]
    cases d <;> simp [kkOf] at hk
    simp [Instr.sameNow]
  · cases h

theorem findNow_ok {kk : KK} {d : TypeDesc} (hk : kkOf (some d) = some kk) {x : AVal} {u : Value} (hx : Rep G w x u) : ∀ (es : List (AVal × AVal)) (arr : List MapEntry) (j : Nat) (r : Option AVal), es.length = arr.length →
    (∀ (i : Nat) p e, es[i]? = some p → arr[i]? = some e → Rep G w p.1 e.key ∧ Rep G w p.2 e.val) → findA kk x es = some r →
    (r = none ∧ Instr.findNow d u arr j = some none) ∨ ∃ (i : Nat) (v : AVal) (val : Value) (p : AVal × AVal) (e : MapEntry), r = some v ∧ Instr.findNow d u arr j = some (some (i + j, val)) ∧ es[i]? = some p ∧ arr[i]? = some e ∧ p.2 = v ∧ e.val = val ∧ Rep G w v val := by
  intro es
  induction es with
  | nil =>
    intro arr j r hl _ h
    simp only [findA, Option.some.injEq] at h
    have : arr = [] := List.eq_nil_of_length_eq_zero hl.symm
    subst this
    exact .inl ⟨h.symm, rfl⟩
  | cons p es ih =>
    intro arr j r hl hr h
    cases arr with
    | nil => simp at hl
    | cons e arr =>
      obtain ⟨h1, h2⟩ := hr 0 p e rfl rfl
      simp only [findA] at h
      cases hq : eqCell kk x p.1 with
      | none => simp [hq] at h
      | some b =>
        have hs := eqCell_now hk hx h1 hq
        simp only [hq] at h
        cases b with
        | true =>
          cases h
          refine .inr ⟨0, p.2, e.val, p, e, rfl, ?_, rfl, rfl, rfl, rfl, h2⟩
          simp [Instr.findNow, hs]
        | false =>
          rcases ih arr (j + 1) r (by simpa using hl) (fun i q f hq hf => hr (i + 1) q f (by simpa using hq) (by simpa using hf)) h with ⟨h3, h4⟩ | ⟨i, v, val, q, f, h3, h4, h5, h6, h7, h8, h9⟩
          · exact .inl ⟨h3, by simp only [Instr.findNow, hs]; exact h4⟩
          · refine .inr ⟨i + 1, v, val, q, f, h3, ?_, by simpa using h5, by simpa using h6, h7, h8, h9⟩
            simp only [Instr.findNow, hs]
            rw [h4]
            congr 3
            omega

theorem run_checkKey {kk : KK} {t : TypeId} {d : TypeDesc} (ht : P.underlying t = some d) (hk : kkOf (some d) = some kk) (b : Bool) (n : Nat) (v : Value) (w : World) : (Instr.checkKey b (n + 1) t v).run P w = .ok () w := by
  simp only [Instr.checkKey, Sem.run_bind, run_underlying ht, Result.andThen_ok]
  cases d <;> simp [kkOf] at hk <;> simp

theorem runs_look {t kt e : TypeId} {d : TypeDesc} {kk : KK} {ok : Bool} {z : Value} {i : TypeInfo} {m k v : AVal} {um uk : Value} (hw : Wr base w0 H G w) (ht : P.underlying t = some (.map kt e)) (hd : P.underlying kt = some d) (hk : kkOf (some d) = some kk)
    (hi : P.info? e = some i) (hz : i.zero = some z) (hm : Rep G w m um) (hkr : Rep G w k uk)
    (h : lookA H ok kk (lit 3 z) m k = some v) : RunsV P base w0 H G w (Instr.lookup t um uk ok) v := by
  have hzv : (zeroValue e).run P w = .ok z w := by simp [zeroValue, typeInfo, hi, hz]
  have hck : ∀ b, (Instr.checkKey b 10000 kt uk).run P w = .ok () w := fun b => run_checkKey hd hk b 9999 uk w
  cases m <;> simp only [lookA, reduceCtorEq] at h
  case nilmap =>
    cases h
    rw [hm.nilmap_inv]
    refine .here hw (u := if ok = true then .tuple #[z, .bool false] else z) ?_ ?_
    · simp only [Instr.lookup, Sem.run_bind, run_underlying ht, Result.andThen_ok, Sem.run_pure, hck, Instr.findKey, run_underlying hd, Instr.findNow, hzv]
    · cases ok
      · exact lit_rep G w 3 z
      · exact Rep.tup' (Reps.cons (lit_rep G w 3 z) (Reps.cons (.bool false) Reps.nil))
  case map id =>
    cases hH : H id with
    | none => simp [hH] at h
    | some ob =>
      cases ob with
      | cells cs o => simp [hH] at h
      | tok n sz o => simp [hH] at h
      | gone => simp [hH] at h
      | map es =>
        simp only [hH] at h
        obtain ⟨b, hb, hst⟩ := hm.map_inv
        obtain ⟨b', arr, clock, g1, g2, g3, g4, g5⟩ := hw.ob id _ hH
        rw [hst] at g1; cases g1
        subst hb
        cases hf : findA kk k es with
        | none => simp [hf] at h
        | some r =>
          simp only [hf, Option.map_some, Option.some.injEq] at h
          have hgo : (getObj b).run P w = .ok (.map arr clock) w := by simp [getObj, Sem.run, g4]
          rcases findNow_ok hk hkr es arr.toList 0 r (by simpa using g5.1) (fun i p e hp he => by
              obtain ⟨q1, q2, _⟩ := g5.2.1 i p e hp (by simpa using he)
              exact ⟨q1, q2⟩) hf with ⟨rfl, hfn⟩ | ⟨i, v', val, p, en, rfl, hfn, _, _, _, _, hrv⟩
          · subst h
            refine .here hw (u := if ok = true then .tuple #[z, .bool false] else z) ?_ ?_
            · simp only [Instr.lookup, Sem.run_bind, run_underlying ht, Result.andThen_ok, hgo, Sem.run_pure, hck, Instr.findKey, run_underlying hd, hfn, hzv]
            · cases ok
              · exact lit_rep G w 3 z
              · exact Rep.tup' (Reps.cons (lit_rep G w 3 z) (Reps.cons (.bool false) Reps.nil))
          · subst h
            refine .here hw (u := if ok = true then .tuple #[val, .bool true] else val) ?_ ?_
            · simp only [Instr.lookup, Sem.run_bind, run_underlying ht, Result.andThen_ok, hgo, Sem.run_pure, hck, Instr.findKey, run_underlying hd, hfn]
            · cases ok
              · exact hrv
              · exact Rep.tup' (Reps.cons hrv (Reps.cons (.bool true) Reps.nil))

end
end Go.Eng

/- The theorem about all operations that write nothing that is known. -/
set_option linter.unusedVariables false
set_option linter.unusedSimpArgs false
namespace Go.Eng
open Go.RowKit (Below)

section
variable {P : Program} {base : Nat} {w0 : World} {H : Hp} {G : Gh} {w : World} {tm : List AVal} {a : Act}

theorem freeze_alloc (w : World) (c : Array Value) (e : TypeId) (n : Nat) : (w.alloc (.cells c e)).freeze { block := w.heap.size, off := n } 1 = w.alloc (.cells c e (n, n + 1)) := by
  have : ∀ f : Obj → Obj, f (.cells c e) = .cells c e (n, n + 1) → (w.heap.push (.cells c e)).modify w.heap.size f = w.heap.push (.cells c e (n, n + 1)) := by
    intro f hf
    apply Array.ext
    · simp
    · intro i h1 h2
      simp only [Array.getElem_modify, Array.getElem_push]
      by_cases hi : i < w.heap.size
      · rw [if_neg (by omega)]; simp [hi]
      · have : w.heap.size = i := by simp at h1; omega
        subst this
        simp [hf]
  show ({ (w.alloc (.cells c e)) with heap := (w.heap.push (.cells c e)).modify w.heap.size _ } : World) = _
  rw [this _ (by simp)]
  rfl

theorem runs_s2b {e : TypeId} {s : List UInt8} (hw : Wr base w0 H G w) : RunsV P base w0 H G w (Conv.stringToBytes e ⟨s.toArray⟩) (.sl (s.map fun b => [.int .u8 b.toNat]) .frz) := by
  obtain ⟨hd1, hd2⟩ := hw.drew
  obtain ⟨cap, hcap⟩ : ∃ cap, cap = (Question.appendCap (ByteArray.mk s.toArray).size 0 e).cut (w.tape w.drawn (.appendCap (ByteArray.mk s.toArray).size 0 e)) := ⟨_, rfl⟩
  have hsz : (ByteArray.mk s.toArray).size = s.length := by simp [ByteArray.size]
  have hc : s.length ≤ cap := by rw [hcap, hsz]; simp [Question.cut]
  obtain ⟨vs, hvs⟩ : ∃ vs : List Value, vs = s.map fun b => .int .u8 b.toNat := ⟨_, rfl⟩
  obtain ⟨cs, hcs⟩ : ∃ cs : Array Value, cs = ((ByteArray.mk s.toArray).data.map fun b => Value.int .u8 b.toNat) ++ Array.replicate (cap - (ByteArray.mk s.toArray).size) (.int .u8 0) := ⟨_, rfl⟩
  have hrows : Reps G w.drew (s.map fun b => [AVal.int .u8 b.toNat]).flatten vs := by
    have e : (s.map fun b => [AVal.int .u8 b.toNat]).flatten = s.map fun b => AVal.int .u8 b.toNat := by
      clear hcap hsz hc hvs hcs
      induction s with
      | nil => rfl
      | cons b s ih => simp [ih]
    rw [e, hvs]
    refine ⟨by simp, fun i x v hx hv => ?_⟩
    rw [List.getElem?_map] at hx hv
    cases hb : s[i]? with
    | none => simp [hb] at hx
    | some b => simp only [hb, Option.map_some, Option.some.injEq] at hx hv; subst hx; subst hv; exact .int _ _
  have hl : (s.map fun b => [AVal.int .u8 b.toNat]).length = s.length := by simp
  obtain ⟨k1, k2, k3⟩ := runs_newRow (e := e) (fr := (cs.size, cs.size + 1)) (cap := cap) (tk := .frz) (cs := cs) (sz := 1) hd1 (fun r hr => by
    obtain ⟨b, _, rfl⟩ := List.mem_map.1 hr; rfl) hrows (fun i v hv => by
      rw [hcs, Array.getElem?_append_left (by rw [hvs] at hv; have := (List.getElem?_eq_some_iff.1 hv).1; simpa using this)]
      rw [hvs] at hv
      simpa using hv) (by omega) (.inr (.inr ⟨rfl, rfl⟩))
  refine ⟨.slice (some ⟨w.heap.size, 0, none⟩) s.length cap, _, ?_, by rw [hl] at k1; exact k1, k2, hd2.trans k3, Fr.drew.trans (Nat.le_refl _) (Fr.alloc _)⟩
  simp only [Conv.stringToBytes, Sem.run_bind, run_choose, Question.forced, Bool.false_eq_true, if_false, Result.andThen_ok, newRow, run_newObj, Sem.run_pure, markStringish, run_shape]
  rw [← hcap, ← hcs]
  try simp only [World.drew_eq, World.alloc_eq]
  have hsh : (w.drew.alloc (.cells cs e)).shape? w.drew.heap.size = some (e, cs.size) := by simp only [World.shape?, heap_push_eq]
  have hW : ({ heap := w.heap.push (Obj.cells cs e), tape := w.tape, drawn := w.drawn + 1, os := w.os, output := w.output } : World) = w.drew.alloc (.cells cs e) := rfl
  have hS : w.heap.size = w.drew.heap.size := rfl
  rw [hW, hS, hsh]
  simp only [run_freeze, Result.andThen_ok, Sem.run_pure, hsz]
  rw [freeze_alloc w.drew cs e cs.size]

theorem map_arr {α β : Type} (f : α → β) (xs : Array α) : (xs.toList.map f).toArray = xs.map f := by
  apply Array.ext'; simp

theorem kk_agg {t : TypeId} {k : KK} (h : kkOf (P.underlying t) = some k) : aggOf P t = some none := by
  unfold kkOf at h
  unfold aggOf
  split at h <;> first | (rename_i h1; rw [h1]) | cases h

theorem run_part_kk {t : TypeId} {k : KK} (h : kkOf (P.underlying t) = some k) {cs : Array Value} {off : Nat} {v : Value} (hv : cs[off]? = some v) : (part t cs off).run P w = .ok v w := by
  have := aggOf_none (kk_agg h) w
  simp only [part, Sem.run_bind, this, Result.andThen_ok, Bool.false_eq_true, if_false, hv, Sem.run_pure]

theorem eqCell_runs {t : TypeId} {k : KK} (h : kkOf (P.underlying t) = some k) {x y : AVal} {u v : Value} {b : Bool} (hx : Rep G w x u) (hy : Rep G w y v) (he : eqCell k x y = some b) (d : Nat) : (Op.equalIn (d + 1) t u v).run P w = .ok b w := by
  unfold kkOf at h
  split at h
  · rename_i hu
    cases h
    cases x <;> first | (cases he; done) | skip
    cases y <;> first | (cases he; done) | skip
    cases he
    rw [hx.str_inv, hy.str_inv, run_equalIn_string w d t _ _ hu]
    simp [ByteArray.toList_eq]
  · rename_i k' hu
    cases h
    cases x <;> first | (cases he; done) | skip
    cases y <;> first | (cases he; done) | skip
    simp only [eqCell] at he
    split at he
    · rename_i ek
      subst ek
      cases he
      rw [hx.int_inv, hy.int_inv, run_equalIn_int w d t _ _ _ _ hu]
    · cases he
  · rename_i hu
    cases h
    cases x <;> first | (cases he; done) | skip
    cases y <;> first | (cases he; done) | skip
    cases he
    rw [hx.bool_inv, hy.bool_inv, run_equalIn_bool' w d t _ _ hu]
  · cases h

theorem eqFields_runs {xs ys : List AVal} {us vs : List Value} (hx : Reps G w xs us) (hy : Reps G w ys vs) (d : Nat) : ∀ (fs : List Field) {ks : List (Nat × KK)} {b : Bool}, eqFields P fs = some ks → eqCells ks xs ys = some b →
    (Op.eqFields (d + 1) us.toArray vs.toArray fs).run P w = .ok b w
  | [], ks, b, hk, he => by
    simp only [eqFields, Option.some.injEq] at hk; subst hk
    simp only [eqCells, Option.some.injEq] at he; subst he
    rfl
  | f :: fs, ks, b, hk, he => by
    simp only [eqFields] at hk
    split at hk
    · cases hk
    · rename_i hn
      split at hk
      · rename_i k r h1 h2
        cases hk
        simp only [eqCells] at he
        split at he
        · rename_i x y hx' hy'
          obtain ⟨u, hu, ru⟩ := hx.get hx'
          obtain ⟨v, hv, rv⟩ := hy.get hy'
          have p1 := run_part_kk (w := w) h1 (cs := us.toArray) (by simpa using hu)
          have p2 := run_part_kk (w := w) h1 (cs := vs.toArray) (by simpa using hv)
          simp only [Op.eqFields, ne_eq, hn, not_false_eq_true, if_true, Sem.run_bind, p1, p2, Result.andThen_ok]
          split at he
          · rename_i hc
            rw [eqCell_runs h1 ru rv hc d]
            simp only [Result.andThen_ok, Bool.not_true, Bool.false_eq_true, if_false]
            exact eqFields_runs hx hy d fs h2 he
          · rename_i hc
            cases he
            rw [eqCell_runs h1 ru rv hc d]
            simp only [Result.andThen_ok, Bool.not_false, if_true, Sem.run_pure]
          · cases he
        · cases he
      · cases hk

theorem eqFields_guard (d : Nat) : ∀ (fs : List Field) {ks : List (Nat × KK)}, eqFields P fs = some ks → (fs.any fun f => f.name != "_" && P.eqGuardType (d + 1) f.type) = false
  | [], ks, hk => rfl
  | f :: fs, ks, hk => by
    simp only [eqFields] at hk
    split at hk
    · cases hk
    · split at hk
      · rename_i k r h1 h2
        rw [List.any_cons, eqFields_guard d fs h2, Bool.or_false, Bool.and_eq_false_iff]
        right
        unfold kkOf at h1
        unfold Program.eqGuardType
        split at h1 <;> first | (rename_i h3; rw [h3]) | cases h1
      · cases hk

theorem runs_sleq {op : BinOp} {t : TypeId} {x y : Operand} {xs ys : List AVal} {ks : List (Nat × KK)} {fs : Array Field} {b : Bool} {p q : Value} (hw : Wr base w0 H G w) (ht : P.underlying t = some (.struct fs)) (hs : P.stoodInHeld t = false) (hk : eqFields P fs.toList = some ks)
    (hp : Rep G w (.agg xs) p) (hq : Rep G w (.agg ys) q) (he : eqCells ks xs ys = some b) (hop : op = .eql ∨ op = .neq) : RunsV P base w0 H G w (do eqGuard op t x y p q; binOp op t p q) (.bool (xor (isNeq op) b)) := by
  obtain ⟨us, rfl, hx⟩ := hp.agg_inv
  obtain ⟨vs, rfl, hy⟩ := hq.agg_inv
  refine .bool hw ?_
  have hf : P.fieldsOf t = fs := by unfold Program.fieldsOf; rw [ht]
  have hg : P.eqGuardType P.depth t = false := by
    unfold Program.depth
    rw [Program.eqGuardType, ht]
    simp only
    have := eqFields_guard (P := P) (2 * (P.types.size + Made.depth)) fs.toList hk
    simpa using this
  have h1 := run_equalIn_struct (P := P) w 9999 t us.toArray vs.toArray (by rw [hf]; exact ht) hs
  rw [hf, eqFields_runs hx hy 9998 fs.toList hk he] at h1
  simp only [Sem.run_bind, run_eqGuard_agg w op t x y _ _ hg, Result.andThen_ok]
  rcases hop with rfl | rfl
  · rw [run_eql_struct, h1]; simp [isNeq, Result.andThen]
  · rw [run_neq_struct, h1]; simp [isNeq, Result.andThen]

theorem rop_ok {o : Oper} {ao : AOp} {v : AVal} (hc : compOp P o = some ao) (hr : rop ao tm H = some v) (hw : Wr base w0 H G w) (ht : Reps G w tm a.tmps.toList) : RunsN P base w0 H G w (execOp a.eval o) v := by
  obtain ⟨dst, op, type, pos, after, guard⟩ := o
  have E := fun x => ev_rep ht x
  cases op with
  | move x => simp only [compOp, Option.some.injEq] at hc; subst hc; simp only [rop, Option.some.injEq] at hr; subst hr; exact .here hw rfl (E x)
  | assign x => simp only [compOp, Option.some.injEq] at hc; subst hc; simp only [rop, Option.some.injEq] at hr; subst hr; exact .here hw rfl (E x)
  | pick c x y =>
    simp only [compOp, Option.some.injEq] at hc; subst hc
    simp only [rop] at hr
    split at hr
    · rename_i b hb
      cases hr
      have h1 := E c
      rw [hb] at h1
      refine .here hw (u := if b = true then a.eval x else a.eval y) ?_ ?_
      · simp [execOp, h1.bool_inv, asBool]
      · cases b
        · exact E y
        · exact E x
    · cases hr
  | build t ps =>
    simp only [compOp, compBuild] at hc
    split at hc
    · rename_i fs hu
      split at hc
      · rename_i z hz
        split at hc
        · rename_i hall
          cases hm : (ps.toList.mapM (partOf P fs)) with
          | none => rw [hm] at hc; cases hc
          | some aps =>
            rw [hm] at hc
            simp only [Option.map_some, Option.some.injEq] at hc
            subst hc
            simp only [rop] at hr
            cases hf : fillA (z.cells.toList.map (lit 2)) (aps.map fun p => (p.1, p.2.1, ev tm p.2.2)) with
            | none => rw [hf] at hr; cases hr
            | some out =>
              rw [hf] at hr
              simp only [Option.map_some, Option.some.injEq] at hr
              subst hr
              have hz' : (zeroValue t).run P w = .ok z w := by
                cases hi : P.info? t with
                | none => simp [hi] at hz
                | some i => simp [hi] at hz; simp [zeroValue, typeInfo, hi, hz]
              have hpl : (fs.mapM fun f => (do pure (f.offset, ← sizeOf f.type) : Sem (Nat × Nat))).run P w = .ok (fs.map fun f => (f.offset, P.cellsOf f.type)) w := by
                have : ∀ (l : List Field), (∀ f ∈ l, (P.info? f.type).isSome = true) → (l.mapM fun f => (do pure (f.offset, ← sizeOf f.type) : Sem (Nat × Nat))).run P w = .ok (l.map fun f => (f.offset, P.cellsOf f.type)) w := by
                  intro l
                  induction l with
                  | nil => intro _; rfl
                  | cons f l ih =>
                    intro h
                    have h1 := h f (by simp)
                    have h2 := ih (fun f hf => h f (by simp [hf]))
                    cases hi : P.info? f.type with
                    | none => simp [hi] at h1
                    | some i =>
                      simp only [List.mapM_cons, Sem.run_bind, sizeOf, typeInfo, run_program, Result.andThen_ok, hi, Sem.run_pure] at h2 ⊢
                      simp only [h2, Result.andThen_ok, Sem.run_pure, List.map_cons, Program.cellsOf, hi, Option.map_some, Option.getD_some]
                rw [Array.mapM_eq_mapM_toList]
                simp only [Sem.run_map]
                rw [this fs.toList (fun f hf => Array.all_eq_true_iff_forall_mem.1 hall f (by simpa using hf))]
                simp only [Result.andThen_ok]
                congr 1
                apply Array.ext'
                simp
              have hmem : ∀ (i : Nat) p q, (ps.toList.map fun (p : Nat × Operand) => (p.1, a.eval p.2))[i]? = some p → (aps.map fun p => (p.1, p.2.1, ev tm p.2.2))[i]? = some q →
                  (fs.map fun f => (f.offset, P.cellsOf f.type))[p.1]? = some (q.1, q.2.1) ∧ Rep G w q.2.2 p.2 := by
                have gen : ∀ (l : List (Nat × Operand)) (aps : List (Nat × Nat × Opd)), (l.mapM (partOf P fs)) = some aps → ∀ (i : Nat) p q, l[i]? = some p → aps[i]? = some q → ∃ f, fs[p.1]? = some f ∧ q = (f.offset, P.cellsOf f.type, opd p.2) := by
                  intro l
                  induction l with
                  | nil => intro aps _ i p q hp; simp at hp
                  | cons x l ih =>
                    intro aps h i p q hp hq
                    simp only [List.mapM_cons] at h
                    cases hx : fs[x.1]? with
                    | none => simp [partOf, hx] at h
                    | some f =>
                      simp only [partOf, hx, Option.bind_eq_bind, Option.bind_some] at h
                      cases hl : (l.mapM (partOf P fs)) with
                      | none => rw [hl] at h; cases h
                      | some rest =>
                        rw [hl] at h
                        simp only [Option.bind_some, Option.pure_def, Option.some.injEq] at h
                        subst h
                        cases i with
                        | zero => simp at hp hq; subst hp; subst hq; exact ⟨f, hx, rfl⟩
                        | succ i => exact ih rest hl i p q (by simpa using hp) (by simpa using hq)
                intro i p q hp hq
                rw [List.getElem?_map] at hp hq
                cases hpi : ps.toList[i]? with
                | none => simp [hpi] at hp
                | some p' =>
                  cases hqi : aps[i]? with
                  | none => simp [hqi] at hq
                  | some q' =>
                    simp only [hpi, hqi, Option.map_some, Option.some.injEq] at hp hq
                    subst hp; subst hq
                    obtain ⟨f, g1, rfl⟩ := gen _ _ hm i p' q' hpi hqi
                    exact ⟨by simp [g1], E _⟩
              have hlen : aps.length = ps.toList.length := by
                have gen : ∀ (l : List (Nat × Operand)) (aps : List (Nat × Nat × Opd)), (l.mapM (partOf P fs)) = some aps → aps.length = l.length := by
                  intro l
                  induction l with
                  | nil => intro aps h; simp at h; subst h; rfl
                  | cons x l ih =>
                    intro aps h
                    simp only [List.mapM_cons] at h
                    cases hx : fs[x.1]? with
                    | none => simp [partOf, hx] at h
                    | some f =>
                      simp only [partOf, hx, Option.bind_eq_bind, Option.bind_some] at h
                      cases hl : (l.mapM (partOf P fs)) with
                      | none => rw [hl] at h; cases h
                      | some rest =>
                        rw [hl] at h
                        simp only [Option.bind_some, Option.pure_def, Option.some.injEq] at h
                        subst h
                        simp [ih rest hl]
                exact gen _ _ hm
              obtain ⟨r, hfill, hrep⟩ := fill_ok (G := G) (w := w) (place := fun i => (fs.map fun f => (f.offset, P.cellsOf f.type))[i]?) (ps.toList.map fun (p : Nat × Operand) => (p.1, a.eval p.2)) (aps.map fun p => (p.1, p.2.1, ev tm p.2.2)) _ z.cells out (by simp [hlen]) hmem
                (by
                  refine ⟨by simp, fun i x v hx hv => ?_⟩
                  rw [List.getElem?_map, hv] at hx
                  cases hx
                  exact lit_rep G w 2 v) hf
              refine RunsV.next (.here hw (u := .agg r) ?_ (by have := Rep.agg' hrep; simpa using this))
              have hpa : (ps.map fun (x : Nat × Operand) => (x.1, a.eval x.2)).toList = ps.toList.map fun (p : Nat × Operand) => (p.1, a.eval p.2) := by simp
              simp only [Instr.build, Sem.run_bind, hz', Result.andThen_ok, run_underlying hu, hpl]
              rw [hpa, hfill]
              rfl
        · cases hc
      · cases hc
    · cases hc
  | load t x =>
    simp only [compOp] at hc
    cases hk : aggOf P t with
    | none => simp [hk] at hc
    | some k =>
      simp only [hk, Option.map_some, Option.some.injEq] at hc; subst hc
      exact (runs_load hw hk (E x) hr).next
  | nilCheck x =>
    simp only [compOp, Option.some.injEq] at hc; subst hc
    exact runs_nilck hw (E x) hr
  | binOp op t x y yt =>
    simp only [compOp, compBin] at hc
    have eqcase : (op = .eql ∨ op = .neq) → RunsN P base w0 H G w (execOp a.eval ⟨dst, .binOp op t x y yt, type, pos, after, guard⟩) v := by
      intro hop
      have hng : (match op with | .neq => true | _ => false) = isNeq op := by rcases hop with rfl | rfl <;> rfl
      have hc' : (match P.underlying t with
        | some (.int _) | some .string => some (.bin op (opd x) (opd y))
        | some .bool => some (.beq (isNeq op) (opd x) (opd y))
        | some (.struct fs) => if P.stoodInHeld t = true then none else (eqFields P fs.toList).map fun ks => .sleq (isNeq op) ks (opd x) (opd y)
        | some d => match nkOf d with
          | some nk => if nilLit y = some nk then some (.isnil (isNeq op) nk (opd x)) else none
          | none => none
        | none => none) = some ao := by
        rcases hop with rfl | rfl <;> exact hc
      split at hc'
      · cases hc'; exact (runs_bin hw (E x) (E y) hr).next
      · cases hc'; exact (runs_bin hw (E x) (E y) hr).next
      · rename_i hu
        cases hc'
        simp only [rop] at hr
        split at hr
        · rename_i p q h1 h2
          cases hr
          have e1 := E x; have e2 := E y
          rw [h1] at e1; rw [h2] at e2
          exact (runs_beq hw hu e1 e2 hop).next
        · cases hr
      · rename_i fs hu
        split at hc'
        · cases hc'
        · rename_i hs
          simp only [Option.map_eq_some_iff] at hc'
          obtain ⟨ks, hk, rfl⟩ := hc'
          simp only [rop] at hr
          split at hr
          · rename_i p q h1 h2
            simp only [Option.map_eq_some_iff] at hr
            obtain ⟨r, hr1, rfl⟩ := hr
            have e1 := E x; have e2 := E y
            rw [h1] at e1; rw [h2] at e2
            exact (runs_sleq hw hu (by simpa using hs) hk e1 e2 hr1 hop).next
          · cases hr
      · rename_i d _ _ _ _ hu
        split at hc'
        · rename_i nk hnk
          split at hc'
          · rename_i hy
            cases hc'
            simp only [rop] at hr
            cases hb : isNilA nk (ev tm (opd x)) with
            | none => simp [hb] at hr
            | some b =>
              simp only [hb, Option.map_some, Option.some.injEq] at hr
              subst hr
              exact (runs_isnil (act := a) hw hu hnk hy (E x) hb hop).next
          · cases hc'
        · cases hc'
      · cases hc'
    cases op <;> first
      | exact eqcase (.inl rfl)
      | exact eqcase (.inr rfl)
      | (cases hc; done)
      | (simp only [Option.some.injEq] at hc; subst hc; simp only [rop] at hr; exact (runs_bin hw (E x) (E y) hr).next)
  | unOp op t x =>
    cases op <;> simp only [compOp, reduceCtorEq, Option.some.injEq] at hc
    · subst hc
      simp only [rop] at hr
      split at hr
      · rename_i k n h1
        cases hr
        have e1 := E x
        rw [h1] at e1
        exact (RunsV.int hw (by rw [e1.int_inv]; rfl)).next
      · cases hr
    · subst hc
      simp only [rop] at hr
      split at hr
      · rename_i b h1
        cases hr
        have e1 := E x
        rw [h1] at e1
        exact (RunsV.bool hw (by rw [e1.bool_inv]; rfl)).next
      · cases hr
  | convert src dst' x =>
    simp only [compOp] at hc
    split at hc
    · rename_i k1 k hu hu'
      cases hc
      simp only [rop] at hr
      split at hr
      · rename_i k2 n h1
        cases hr
        have e1 := E x
        rw [h1] at e1
        exact (RunsV.int hw (by rw [e1.int_inv]; simp [convert, run_underlying hu, run_underlying hu', Conv.intToInt])).next
      · cases hr
    · rename_i hu hu'
      cases hc
      simp only [rop] at hr
      split at hr
      · rename_i s h1
        cases hr
        have e1 := E x
        rw [h1] at e1
        exact (RunsV.str hw (by rw [e1.str_inv]; simp [convert, run_underlying hu, run_underlying hu'])).next
      · cases hr
    · rename_i e hu hu'
      split at hc
      · rename_i he
        cases hc
        simp only [rop] at hr
        split at hr
        · rename_i rows tk h1
          cases hb : bytesOf rows with
          | none => simp [hb] at hr
          | some s =>
            simp only [hb, Option.map_some, Option.some.injEq] at hr
            subst hr
            have e1 := E x
            rw [h1] at e1
            refine (RunsV.str hw ?_).next
            rcases e1.sl_inv with ⟨rfl, hv, _⟩ | ⟨b, off, cap, sz, vs, hv, hsz, hrs, himm, _, _, _⟩ | ⟨rfl, a', cap, hv, _⟩
            rotate_right
            · simp only [bytesOf, Option.some.injEq] at hb
              subst hb
              rw [hv]
              simp only [convert, Sem.run_bind, run_underlying hu, run_underlying hu', run_underlying he, Result.andThen_ok, Conv.bytesToString, Sem.run_pure]
              rfl
            · simp only [bytesOf, Option.some.injEq] at hb
              subst hb
              rw [hv]
              simp only [convert, Sem.run_bind, run_underlying hu, run_underlying hu', run_underlying he, Result.andThen_ok, Conv.bytesToString, Sem.run_pure]
              rfl
            · rw [hv]
              have hlen : rows.length = vs.length := by
                have h2 : ∀ (rows : List (List AVal)) s, bytesOf rows = some s → rows.flatten.length = rows.length := by
                  intro rows
                  induction rows with
                  | nil => intro _ _; rfl
                  | cons r rows ih =>
                    intro s hs
                    unfold bytesOf at hs
                    split at hs
                    · rename_i e; cases e
                    · rename_i e; cases e
                      split at hs
                      · cases hb' : bytesOf rows with
                        | none => simp [hb'] at hs
                        | some s' => simp only [List.flatten_cons, List.length_append, List.length_cons, ih s' hb', List.length_nil]; omega
                      · cases hs
                    · cases hs
                rw [← h2 rows s hb]; exact hrs.1
              have hl := run_loadCells (P := P) (fun i v hv => (himm i v hv).1) rows.length (by omega)
              rw [hlen, List.take_length] at hl
              have := bytes_run (P := P) (w := w) rows vs s ByteArray.empty hrs hb
              simp only [convert, Sem.run_bind, run_underlying hu, run_underlying hu', run_underlying he, Result.andThen_ok, Conv.bytesToString, hlen, hl]
              erw [this]
              simp
        · cases hr
      · cases hc
    · rename_i e hu hu'
      split at hc
      · rename_i he
        cases hc
        simp only [rop] at hr
        split at hr
        · rename_i s h1
          cases hr
          have e1 := E x
          rw [h1] at e1
          have := runs_s2b (P := P) (e := e) (s := s) hw
          obtain ⟨u, w', q1, q2, q3, q4⟩ := this
          refine RunsV.next ⟨u, w', ?_, q2, q3, q4⟩
          rw [e1.str_inv]
          simp only [convert, Sem.run_bind, run_underlying hu, run_underlying hu', run_underlying he, Result.andThen_ok, q1]
        · cases hr
      · cases hc
    · rename_i e0 e hu hu'
      split at hc
      · rename_i hsd
        subst hsd
        split at hc
        · rename_i he
          cases hc
          simp only [rop] at hr
          split at hr
          · rename_i rows h1
            cases hr
            have e1 := E x
            rw [h1] at e1
            rw [hu] at hu'; cases hu'
            refine RunsV.next ?_
            rcases e1.sl_inv with ⟨_, _, ht'⟩ | ⟨b, off, cap, sz, vs, hv, _, _, _, hb, _, htk⟩ | ⟨_, a0, cap0, _, hno⟩
            rotate_right
            · rcases hno with hno | ⟨hno, _⟩ <;> cases hno
            · rcases ht' with ht' | ht' | ht' <;> cases ht'
            · obtain ⟨_, c, ty, hheap⟩ := htk
              refine .here hw (u := a.eval x) ?_ e1
              rw [hv]
              have hsh : w.shape? b = some (ty, c.size) := by simp only [World.shape?, hheap]
              have hfz : w.freeze { block := b, off := c.size } 1 = w := by
                have hmod : ∀ f : Obj → Obj, f (.cells c ty (c.size, c.size + 1)) = .cells c ty (c.size, c.size + 1) → w.heap.modify b f = w.heap := by
                  intro f hf
                  apply Array.ext
                  · simp
                  · intro i h1 h2
                    simp only [Array.getElem_modify]
                    split
                    · rename_i hbi
                      subst hbi
                      have := (Array.getElem?_eq_some_iff.1 hheap).2
                      rw [this, hf]
                    · rfl
                show ({ w with heap := w.heap.modify b _ } : World) = w
                rw [hmod _ (by simp)]
              simp only [convert, Sem.run_bind, run_underlying hu, run_underlying he, Result.andThen_ok, beq_self_eq_true, markStringish, run_shape, hsh, run_freeze, Sem.run_pure, hfz]
          · cases hr
        · cases hc
      · cases hc
    · cases hc
  | makeInterface t x =>
    simp only [compOp] at hc
    split at hc
    · rename_i hcon
      cases hc
      simp only [rop, Option.some.injEq] at hr
      subst hr
      exact RunsV.next (.here hw (run_makeInterface w t _ hcon) (.iface (E x)))
    · cases hc
  | makeFunc fn f c =>
    simp only [compOp, Option.some.injEq] at hc; subst hc
    simp only [rop, Option.some.injEq] at hr; subst hr
    have h1 := evs_rep ht f.toList
    have h2 := evs_rep ht c.toList
    refine RunsV.next (.here hw (u := .func fn (f.map a.eval) (c.map a.eval)) rfl ?_)
    have := Rep.func (fn := fn) h1.1 h1.2 h2.1 h2.2
    rw [map_arr, map_arr] at this
    simpa only [List.map_map, Function.comp_def] using this
  | slice t x lo hi mx =>
    simp only [compOp] at hc
    split at hc
    · rename_i hu
      split at hc
      · cases hc
      · rename_i hmx
        cases hc
        simp only [rop] at hr
        split at hr
        · rename_i s h1
          have e1 := E x
          rw [h1] at e1
          have hmx' : mx = none := by cases mx <;> simp at hmx ⊢
          subst hmx'
          exact (runs_slS hw hu e1 (ORep.opd ht lo) (ORep.opd ht hi) hr).next
        · cases hr
    · rename_i e hu
      cases hs : sizeOf? P e with
      | none => simp [hs] at hc
      | some sz =>
        simp only [hs, Option.map_some, Option.some.injEq] at hc; subst hc
        simp only [rop] at hr
        split at hr
        · rename_i rows tk h1
          have e1 := E x
          rw [h1] at e1
          exact (runs_slL hw hu hs e1 (ORep.opd ht lo) (ORep.opd ht hi) (ORep.opd ht mx) hr).next
        · rename_i id n sz' h1
          have e1 := E x
          rw [h1] at e1
          exact (runs_slM hw hu hs e1 (ORep.opd ht lo) (ORep.opd ht hi) (ORep.opd ht mx) hr).next
        · cases hr
    · cases hc
  | fieldAddr s x f =>
    simp only [compOp] at hc
    split at hc
    · rename_i fs hu
      split at hc
      · rename_i fl hf
        split at hc
        · cases hc
        · rename_i n hne hn
          cases hc
          obtain ⟨m, rfl⟩ : ∃ m, n = m + 1 := ⟨n - 1, by
            have : n ≠ 0 := fun e => by subst e; exact absurd rfl hne
            omega⟩
          exact (runs_faddr hw hu hf hn rfl (E x) hr).next
        · cases hc
      · cases hc
    · cases hc
  | field t x f =>
    simp only [compOp] at hc
    split at hc
    · rename_i fs hu
      split at hc
      · rename_i fl hf
        cases hk : aggOf P fl.type with
        | none => simp [hk] at hc
        | some k =>
          simp only [hk, Option.map_some, Option.some.injEq] at hc; subst hc
          simp only [rop] at hr
          split at hr
          · rename_i cs h1
            have e1 := E x
            rw [h1] at e1
            obtain ⟨vs, hv, hvs⟩ := e1.agg_inv
            obtain ⟨u, w', q1, q2, q3, q4⟩ := runs_part hw hk hvs hr
            refine RunsV.next ⟨u, w', ?_, q2, q3, q4⟩
            rw [hv]
            simp only [Instr.field, Sem.run_bind, run_underlying hu, Result.andThen_ok, hf, asAgg, Sem.run_pure, q1]
          · cases hr
      · cases hc
    · cases hc
  | indexAddr t x i =>
    simp only [compOp] at hc
    split at hc
    · rename_i e hu
      cases hs : sizeOf? P e with
      | none => simp [hs] at hc
      | some sz =>
        simp only [hs, Option.map_some, Option.some.injEq] at hc; subst hc
        simp only [rop] at hr
        split at hr
        · rename_i rows tk k n h1 h2
          have e1 := E x; have e2 := E i
          rw [h1] at e1; rw [h2] at e2
          exact (runs_iaddr hw hu hs e1 e2 hr).next
        · rename_i id n sz' k j h1 h2
          have e1 := E x; have e2 := E i
          rw [h1] at e1; rw [h2] at e2
          exact (runs_iaddrM hw hu hs e1 e2 hr).next
        · cases hr
    · cases hc
  | index t x i =>
    simp only [compOp] at hc
    split at hc
    · rename_i hu
      cases hc
      simp only [rop] at hr
      split at hr
      · rename_i s k n h1 h2
        have e1 := E x; have e2 := E i
        rw [h1] at e1; rw [h2] at e2
        exact (runs_ixS hw hu e1 e2 hr).next
      · cases hr
    · cases hc
  | extract x i =>
    simp only [compOp, Option.some.injEq] at hc; subst hc
    simp only [rop] at hr
    split at hr
    · rename_i vs h1
      have e1 := E x
      rw [h1] at e1
      obtain ⟨us, hu, hus⟩ := e1.tup_inv
      obtain ⟨u, hui, hrep⟩ := hus.get hr
      refine RunsV.next (.here hw (u := u) ?_ hrep)
      rw [hu]
      simp [Instr.extract, hui]
    · cases hr
  | buildSlice t len ps =>
    simp only [compOp] at hc
    split at hc
    · rename_i e hu
      split at hc
      · rename_i sz hs
        split at hc
        · rename_i hcond
          obtain ⟨c1, c2, c3, c4⟩ := hcond
          cases hc
          simp only [rop] at hr
          cases hrow : rowsA sz ((ps.toList.map fun p => opd p.2).map (ev tm)) with
          | none => rw [hrow] at hr; cases hr
          | some rows =>
            rw [hrow] at hr
            simp only [Option.map_some, Option.some.injEq] at hr
            subst hr
            cases hi : P.info? e with
            | none => simp [sizeOf?, hi] at hs
            | some i =>
              cases hz : i.zero with
              | none => simp [litCells, hi, hz] at c3
              | some z =>
                have := runs_bsl (P := P) (t := t) (e := e) (sz := sz) (len := len) (ps := ps.toList) (rows := rows) hw hu hi (by simpa [sizeOf?, hi] using hs) hz c1 c2 (by simpa [List.map_map, Function.comp_def] using hrow) ht
                exact (by simpa using this : RunsV P base w0 H G w (Instr.buildSlice t len (ps.map fun (i, x) => (i, a.eval x))) (.sl rows .full)).next
        · cases hc
      · cases hc
    · cases hc
  | typeAssert x xt t ok =>
    simp only [compOp] at hc
    split at hc
    · cases hc
    · cases hc
    · rename_i d hne hu
      cases hi : P.info? t with
      | none => simp [hi] at hc
      | some i =>
        cases hz : i.zero with
        | none => simp [hi, hz] at hc
        | some z =>
          simp only [hi, hz, Option.bind_some, Option.some.injEq] at hc
          subst hc
          exact (runs_tas hw hu (fun ms e => by subst e; exact absurd rfl (hne ms)) hi hz (E x) hr).next
  | lookup t m k ok =>
    simp only [compOp] at hc
    split at hc
    · rename_i kt e hu
      split at hc
      · rename_i kk z hk hz
        cases hc
        cases hd : P.underlying kt with
        | none => rw [hd] at hk; cases hk
        | some d =>
          rw [hd] at hk
          cases hi : P.info? e with
          | none => simp [hi] at hz
          | some i =>
            simp only [hi, Option.bind_some] at hz
            exact (runs_look hw hu hd hk hi hz (E m) (E k) hr).next
      · cases hc
    · cases hc
  | call c =>
    obtain ⟨callee, args, argTypes⟩ := c
    cases callee with
    | value f => simp only [compOp, Option.some.injEq] at hc; subst hc; simp [rop] at hr
    | invoke r m => simp [compOp] at hc
    | builtin b =>
      cases b <;> simp only [compOp, reduceCtorEq] at hc
      case append =>
        repeat' (first | split at hc | (cases hc; done))
        all_goals (cases hc; simp [rop] at hr)
      case len =>
        split at hc
        · rename_i t x h1 h2
          have e0 : ∀ m : Sem Value, (execOp a.eval ⟨dst, .call ⟨.builtin .len, args, argTypes⟩, type, pos, after, guard⟩) = (do pure (Next.value (← Builtin.len_ argTypes type (args.map a.eval)))) := fun _ => rfl
          rw [e0 (pure default)]
          have hx : (args.map a.eval)[0]? = some (a.eval x) := by simp [h2]
          split at hc
          · rename_i hu
            cases hc
            simp only [rop] at hr
            split at hr
            · rename_i s h3
              cases hr
              have e1 := E x
              rw [h3] at e1
              refine RunsV.next (.int hw ?_)
              simp only [Builtin.len_, h1, hx, Sem.run_bind, run_underlying hu, Result.andThen_ok, e1.str_inv]
              simp [goInt, ByteArray.size]
            · cases hr
          · rename_i e hu
            cases hc
            simp only [rop] at hr
            split at hr
            · rename_i rows tk h3
              cases hr
              have e1 := E x
              rw [h3] at e1
              refine RunsV.next (.int hw ?_)
              rcases e1.sl_inv with ⟨rfl, hv, _⟩ | ⟨b, off, cap, sz, vs, hv, _⟩ | ⟨rfl, a, cap, hv, _⟩
              · simp [Builtin.len_, h1, hx, run_underlying hu, hv, goInt]
              · simp [Builtin.len_, h1, hx, run_underlying hu, hv, goInt]
              · simp [Builtin.len_, h1, hx, run_underlying hu, hv, goInt]
            · rename_i id n sz' h3
              cases hr
              have e1 := E x
              rw [h3] at e1
              refine RunsV.next (.int hw ?_)
              obtain ⟨b, cap, e, N, hv, _⟩ := e1.slm_inv
              simp [Builtin.len_, h1, hx, run_underlying hu, hv, goInt]
            · cases hr
          · rename_i kt e hu
            cases hc
            simp only [rop] at hr
            split at hr
            · rename_i id h3
              have e1 := E x
              rw [h3] at e1
              obtain ⟨b, hb, hst⟩ := e1.map_inv
              split at hr
              · rename_i es hH
                cases hr
                obtain ⟨b', arr, clock, g1, g2, g3, g4, g5⟩ := hw.ob id _ hH
                rw [hst] at g1; cases g1
                refine RunsV.next (.int hw ?_)
                have hgo : (getObj b).run P w = .ok (.map arr clock) w := by simp [getObj, Sem.run, g4]
                simp [Builtin.len_, h1, hx, run_underlying hu, hb, hgo, goInt, g5.1]
              · cases hr
            · rename_i h3
              cases hr
              have e1 := E x
              rw [h3] at e1
              refine RunsV.next (.int hw ?_)
              simp [Builtin.len_, h1, hx, run_underlying hu, e1.nilmap_inv, goInt]
            · cases hr
          · cases hc
        · cases hc
      case max =>
        split at hc
        · rename_i x y h1
          cases hc
          simp only [rop] at hr
          split at hr
          · rename_i k p k' q h2 h3
            cases hr
            have e1 := E x; have e2 := E y
            rw [h2] at e1; rw [h3] at e2
            refine RunsV.next (.int hw ?_)
            simp [Builtin.max_, h1, e1.int_inv, e2.int_inv, Builtin.max2]
          · cases hr
        · cases hc
      case min =>
        split at hc
        · rename_i x y h1
          cases hc
          simp only [rop] at hr
          split at hr
          · rename_i k p k' q h2 h3
            cases hr
            have e1 := E x; have e2 := E y
            rw [h2] at e1; rw [h3] at e2
            refine RunsV.next (.int hw ?_)
            simp [Builtin.min_, h1, e1.int_inv, e2.int_inv, Builtin.min2]
          · cases hr
        · cases hc
  | alloc t => simp only [compOp] at hc; cases hl : litCells P t with
    | none => simp [hl] at hc
    | some z => simp only [hl, Option.map_some, Option.some.injEq] at hc; subst hc; split at hr <;> simp [rop] at hr
  | box t x => simp only [compOp, Option.some.injEq] at hc; subst hc; simp [rop] at hr
  | makeMap t r => cases r <;> simp only [compOp, reduceCtorEq, Option.some.injEq] at hc; subst hc; simp [rop] at hr
  | store t x v' => simp only [compOp] at hc; cases hl : sizeOf? P t with
    | none => simp [hl] at hc
    | some z => simp only [hl, Option.map_some, Option.some.injEq] at hc; subst hc; simp [rop] at hr
  | mapUpdate t m k x =>
    simp only [compOp] at hc
    split at hc
    · rename_i kt e hu
      cases hk : kkOf (P.underlying kt) with
      | none => simp [hk] at hc
      | some kk => simp only [hk, Option.map_some, Option.some.injEq] at hc; subst hc; simp [rop] at hr
    · cases hc
  | insert t m k x =>
    simp only [compOp] at hc
    split at hc
    · rename_i kt e hu
      cases hk : kkOf (P.underlying kt) with
      | none => simp [hk] at hc
      | some kk => simp only [hk, Option.map_some, Option.some.injEq] at hc; subst hc; simp [rop] at hr
    · cases hc
  | panic x => simp only [compOp, Option.some.injEq] at hc; subst hc; simp [rop] at hr
  | defer c =>
    obtain ⟨callee, args, argTypes⟩ := c
    cases callee <;> simp only [compOp, reduceCtorEq, Option.some.injEq] at hc
    subst hc; simp [rop] at hr
  | _ => simp [compOp] at hc

end
end Go.Eng

