/- Facts with which the stuck evaluations go on. -/
import Derived.Test.YtmpoklkgdcofbaaGreatDoorG02E17E19
set_option linter.unusedVariables false
set_option linter.unusedSimpArgs false
namespace Go.Eng

theorem sLen_eq (s : List UInt8) : sLen s = (s.length : Int) := rfl
theorem rLen_eq (l : List (List AVal)) : rLen l = (l.length : Int) := rfl
theorem iLt_true {a b : Int} : iLt a b = true ↔ a < b := by simp [iLt]
theorem iLt_false {a b : Int} : iLt a b = false ↔ b ≤ a := by simp [iLt]
theorem iLe_true {a b : Int} : iLe a b = true ↔ a ≤ b := by simp [iLe]
theorem iLe_false {a b : Int} : iLe a b = false ↔ b < a := by simp [iLe]
theorem iEq_true {a b : Int} : iEq a b = true ↔ a = b := by simp [iEq]
theorem iEq_false {a b : Int} : iEq a b = false ↔ a ≠ b := by simp [iEq]
theorem sEq_true {a b : List UInt8} : sEq a b = true ↔ a = b := by simp [sEq]
theorem sEq_false {a b : List UInt8} : sEq a b = false ↔ a ≠ b := by simp [sEq]
theorem sEq_self (a : List UInt8) : sEq a a = true := by simp [sEq]
theorem bNot_true {a : Bool} : bNot a = true ↔ a = false := by cases a <;> simp [bNot]
theorem bNot_false {a : Bool} : bNot a = false ↔ a = true := by cases a <;> simp [bNot]
theorem wAdd_i64 {a b : Int} (h1 : -9223372036854775808 ≤ a + b) (h2 : a + b < 9223372036854775808) : wAdd .i64 a b = a + b := by
  simp only [wAdd, IntKind.wrap, IntKind.signed, IntKind.bits, Bool.true_and, decide_eq_true_eq, Nat.reduceSub, Int.reducePow, ge_iff_le]
  split <;> omega
theorem ixK_at {s : List UInt8} {i : Nat} {b : UInt8} (h : s[i]? = some b) : ixK s (i : Int) = some (.int .u8 (uC b)) := by simp [ixK, h]
theorem slSA_hi {s : List UInt8} {k : IntKind} {n : Nat} (h : n ≤ s.length) : slSA s none (some (.int k (n : Int))) = some (.str (s.take n)) := by
  simp [slSA, bnd, h]
theorem slSA_lo {s : List UInt8} {k : IntKind} {n : Nat} (h : n ≤ s.length) : slSA s (some (.int k (n : Int))) none = some (.str (s.drop n)) := by
  simp [slSA, bnd, h]
theorem slSA_both {s : List UInt8} {k k' : IntKind} {m n : Nat} (h : m ≤ n) (h' : n ≤ s.length) : slSA s (some (.int k (m : Int))) (some (.int k' (n : Int))) = some (.str ((s.take n).drop m)) := by
  simp [slSA, bnd, h, h']
theorem loadA_ip (H : Hp) (k : Option Nat) (cs : List AVal) : loadA H k (.ip cs) = takeA k cs := rfl
/-- A load from an object, a store into one. -/
def loadO (ob : Option Ob) (k : Option Nat) (o : Nat) : Option AVal :=
  match ob with
  | some (.cells cs _) => takeA k (cs.drop o)
  | _ => none
def storeO (ob : Option Ob) (H : Hp) (i n o : Nat) (v : AVal) : Option Hp :=
  match ob with
  | some (.cells cs ty) => if v.known = true ∧ v.cells.length = n ∧ v.cells.all AVal.one = true ∧ o + n ≤ cs.length then some (H.upd i (.cells (cs.take o ++ v.cells ++ cs.drop (o + n)) ty)) else none
  | _ => none
theorem loadA_eq (H : Hp) (k : Option Nat) (i o : Nat) : loadA H k (.ref i o) = loadO (H i) k o := rfl
theorem storeA_eq (H : Hp) (n i o : Nat) (v : AVal) : storeA H n (.ref i o) v = storeO (H i) H i n o v := rfl
theorem loadO_cells (cs : List AVal) (ty : Option TypeId) (k : Option Nat) (o : Nat) : loadO (some (.cells cs ty)) k o = takeA k (cs.drop o) := rfl
theorem storeO_cells (cs : List AVal) (ty : Option TypeId) (H : Hp) (i n o : Nat) (v : AVal) : storeO (some (.cells cs ty)) H i n o v = if v.known = true ∧ v.cells.length = n ∧ v.cells.all AVal.one = true ∧ o + n ≤ cs.length then some (H.upd i (.cells (cs.take o ++ v.cells ++ cs.drop (o + n)) ty)) else none := rfl

attribute [go_sem] Nat.zero_add Nat.add_zero loadA_eq storeA_eq loadO_cells storeO_cells Hp.upd_upd loadA_ip takeA rowsA AVal.one List.length_cons List.length_nil List.take_succ_cons List.take_zero List.take_nil List.drop_succ_cons List.drop_zero List.drop_nil List.all_cons List.all_nil Bool.and_true Bool.true_and true_and and_true and_self if_true ite_true

theorem bNot_t : bNot true = false := rfl
theorem bNot_f : bNot false = true := rfl
theorem bXor_tt : bXor true true = false := rfl
theorem bXor_tf : bXor true false = true := rfl
theorem bXor_ft : bXor false true = true := rfl
theorem bXor_ff : bXor false false = false := rfl
attribute [go_sem] bNot_t bNot_f bXor_tt bXor_tf bXor_ft bXor_ff

def consO (a : Option AVal) (b : Option (List AVal)) : Option (List AVal) :=
  match a, b with
  | some v, some r => some (v :: r)
  | _, _ => none
theorem consO_some (v : AVal) (r : List AVal) : consO (some v) (some r) = some (v :: r) := rfl
theorem resA_cell (tm : List AVal) (H : Hp) (ds : List ADef) (k : Option Nat) (t : Nat) (rest : List ARes) : resA ⟨tm, H, ds⟩ (.cell k t :: rest) = consO (loadA H k (tm.getD t .unk)) (resA ⟨tm, H, ds⟩ rest) := by
  simp only [resA, consO]
  rfl
attribute [go_sem] consO_some resA_cell

theorem getTm_some (tm : List AVal) (d : Nat) : getTm tm (some d) = tm.getD d .unk := rfl
theorem chkOk_none (tm : List AVal) (H : Hp) (ds : List ADef) (d : Option Nat) (op : AOp) : chkOk ⟨tm, H, ds⟩ ⟨d, op, none⟩ = (rop op tm H = some (getTm tm d)) := rfl
theorem chkOk_take (tm : List AVal) (H : Hp) (ds : List ADef) (d : Option Nat) (op : AOp) (t : Nat) (b : Bool) (h : tm.getD t .unk = .bool b) : chkOk ⟨tm, H, ds⟩ ⟨d, op, some (t, b)⟩ = (rop op tm H = some (getTm tm d)) := by
  simp only [chkOk, gdA, h, beq_self_eq_true]
theorem chkOk_skipT (tm : List AVal) (H : Hp) (ds : List ADef) (d : Option Nat) (op : AOp) (t : Nat) (h : tm.getD t .unk = .bool false) : chkOk ⟨tm, H, ds⟩ ⟨d, op, some (t, true)⟩ = True := by
  simp only [chkOk, gdA, h]; rfl
theorem chkOk_skipF (tm : List AVal) (H : Hp) (ds : List ADef) (d : Option Nat) (op : AOp) (t : Nat) (h : tm.getD t .unk = .bool true) : chkOk ⟨tm, H, ds⟩ ⟨d, op, some (t, false)⟩ = True := by
  simp only [chkOk, gdA, h]; rfl
attribute [go_sem] getTm_some chkOk_none chkOk_take chkOk_skipT chkOk_skipF eq_self

theorem iEq_self (a : Int) : iEq a a = true := by simp [iEq]
theorem bEq_self (a : Bool) : bEq a a = true := by simp [bEq]
def sleqR (ng : Bool) : Option Bool → Option AVal
  | some r => some (.bool (bXor ng r))
  | none => none
theorem sleqK_agg (ng : Bool) (ks : List (Nat × KK)) (a b : List AVal) : sleqK ng ks (.agg a) (.agg b) = sleqR ng (eqCells ks a b) := by
  simp only [sleqK]
  cases eqCells ks a b <;> rfl
theorem sleqR_some (ng r : Bool) : sleqR ng (some r) = some (.bool (bXor ng r)) := rfl
attribute [go_sem] iEq_self bEq_self sleqK_agg sleqR_some
/-- Strings as rows. -/
def strRows (l : List (List UInt8)) : List (List AVal) := l.map fun w => [.str w]
theorem iaddrA_str {l : List (List UInt8)} {i : Nat} {w : List UInt8} (h : l[i]? = some w) : iaddrA 1 (strRows l) (i : Int) = some (.ip [.str w]) := by
  simp [iaddrA, strRows, h]
theorem iaddrA_at {rows : List (List AVal)} {i n : Nat} {r : List AVal} (h : rows[i]? = some r) (hn : n = r.length := by rfl) : iaddrA n rows (i : Int) = some (.ip r) := by
  subst hn
  simp [iaddrA, h]
theorem rLen_str (l : List (List UInt8)) : rLen (strRows l) = (l.length : Int) := by simp [rLen, strRows]

end Go.Eng

/- Rows that grow: what is known of the store while a call appends to a row of its own. -/
set_option linter.unusedVariables false
set_option linter.unusedSimpArgs false
namespace Go.Eng

theorem le_upd {H : Hp} {id : Nat} {ob : Ob} (h : H id = none) : H.le (H.upd id ob) := fun i o hi => by
  rw [Hp.upd_ne]; exact hi
  intro e; subst e; rw [h] at hi; cases hi
theorem upd_old {H : Hp} {i j : Nat} {o o' : Ob} (hi : H i = some o) (hj : H j = none) : (H.upd j o') i = some o := by
  rw [Hp.upd_ne]; exact hi
  intro e; subst e; rw [hi] at hj; cases hj

/-- H0: the store when the call began; a row of n elements of sz cells, of the call's own. -/
structure Acc (H0 H : Hp) (t : Tok) (n sz : Nat) : Prop where
  le : H0.le H
  tok : t = .full ∨ ∃ id o, t = .own id sz ∧ H id = some (.tok n sz o) ∧ H0 id = none

theorem Acc.start (H : Hp) (n sz : Nat) : Acc H H .full n sz := ⟨fun _ _ h => h, .inl rfl⟩
theorem none_of_le {H0 H : Hp} (h : H0.le H) {j : Nat} (hj : H j = none) : H0 j = none := by
  cases hh : H0 j with
  | none => rfl
  | some o => rw [h j o hh] at hj; cases hj
/-- Something new is laid. -/
theorem Acc.new {H0 H : Hp} {t : Tok} {n sz : Nat} (h : Acc H0 H t n sz) {j : Nat} (hj : H j = none) (o : Ob) : Acc H0 (H.upd j o) t n sz := by
  refine ⟨fun i ob hi => le_upd hj i ob (h.le i ob hi), ?_⟩
  rcases h.tok with h1 | ⟨id, ot, h1, h2, h3⟩
  · exact .inl h1
  · exact .inr ⟨id, ot, h1, upd_old h2 hj, h3⟩
/-- An object that the call has laid is written. -/
theorem Acc.set {H0 H : Hp} {t : Tok} {n sz : Nat} (h : Acc H0 H t n sz) {j : Nat} {cs : List AVal} {ty : Option TypeId} (hj : H j = some (.cells cs ty)) (h0 : H0 j = none) (o : Ob) : Acc H0 (H.upd j o) t n sz := by
  refine ⟨fun i ob hi => ?_, ?_⟩
  · rw [Hp.upd_ne]
    · exact h.le i ob hi
    · intro e; subst e; rw [h0] at hi; cases hi
  · rcases h.tok with h1 | ⟨id, ot, h1, h2, h3⟩
    · exact .inl h1
    · refine .inr ⟨id, ot, h1, ?_, h3⟩
      rw [Hp.upd_ne]; exact h2
      intro e; subst e; rw [hj] at h2; cases h2
/-- The row grows: what is known of other things stays. -/
theorem Acc.app {sz bytes : Nat} {e : TypeId} {rows rows2 : List (List AVal)} {t u : Tok} {H0 H : Hp} {ds : List ADef} {R : Res} {n : Nat} (hA : Acc H0 H t n sz) (hn : rows.length = n) (hne : rows2 ≠ []) (h1 : ∀ r ∈ rows, r.length = sz) (h2 : ∀ r ∈ rows2, r.length = sz)
    (ho : rows2.flatten.all AVal.one = true) (hb : (n + rows2.length) * bytes ≤ 140737488355328)
    (h : ∀ t' H', Acc H0 H' t' (n + rows2.length) sz → (∀ j o, H j = some o → (∀ n s ot, o ≠ .tok n s ot) → H' j = some o) → R (.sl (rows ++ rows2) t') H' ds) : appP sz bytes e (.sl rows t) (.sl rows2 u) H ds R := by
  subst hn
  refine .inl ?_
  unfold app0
  have hi : rows2.isEmpty = false := by cases rows2 with | nil => exact absurd rfl hne | cons r rs => rfl
  simp only [hi, Bool.false_eq_true, if_false]
  refine ⟨h1, h2, hb, ?_⟩
  rcases hA.tok with rfl | ⟨id, ot, rfl, h3, h4⟩
  · intro id hid
    refine h _ _ ⟨fun i ob hi => le_upd hid i ob (hA.le i ob hi), .inr ⟨id, _, rfl, Hp.upd_same _ _ _, none_of_le hA.le hid⟩⟩ fun j o hj _ => upd_old hj hid
  · refine ⟨rfl, ho, ot, h3, h _ _ ⟨fun i ob hi => ?_, .inr ⟨id, _, rfl, Hp.upd_same _ _ _, h4⟩⟩ fun j o hj hn => ?_⟩
    · rw [Hp.upd_ne]
      · exact hA.le i ob hi
      · intro e; subst e; rw [h4] at hi; cases hi
    · rw [Hp.upd_ne]
      · exact hj
      · intro e; subst e; rw [h3] at hj; cases hj; exact hn _ _ _ rfl

end Go.Eng

