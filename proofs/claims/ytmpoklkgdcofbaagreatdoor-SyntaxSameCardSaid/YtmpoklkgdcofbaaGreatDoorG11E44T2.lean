/- What has been read as data is a tree: the shapes of the cells, with the bounds that its weight gives. -/
import Derived.Test.YtmpoklkgdcofbaaGreatDoorG09E22E22
import Derived.SizedLaws
import Derived.ChangeArms
set_option linter.unusedVariables false
set_option linter.unusedSimpArgs false
namespace Go.Eng

section
variable {T : Type} (enc : TypeId × Value → T) (P : Program) (w : World) (base : Nat) (sp : Nat → Bool) (held : Bool)

/-- What is read as type 't' within 'n' steps, and weighs no more than the machine reaches, has cells as 'Q' says. -/
def Dec (n : Nat) (t : TypeId) (Q : List AVal → Prop) : Prop :=
  ∀ cs x, DataW.trod enc P w base sp held n t cs = some x → (∀ q ∈ x.1.weights P t, q ≤ reachBytes) → Q (avCells x.1)

def DecAll (n : Nat) : List TypeId → List (List AVal → Prop) → Prop
  | [], [] => True
  | t :: ts, Q :: Qs => Dec enc P w base sp held n t Q ∧ DecAll n ts Qs
  | _, _ => False
end

def Cat : List (List AVal → Prop) → List AVal → Prop
  | [], l => l = []
  | Q :: Qs, l => ∃ a b, l = a ++ b ∧ Q a ∧ Cat Qs b
def QStr (l : List AVal) : Prop := ∃ s : List UInt8, l = [.str s] ∧ s.length ≤ 140737488355328
def QInt (l : List AVal) : Prop := ∃ n : Int, l = [.int .i64 n]
def QBool (l : List AVal) : Prop := ∃ b : Bool, l = [.bool b]
def QSl (Q : List AVal → Prop) (l : List AVal) : Prop := ∃ rows, l = [.sl rows .no] ∧ rows.length ≤ 140737488355328 ∧ ∀ r ∈ rows, Q r
def QX {X : Type} (cells : X → List AVal) (ok : X → Prop) (l : List AVal) : Prop := ∃ v, l = cells v ∧ ok v

theorem rows_of {X : Type} {cells : X → List AVal} {ok : X → Prop} : ∀ {rows : List (List AVal)}, (∀ r ∈ rows, QX cells ok r) → ∃ l : List X, rows = l.map cells ∧ ∀ x ∈ l, ok x
  | [], _ => ⟨[], rfl, fun _ h => by cases h⟩
  | r :: rows, h => by
    obtain ⟨v, rfl, hv⟩ := h r (.head _)
    obtain ⟨l, rfl, hl⟩ := rows_of fun r hr => h r (.tail _ hr)
    exact ⟨v :: l, rfl, fun x hx => by
      rcases List.mem_cons.1 hx with rfl | hx
      · exact hv
      · exact hl x hx⟩
theorem QSl.list {X : Type} {cells : X → List AVal} {ok : X → Prop} {l : List AVal} (h : QSl (QX cells ok) l) : ∃ v : List X, l = [.sl (v.map cells) .no] ∧ v.length ≤ 140737488355328 ∧ ∀ x ∈ v, ok x := by
  obtain ⟨rows, rfl, hl, h⟩ := h
  obtain ⟨v, rfl, hv⟩ := rows_of h
  exact ⟨v, rfl, by simpa using hl, hv⟩
theorem strs_of : ∀ {rows : List (List AVal)}, (∀ r ∈ rows, QStr r) → ∃ l : List (List UInt8), rows = l.map (fun s => [.str s]) ∧ ∀ x ∈ l, x.length ≤ 140737488355328
  | [], _ => ⟨[], rfl, fun _ h => by cases h⟩
  | r :: rows, h => by
    obtain ⟨v, rfl, hv⟩ := h r (.head _)
    obtain ⟨l, rfl, hl⟩ := strs_of fun r hr => h r (.tail _ hr)
    exact ⟨v :: l, rfl, fun x hx => by
      rcases List.mem_cons.1 hx with rfl | hx
      · exact hv
      · exact hl x hx⟩
theorem QSl.strs {l : List AVal} (h : QSl QStr l) : ∃ v : List (List UInt8), l = [.sl (v.map fun s => [.str s]) .no] ∧ v.length ≤ 140737488355328 ∧ ∀ x ∈ v, x.length ≤ 140737488355328 := by
  obtain ⟨rows, rfl, hl, h⟩ := h
  obtain ⟨v, rfl, hv⟩ := strs_of h
  exact ⟨v, rfl, by simpa using hl, hv⟩

section
variable {T : Type} {enc : TypeId × Value → T} {P : Program} {w : World} {base : Nat} {sp : Nat → Bool} {held : Bool} {n : Nat} {t : TypeId} {Q Q' : List AVal → Prop}

theorem DecAll.nil : DecAll enc P w base sp held n [] [] := trivial
theorem DecAll.cons {ts : List TypeId} {Qs : List (List AVal → Prop)} (h : Dec enc P w base sp held n t Q) (hs : DecAll enc P w base sp held n ts Qs) : DecAll enc P w base sp held n (t :: ts) (Q :: Qs) := ⟨h, hs⟩
theorem reach_le {q : Nat} (h : q ≤ reachBytes) : q ≤ 140737488355328 := Nat.le_trans h (by decide +kernel)
theorem Dec.zero : Dec enc P w base sp held 0 t Q := fun cs x h => by simp [DataW.trod] at h
theorem Dec.mono (h : Dec enc P w base sp held n t Q) (hq : ∀ l, Q l → Q' l) : Dec enc P w base sp held n t Q' := fun cs x h1 h2 => hq _ (h cs x h1 h2)
theorem Dec.str (hu : P.underlying t = some .string) : Dec enc P w base sp held n t QStr := fun cs x h hw => by
  obtain ⟨s, rfl, rfl, _⟩ := DataW.trod_string hu h
  refine ⟨s.data.toList, by rw [avCells], reach_le (hw _ ?_)⟩
  simp [DataW.weights]
theorem Dec.int (hu : P.underlying t = some (.int .i64)) : Dec enc P w base sp held n t QInt := fun cs x h hw => by
  obtain ⟨s, rfl, rfl, _⟩ := DataW.trod_int hu h
  exact ⟨s, by rw [avCells]⟩
theorem Dec.bool (hu : P.underlying t = some .bool) : Dec enc P w base sp held n t QBool := fun cs x h hw => by
  obtain ⟨s, rfl, rfl⟩ := DataW.trod_bool hu h
  exact ⟨s, by rw [avCells]⟩

theorem weights_all {d : DataW T} {e : TypeId} : ∀ {es : List (DataW T)}, d ∈ es → ∀ q ∈ d.weights P e, q ∈ DataW.weightsAll P e es
  | x :: es, h, q, hq => by
    rw [DataW.weightsAll, List.mem_append]
    rcases List.mem_cons.1 h with rfl | h
    · exact .inl hq
    · exact .inr (weights_all h q hq)

theorem Dec.slice {e : TypeId} (hu : P.underlying t = some (.slice e)) (hb : (P.bytesOf e != 0) = true) (h : Dec enc P w base sp held n e Q) : Dec enc P w base sp held (n + 1) t (QSl Q) := fun cs x hx hw => by
  rcases DataW.trod_slice hu hx with ⟨rfl, rfl⟩ | ⟨a, len, cap, elems, rest, m, hf, rfl, rfl, _, hlc, _, hel, hread, _⟩
  · exact ⟨[], by rw [avCells], by simp, fun r hr => by cases hr⟩
  · cases hf
    refine ⟨avRows (elems.map (·.1)), by rw [avCells], ?_, fun r hr => ?_⟩
    · rw [avRows_map, List.length_map, List.length_map]
      have h1 : (elems.length + rest.length) * P.bytesOf e ≤ reachBytes := hw _ (by simp [DataW.weights, hu])
      have h2 : 0 < P.bytesOf e := by simp at hb; omega
      have h3 : elems.length ≤ (elems.length + rest.length) * P.bytesOf e := Nat.le_trans (Nat.le_add_right _ _) (Nat.le_mul_of_pos_right _ h2)
      exact reach_le (Nat.le_trans h3 h1)
    · rw [avRows_map, List.mem_map] at hr
      obtain ⟨d, hd, rfl⟩ := hr
      rw [List.mem_map] at hd
      obtain ⟨y, hy, rfl⟩ := hd
      obtain ⟨i, hi, hiy⟩ := List.getElem_of_mem hy
      have hr := hread i (by omega)
      rw [List.getElem?_eq_getElem hi, hiy, Option.bind_eq_some_iff] at hr
      obtain ⟨csi, _, h2⟩ := hr
      refine h csi y h2 fun q hq => hw q ?_
      have := weights_all (List.mem_map_of_mem (f := fun (z : DataW T × List MemPlace) => z.1) hy) q hq
      simp only [DataW.weights, hu, List.mem_cons, List.mem_append]
      exact .inr (.inl this)

theorem DecAll.cat : ∀ {ts : List TypeId} {Qs : List (List AVal → Prop)} {xs : List (DataW T × List MemPlace)}, DecAll enc P w base sp held n ts Qs → xs.length = ts.length →
    (∀ (i : Nat) t, ts[i]? = some t → ∃ cs x, xs[i]? = some x ∧ DataW.trod enc P w base sp held n t cs = some x) → (∀ q ∈ DataW.weightsEach P ts (xs.map (·.1)), q ≤ reachBytes) → Cat Qs (avCat (xs.map (·.1)))
  | [], [], [], _, _, _, _ => by show avCat [] = []; rw [avCat]
  | t :: ts, Q :: Qs, x :: xs, h, hl, hx, hw => by
    show Cat (Q :: Qs) (avCat (x.1 :: xs.map (·.1)))
    rw [avCat]
    refine ⟨_, _, rfl, ?_, DecAll.cat h.2 (by simpa using hl) (fun i t ht => by simpa using hx (i + 1) t (by simpa using ht)) fun q hq => hw q ?_⟩
    · obtain ⟨cs, y, hy, ht⟩ := hx 0 t rfl
      simp only [List.getElem?_cons_zero, Option.some.injEq] at hy
      subst hy
      refine h.1 cs x ht fun q hq => hw q ?_
      simp only [List.map_cons, DataW.weightsEach, List.mem_append]
      exact .inl hq
    · simp only [List.map_cons, DataW.weightsEach, List.mem_append]
      exact .inr hq
  | [], _ :: _, _, h, _, _, _ => h.elim
  | _ :: _, [], _, h, _, _, _ => h.elim
  | [], [], _ :: _, _, h, _, _ => by simp at h
  | _ :: _, _ :: _, [], _, h, _, _ => by simp at h

theorem Dec.struct {fs : Array Field} {Qs : List (List AVal → Prop)} (hu : P.underlying t = some (.struct fs)) (h : DecAll enc P w base sp held n (fs.toList.map (·.type)) Qs) : Dec enc P w base sp held (n + 1) t (Cat Qs) := fun cs x hx hw => by
  obtain ⟨xs, m, hf, rfl, _, hxl, hrd⟩ := DataW.trod_struct hu hx
  cases hf
  rw [avCells]
  refine h.cat (by simpa using hxl) (fun i t ht => ?_) fun q hq => hw q ?_
  · rw [List.getElem?_map] at ht
    obtain ⟨f, hf, rfl⟩ := Option.map_eq_some_iff.1 ht
    have hi : i < xs.length := by
      have := (List.getElem?_eq_some_iff.1 hf).1
      rw [hxl]; simpa using this
    have hr := hrd i f (by simpa using hf)
    rw [List.getElem?_eq_getElem hi] at hr
    exact ⟨_, _, List.getElem?_eq_getElem hi, hr⟩
  · simp only [DataW.weights, hu]
    exact hq
end
end Go.Eng

/- The trees of the program's types, and the cells in which they lie. -/
set_option linter.unusedVariables false
set_option linter.unusedSimpArgs false
namespace Go.Eng

abbrev Str := List UInt8

inductive Ty where
  | mk (op n : Int) (s : Str) (args : List Ty)
inductive Pa where
  | mk (op : Int) (s : Str) (n : Int) (args : List Pa)
structure Co where
  name : Str
  type : Ty
  fields : List Str
structure Eqn where
  left : Ty
  right : Ty
structure Bi where
  name : Str
  kind : Ty
structure Dp where
  fr : List Str
  to : List Str
structure Sg where
  name : Str
  type : Ty
structure Im where
  mod : Str
  all : Bool
  names : List Str
mutual
inductive Ex where
  | mk (op : Int) (s : Str) (n : Int) (args : List Ex) (types : List Ty) (pats : List Pa) (fields : List Str) (decls : List De) (alts : List Al) (stmts : List St)
inductive St where
  | mk (lt : Bool) (pat : List Pa) (expr : Ex) (decls : List De)
inductive Al where
  | mk (pats : List Pa) (rhs : List Gu) (wh : List De)
inductive Gu where
  | mk (cond : List Ex) (thn : Ex)
inductive De where
  | mk (op : Int) (name s : Str) (n : Int) (type : Ty) (cons : List Co) (derivs : List Str) (eqs : List Eqn) (vars : List Bi) (context : List Ty) (deps : List Dp) (sigs : List Sg) (alts : List Al) (decls : List De)
end
structure Mo where
  name : Str
  all : Bool
  exports : List Str
  imports : List Im
  decls : List De

def cS (l : List Str) : AVal := .sl (l.map fun w => [.str w]) .no

def Ty.cells : Ty → List AVal
  | .mk op n s args => [.int .i64 op, .int .i64 n, .str s, .sl (tyRows args) .no]
where tyRows : List Ty → List (List AVal)
  | [] => []
  | t :: ts => t.cells :: tyRows ts
def Pa.cells : Pa → List AVal
  | .mk op s n args => [.int .i64 op, .str s, .int .i64 n, .sl (paRows args) .no]
where paRows : List Pa → List (List AVal)
  | [] => []
  | t :: ts => t.cells :: paRows ts
def Co.cells (c : Co) : List AVal := .str c.name :: c.type.cells ++ [cS c.fields]
def Eqn.cells (c : Eqn) : List AVal := c.left.cells ++ c.right.cells
def Bi.cells (c : Bi) : List AVal := .str c.name :: c.kind.cells
def Dp.cells (c : Dp) : List AVal := [cS c.fr, cS c.to]
def Sg.cells (c : Sg) : List AVal := .str c.name :: c.type.cells
def Im.cells (c : Im) : List AVal := [.str c.mod, .bool c.all, cS c.names]
mutual
def Ex.cells : Ex → List AVal
  | .mk op s n args types pats fields decls alts stmts => [.int .i64 op, .str s, .int .i64 n, .sl (exRows args) .no, .sl (types.map Ty.cells) .no, .sl (pats.map Pa.cells) .no, cS fields, .sl (deRows decls) .no, .sl (alRows alts) .no, .sl (stRows stmts) .no]
def St.cells : St → List AVal
  | .mk lt pat expr decls => .bool lt :: .sl (pat.map Pa.cells) .no :: expr.cells ++ [.sl (deRows decls) .no]
def Al.cells : Al → List AVal
  | .mk pats rhs wh => [.sl (pats.map Pa.cells) .no, .sl (guRows rhs) .no, .sl (deRows wh) .no]
def Gu.cells : Gu → List AVal
  | .mk cond thn => .sl (exRows cond) .no :: thn.cells
def De.cells : De → List AVal
  | .mk op name s n type cons derivs eqs vars context deps sigs alts decls => .int .i64 op :: .str name :: .str s :: .int .i64 n :: type.cells ++ [.sl (cons.map Co.cells) .no, cS derivs, .sl (eqs.map Eqn.cells) .no, .sl (vars.map Bi.cells) .no,
      .sl (context.map Ty.cells) .no, .sl (deps.map Dp.cells) .no, .sl (sigs.map Sg.cells) .no, .sl (alRows alts) .no, .sl (deRows decls) .no]
def exRows : List Ex → List (List AVal)
  | [] => []
  | t :: ts => t.cells :: exRows ts
def deRows : List De → List (List AVal)
  | [] => []
  | t :: ts => t.cells :: deRows ts
def alRows : List Al → List (List AVal)
  | [] => []
  | t :: ts => t.cells :: alRows ts
def stRows : List St → List (List AVal)
  | [] => []
  | t :: ts => t.cells :: stRows ts
def guRows : List Gu → List (List AVal)
  | [] => []
  | t :: ts => t.cells :: guRows ts
end
def Mo.cells (m : Mo) : List AVal := [.str m.name, .bool m.all, cS m.exports, .sl (m.imports.map Im.cells) .no, .sl (m.decls.map De.cells) .no]

theorem tyRows_map (l : List Ty) : Ty.cells.tyRows l = l.map Ty.cells := by
  induction l with
  | nil => rfl
  | cons t l ih => rw [Ty.cells.tyRows, ih]; rfl
theorem paRows_map (l : List Pa) : Pa.cells.paRows l = l.map Pa.cells := by
  induction l with
  | nil => rfl
  | cons t l ih => rw [Pa.cells.paRows, ih]; rfl
theorem exRows_map (l : List Ex) : exRows l = l.map Ex.cells := by
  induction l with
  | nil => rfl
  | cons t l ih => rw [exRows, ih]; rfl
theorem deRows_map (l : List De) : deRows l = l.map De.cells := by
  induction l with
  | nil => rfl
  | cons t l ih => rw [deRows, ih]; rfl
theorem alRows_map (l : List Al) : alRows l = l.map Al.cells := by
  induction l with
  | nil => rfl
  | cons t l ih => rw [alRows, ih]; rfl
theorem stRows_map (l : List St) : stRows l = l.map St.cells := by
  induction l with
  | nil => rfl
  | cons t l ih => rw [stRows, ih]; rfl
theorem guRows_map (l : List Gu) : guRows l = l.map Gu.cells := by
  induction l with
  | nil => rfl
  | cons t l ih => rw [guRows, ih]; rfl

theorem Ty.cells_mk (op n : Int) (s : Str) (args : List Ty) : (Ty.mk op n s args).cells = [.int .i64 op, .int .i64 n, .str s, .sl (args.map Ty.cells) .no] := by
  rw [Ty.cells, tyRows_map]
theorem Pa.cells_mk (op : Int) (s : Str) (n : Int) (args : List Pa) : (Pa.mk op s n args).cells = [.int .i64 op, .str s, .int .i64 n, .sl (args.map Pa.cells) .no] := by
  rw [Pa.cells, paRows_map]
theorem Ex.cells_mk (op : Int) (s : Str) (n : Int) (args : List Ex) (types : List Ty) (pats : List Pa) (fields : List Str) (decls : List De) (alts : List Al) (stmts : List St) :
    (Ex.mk op s n args types pats fields decls alts stmts).cells = [.int .i64 op, .str s, .int .i64 n, .sl (args.map Ex.cells) .no, .sl (types.map Ty.cells) .no, .sl (pats.map Pa.cells) .no, cS fields, .sl (decls.map De.cells) .no, .sl (alts.map Al.cells) .no, .sl (stmts.map St.cells) .no] := by
  rw [Ex.cells, exRows_map, deRows_map, alRows_map, stRows_map]
theorem St.cells_mk (lt : Bool) (pat : List Pa) (expr : Ex) (decls : List De) : (St.mk lt pat expr decls).cells = .bool lt :: .sl (pat.map Pa.cells) .no :: expr.cells ++ [.sl (decls.map De.cells) .no] := by
  rw [St.cells, deRows_map]
theorem Al.cells_mk (pats : List Pa) (rhs : List Gu) (wh : List De) : (Al.mk pats rhs wh).cells = [.sl (pats.map Pa.cells) .no, .sl (rhs.map Gu.cells) .no, .sl (wh.map De.cells) .no] := by
  rw [Al.cells, guRows_map, deRows_map]
theorem Gu.cells_mk (cond : List Ex) (thn : Ex) : (Gu.mk cond thn).cells = .sl (cond.map Ex.cells) .no :: thn.cells := by
  rw [Gu.cells, exRows_map]
theorem De.cells_mk (op : Int) (name s : Str) (n : Int) (type : Ty) (cons : List Co) (derivs : List Str) (eqs : List Eqn) (vars : List Bi) (context : List Ty) (deps : List Dp) (sigs : List Sg) (alts : List Al) (decls : List De) :
    (De.mk op name s n type cons derivs eqs vars context deps sigs alts decls).cells = .int .i64 op :: .str name :: .str s :: .int .i64 n :: type.cells ++ [.sl (cons.map Co.cells) .no, cS derivs, .sl (eqs.map Eqn.cells) .no, .sl (vars.map Bi.cells) .no,
      .sl (context.map Ty.cells) .no, .sl (deps.map Dp.cells) .no, .sl (sigs.map Sg.cells) .no, .sl (alts.map Al.cells) .no, .sl (decls.map De.cells) .no] := by
  rw [De.cells, alRows_map, deRows_map]

end Go.Eng

/- MADE BY PROGRAM (wip/tools/structs.py): the parts of the program's structs, and where they lie. -/
set_option linter.unusedVariables false
set_option linter.unusedSimpArgs false
namespace Go.Eng

def Ty.op : Ty → Int | .mk a _ _ _ => a
def Ty.n : Ty → Int | .mk _ a _ _ => a
def Ty.s : Ty → Str | .mk _ _ a _ => a
def Ty.args : Ty → List Ty | .mk _ _ _ a => a
theorem Ty.eta (x : Ty) : Ty.mk x.op x.n x.s x.args = x := by cases x; rfl
@[simp] theorem Ty.op_mk (a0 a1 a2 a3) : (Ty.mk a0 a1 a2 a3).op = a0 := rfl
@[simp] theorem Ty.n_mk (a0 a1 a2 a3) : (Ty.mk a0 a1 a2 a3).n = a1 := rfl
@[simp] theorem Ty.s_mk (a0 a1 a2 a3) : (Ty.mk a0 a1 a2 a3).s = a2 := rfl
@[simp] theorem Ty.args_mk (a0 a1 a2 a3) : (Ty.mk a0 a1 a2 a3).args = a3 := rfl
theorem Ty.ext' {x y : Ty} (h0 : x.op = y.op) (h1 : x.n = y.n) (h2 : x.s = y.s) (h3 : x.args = y.args) : x = y := by
  rw [← Ty.eta x, ← Ty.eta y, h0, h1, h2, h3]
def Pa.op : Pa → Int | .mk a _ _ _ => a
def Pa.s : Pa → Str | .mk _ a _ _ => a
def Pa.n : Pa → Int | .mk _ _ a _ => a
def Pa.args : Pa → List Pa | .mk _ _ _ a => a
theorem Pa.eta (x : Pa) : Pa.mk x.op x.s x.n x.args = x := by cases x; rfl
@[simp] theorem Pa.op_mk (a0 a1 a2 a3) : (Pa.mk a0 a1 a2 a3).op = a0 := rfl
@[simp] theorem Pa.s_mk (a0 a1 a2 a3) : (Pa.mk a0 a1 a2 a3).s = a1 := rfl
@[simp] theorem Pa.n_mk (a0 a1 a2 a3) : (Pa.mk a0 a1 a2 a3).n = a2 := rfl
@[simp] theorem Pa.args_mk (a0 a1 a2 a3) : (Pa.mk a0 a1 a2 a3).args = a3 := rfl
theorem Pa.ext' {x y : Pa} (h0 : x.op = y.op) (h1 : x.s = y.s) (h2 : x.n = y.n) (h3 : x.args = y.args) : x = y := by
  rw [← Pa.eta x, ← Pa.eta y, h0, h1, h2, h3]
theorem Co.eta (x : Co) : Co.mk x.name x.type x.fields = x := rfl
theorem Co.ext' {x y : Co} (h0 : x.name = y.name) (h1 : x.type = y.type) (h2 : x.fields = y.fields) : x = y := by
  rw [← Co.eta x, ← Co.eta y, h0, h1, h2]
theorem Eqn.eta (x : Eqn) : Eqn.mk x.left x.right = x := rfl
theorem Eqn.ext' {x y : Eqn} (h0 : x.left = y.left) (h1 : x.right = y.right) : x = y := by
  rw [← Eqn.eta x, ← Eqn.eta y, h0, h1]
theorem Bi.eta (x : Bi) : Bi.mk x.name x.kind = x := rfl
theorem Bi.ext' {x y : Bi} (h0 : x.name = y.name) (h1 : x.kind = y.kind) : x = y := by
  rw [← Bi.eta x, ← Bi.eta y, h0, h1]
theorem Dp.eta (x : Dp) : Dp.mk x.fr x.to = x := rfl
theorem Dp.ext' {x y : Dp} (h0 : x.fr = y.fr) (h1 : x.to = y.to) : x = y := by
  rw [← Dp.eta x, ← Dp.eta y, h0, h1]
theorem Sg.eta (x : Sg) : Sg.mk x.name x.type = x := rfl
theorem Sg.ext' {x y : Sg} (h0 : x.name = y.name) (h1 : x.type = y.type) : x = y := by
  rw [← Sg.eta x, ← Sg.eta y, h0, h1]
theorem Im.eta (x : Im) : Im.mk x.mod x.all x.names = x := rfl
theorem Im.ext' {x y : Im} (h0 : x.mod = y.mod) (h1 : x.all = y.all) (h2 : x.names = y.names) : x = y := by
  rw [← Im.eta x, ← Im.eta y, h0, h1, h2]
def Ex.op : Ex → Int | .mk a _ _ _ _ _ _ _ _ _ => a
def Ex.s : Ex → Str | .mk _ a _ _ _ _ _ _ _ _ => a
def Ex.n : Ex → Int | .mk _ _ a _ _ _ _ _ _ _ => a
def Ex.args : Ex → List Ex | .mk _ _ _ a _ _ _ _ _ _ => a
def Ex.types : Ex → List Ty | .mk _ _ _ _ a _ _ _ _ _ => a
def Ex.pats : Ex → List Pa | .mk _ _ _ _ _ a _ _ _ _ => a
def Ex.fields : Ex → List Str | .mk _ _ _ _ _ _ a _ _ _ => a
def Ex.decls : Ex → List De | .mk _ _ _ _ _ _ _ a _ _ => a
def Ex.alts : Ex → List Al | .mk _ _ _ _ _ _ _ _ a _ => a
def Ex.stmts : Ex → List St | .mk _ _ _ _ _ _ _ _ _ a => a
theorem Ex.eta (x : Ex) : Ex.mk x.op x.s x.n x.args x.types x.pats x.fields x.decls x.alts x.stmts = x := by cases x; rfl
@[simp] theorem Ex.op_mk (a0 a1 a2 a3 a4 a5 a6 a7 a8 a9) : (Ex.mk a0 a1 a2 a3 a4 a5 a6 a7 a8 a9).op = a0 := rfl
@[simp] theorem Ex.s_mk (a0 a1 a2 a3 a4 a5 a6 a7 a8 a9) : (Ex.mk a0 a1 a2 a3 a4 a5 a6 a7 a8 a9).s = a1 := rfl
@[simp] theorem Ex.n_mk (a0 a1 a2 a3 a4 a5 a6 a7 a8 a9) : (Ex.mk a0 a1 a2 a3 a4 a5 a6 a7 a8 a9).n = a2 := rfl
@[simp] theorem Ex.args_mk (a0 a1 a2 a3 a4 a5 a6 a7 a8 a9) : (Ex.mk a0 a1 a2 a3 a4 a5 a6 a7 a8 a9).args = a3 := rfl
@[simp] theorem Ex.types_mk (a0 a1 a2 a3 a4 a5 a6 a7 a8 a9) : (Ex.mk a0 a1 a2 a3 a4 a5 a6 a7 a8 a9).types = a4 := rfl
@[simp] theorem Ex.pats_mk (a0 a1 a2 a3 a4 a5 a6 a7 a8 a9) : (Ex.mk a0 a1 a2 a3 a4 a5 a6 a7 a8 a9).pats = a5 := rfl
@[simp] theorem Ex.fields_mk (a0 a1 a2 a3 a4 a5 a6 a7 a8 a9) : (Ex.mk a0 a1 a2 a3 a4 a5 a6 a7 a8 a9).fields = a6 := rfl
@[simp] theorem Ex.decls_mk (a0 a1 a2 a3 a4 a5 a6 a7 a8 a9) : (Ex.mk a0 a1 a2 a3 a4 a5 a6 a7 a8 a9).decls = a7 := rfl
@[simp] theorem Ex.alts_mk (a0 a1 a2 a3 a4 a5 a6 a7 a8 a9) : (Ex.mk a0 a1 a2 a3 a4 a5 a6 a7 a8 a9).alts = a8 := rfl
@[simp] theorem Ex.stmts_mk (a0 a1 a2 a3 a4 a5 a6 a7 a8 a9) : (Ex.mk a0 a1 a2 a3 a4 a5 a6 a7 a8 a9).stmts = a9 := rfl
theorem Ex.ext' {x y : Ex} (h0 : x.op = y.op) (h1 : x.s = y.s) (h2 : x.n = y.n) (h3 : x.args = y.args) (h4 : x.types = y.types) (h5 : x.pats = y.pats) (h6 : x.fields = y.fields) (h7 : x.decls = y.decls) (h8 : x.alts = y.alts) (h9 : x.stmts = y.stmts) : x = y := by
  rw [← Ex.eta x, ← Ex.eta y, h0, h1, h2, h3, h4, h5, h6, h7, h8, h9]
def St.lt : St → Bool | .mk a _ _ _ => a
def St.pat : St → List Pa | .mk _ a _ _ => a
def St.expr : St → Ex | .mk _ _ a _ => a
def St.decls : St → List De | .mk _ _ _ a => a
theorem St.eta (x : St) : St.mk x.lt x.pat x.expr x.decls = x := by cases x; rfl
@[simp] theorem St.lt_mk (a0 a1 a2 a3) : (St.mk a0 a1 a2 a3).lt = a0 := rfl
@[simp] theorem St.pat_mk (a0 a1 a2 a3) : (St.mk a0 a1 a2 a3).pat = a1 := rfl
@[simp] theorem St.expr_mk (a0 a1 a2 a3) : (St.mk a0 a1 a2 a3).expr = a2 := rfl
@[simp] theorem St.decls_mk (a0 a1 a2 a3) : (St.mk a0 a1 a2 a3).decls = a3 := rfl
theorem St.ext' {x y : St} (h0 : x.lt = y.lt) (h1 : x.pat = y.pat) (h2 : x.expr = y.expr) (h3 : x.decls = y.decls) : x = y := by
  rw [← St.eta x, ← St.eta y, h0, h1, h2, h3]
def Al.pats : Al → List Pa | .mk a _ _ => a
def Al.rhs : Al → List Gu | .mk _ a _ => a
def Al.wh : Al → List De | .mk _ _ a => a
theorem Al.eta (x : Al) : Al.mk x.pats x.rhs x.wh = x := by cases x; rfl
@[simp] theorem Al.pats_mk (a0 a1 a2) : (Al.mk a0 a1 a2).pats = a0 := rfl
@[simp] theorem Al.rhs_mk (a0 a1 a2) : (Al.mk a0 a1 a2).rhs = a1 := rfl
@[simp] theorem Al.wh_mk (a0 a1 a2) : (Al.mk a0 a1 a2).wh = a2 := rfl
theorem Al.ext' {x y : Al} (h0 : x.pats = y.pats) (h1 : x.rhs = y.rhs) (h2 : x.wh = y.wh) : x = y := by
  rw [← Al.eta x, ← Al.eta y, h0, h1, h2]
def Gu.cond : Gu → List Ex | .mk a _ => a
def Gu.thn : Gu → Ex | .mk _ a => a
theorem Gu.eta (x : Gu) : Gu.mk x.cond x.thn = x := by cases x; rfl
@[simp] theorem Gu.cond_mk (a0 a1) : (Gu.mk a0 a1).cond = a0 := rfl
@[simp] theorem Gu.thn_mk (a0 a1) : (Gu.mk a0 a1).thn = a1 := rfl
theorem Gu.ext' {x y : Gu} (h0 : x.cond = y.cond) (h1 : x.thn = y.thn) : x = y := by
  rw [← Gu.eta x, ← Gu.eta y, h0, h1]
def De.op : De → Int | .mk a _ _ _ _ _ _ _ _ _ _ _ _ _ => a
def De.name : De → Str | .mk _ a _ _ _ _ _ _ _ _ _ _ _ _ => a
def De.s : De → Str | .mk _ _ a _ _ _ _ _ _ _ _ _ _ _ => a
def De.n : De → Int | .mk _ _ _ a _ _ _ _ _ _ _ _ _ _ => a
def De.type : De → Ty | .mk _ _ _ _ a _ _ _ _ _ _ _ _ _ => a
def De.cons : De → List Co | .mk _ _ _ _ _ a _ _ _ _ _ _ _ _ => a
def De.derivs : De → List Str | .mk _ _ _ _ _ _ a _ _ _ _ _ _ _ => a
def De.eqs : De → List Eqn | .mk _ _ _ _ _ _ _ a _ _ _ _ _ _ => a
def De.vars : De → List Bi | .mk _ _ _ _ _ _ _ _ a _ _ _ _ _ => a
def De.context : De → List Ty | .mk _ _ _ _ _ _ _ _ _ a _ _ _ _ => a
def De.deps : De → List Dp | .mk _ _ _ _ _ _ _ _ _ _ a _ _ _ => a
def De.sigs : De → List Sg | .mk _ _ _ _ _ _ _ _ _ _ _ a _ _ => a
def De.alts : De → List Al | .mk _ _ _ _ _ _ _ _ _ _ _ _ a _ => a
def De.decls : De → List De | .mk _ _ _ _ _ _ _ _ _ _ _ _ _ a => a
theorem De.eta (x : De) : De.mk x.op x.name x.s x.n x.type x.cons x.derivs x.eqs x.vars x.context x.deps x.sigs x.alts x.decls = x := by cases x; rfl
@[simp] theorem De.op_mk (a0 a1 a2 a3 a4 a5 a6 a7 a8 a9 a10 a11 a12 a13) : (De.mk a0 a1 a2 a3 a4 a5 a6 a7 a8 a9 a10 a11 a12 a13).op = a0 := rfl
@[simp] theorem De.name_mk (a0 a1 a2 a3 a4 a5 a6 a7 a8 a9 a10 a11 a12 a13) : (De.mk a0 a1 a2 a3 a4 a5 a6 a7 a8 a9 a10 a11 a12 a13).name = a1 := rfl
@[simp] theorem De.s_mk (a0 a1 a2 a3 a4 a5 a6 a7 a8 a9 a10 a11 a12 a13) : (De.mk a0 a1 a2 a3 a4 a5 a6 a7 a8 a9 a10 a11 a12 a13).s = a2 := rfl
@[simp] theorem De.n_mk (a0 a1 a2 a3 a4 a5 a6 a7 a8 a9 a10 a11 a12 a13) : (De.mk a0 a1 a2 a3 a4 a5 a6 a7 a8 a9 a10 a11 a12 a13).n = a3 := rfl
@[simp] theorem De.type_mk (a0 a1 a2 a3 a4 a5 a6 a7 a8 a9 a10 a11 a12 a13) : (De.mk a0 a1 a2 a3 a4 a5 a6 a7 a8 a9 a10 a11 a12 a13).type = a4 := rfl
@[simp] theorem De.cons_mk (a0 a1 a2 a3 a4 a5 a6 a7 a8 a9 a10 a11 a12 a13) : (De.mk a0 a1 a2 a3 a4 a5 a6 a7 a8 a9 a10 a11 a12 a13).cons = a5 := rfl
@[simp] theorem De.derivs_mk (a0 a1 a2 a3 a4 a5 a6 a7 a8 a9 a10 a11 a12 a13) : (De.mk a0 a1 a2 a3 a4 a5 a6 a7 a8 a9 a10 a11 a12 a13).derivs = a6 := rfl
@[simp] theorem De.eqs_mk (a0 a1 a2 a3 a4 a5 a6 a7 a8 a9 a10 a11 a12 a13) : (De.mk a0 a1 a2 a3 a4 a5 a6 a7 a8 a9 a10 a11 a12 a13).eqs = a7 := rfl
@[simp] theorem De.vars_mk (a0 a1 a2 a3 a4 a5 a6 a7 a8 a9 a10 a11 a12 a13) : (De.mk a0 a1 a2 a3 a4 a5 a6 a7 a8 a9 a10 a11 a12 a13).vars = a8 := rfl
@[simp] theorem De.context_mk (a0 a1 a2 a3 a4 a5 a6 a7 a8 a9 a10 a11 a12 a13) : (De.mk a0 a1 a2 a3 a4 a5 a6 a7 a8 a9 a10 a11 a12 a13).context = a9 := rfl
@[simp] theorem De.deps_mk (a0 a1 a2 a3 a4 a5 a6 a7 a8 a9 a10 a11 a12 a13) : (De.mk a0 a1 a2 a3 a4 a5 a6 a7 a8 a9 a10 a11 a12 a13).deps = a10 := rfl
@[simp] theorem De.sigs_mk (a0 a1 a2 a3 a4 a5 a6 a7 a8 a9 a10 a11 a12 a13) : (De.mk a0 a1 a2 a3 a4 a5 a6 a7 a8 a9 a10 a11 a12 a13).sigs = a11 := rfl
@[simp] theorem De.alts_mk (a0 a1 a2 a3 a4 a5 a6 a7 a8 a9 a10 a11 a12 a13) : (De.mk a0 a1 a2 a3 a4 a5 a6 a7 a8 a9 a10 a11 a12 a13).alts = a12 := rfl
@[simp] theorem De.decls_mk (a0 a1 a2 a3 a4 a5 a6 a7 a8 a9 a10 a11 a12 a13) : (De.mk a0 a1 a2 a3 a4 a5 a6 a7 a8 a9 a10 a11 a12 a13).decls = a13 := rfl
theorem De.ext' {x y : De} (h0 : x.op = y.op) (h1 : x.name = y.name) (h2 : x.s = y.s) (h3 : x.n = y.n) (h4 : x.type = y.type) (h5 : x.cons = y.cons) (h6 : x.derivs = y.derivs) (h7 : x.eqs = y.eqs) (h8 : x.vars = y.vars) (h9 : x.context = y.context) (h10 : x.deps = y.deps) (h11 : x.sigs = y.sigs) (h12 : x.alts = y.alts) (h13 : x.decls = y.decls) : x = y := by
  rw [← De.eta x, ← De.eta y, h0, h1, h2, h3, h4, h5, h6, h7, h8, h9, h10, h11, h12, h13]
theorem Mo.eta (x : Mo) : Mo.mk x.name x.all x.exports x.imports x.decls = x := rfl
theorem Mo.ext' {x y : Mo} (h0 : x.name = y.name) (h1 : x.all = y.all) (h2 : x.exports = y.exports) (h3 : x.imports = y.imports) (h4 : x.decls = y.decls) : x = y := by
  rw [← Mo.eta x, ← Mo.eta y, h0, h1, h2, h3, h4]
theorem Ty.cells_len (x : Ty) : x.cells.length = 4 := by cases x; simp [Ty.cells_mk]
theorem Ty.cells_eq (x : Ty) : x.cells = [.int .i64 x.op] ++ [.int .i64 x.n] ++ [.str x.s] ++ [.sl (x.args.map Ty.cells) .no] := by cases x; simp [Ty.cells_mk]
theorem Ty.at_op (x : Ty) : x.cells[0]? = some (.int .i64 x.op) := by
  rw [Ty.cells_eq]; simp [List.getElem?_append]
theorem Ty.at_n (x : Ty) : x.cells[1]? = some (.int .i64 x.n) := by
  rw [Ty.cells_eq]; simp [List.getElem?_append]
theorem Ty.at_s (x : Ty) : x.cells[2]? = some (.str x.s) := by
  rw [Ty.cells_eq]; simp [List.getElem?_append]
theorem Ty.at_args (x : Ty) : x.cells[3]? = some (.sl (x.args.map Ty.cells) .no) := by
  rw [Ty.cells_eq]; simp [List.getElem?_append]
theorem Ty.take_all (x : Ty) : x.cells.take 4 = x.cells := List.take_of_length_le (by rw [Ty.cells_len]; exact Nat.le_refl _)
theorem Ty.all_one (x : Ty) : x.cells.all AVal.one = true := by rw [Ty.cells_eq]; simp only [List.all_append, List.all_cons, List.all_nil, AVal.one, Bool.and_true, Bool.true_and, cS]
attribute [go_sem] Ty.cells_len Ty.take_all Ty.all_one Ty.at_op Ty.at_n Ty.at_s Ty.at_args
theorem Ty.rows_len (l : List Ty) : ∀ r ∈ l.map Ty.cells, r.length = 4 := fun r hr => by
  obtain ⟨x, _, rfl⟩ := List.mem_map.1 hr; exact x.cells_len
theorem Ty.iaddr {l : List Ty} {i : Nat} {x : Ty} (h : l[i]? = some x) : iaddrA 4 (l.map Ty.cells) (i : Int) = some (.ip x.cells) := iaddrA_at (by simp [h]) x.cells_len.symm
theorem Pa.cells_len (x : Pa) : x.cells.length = 4 := by cases x; simp [Pa.cells_mk]
theorem Pa.cells_eq (x : Pa) : x.cells = [.int .i64 x.op] ++ [.str x.s] ++ [.int .i64 x.n] ++ [.sl (x.args.map Pa.cells) .no] := by cases x; simp [Pa.cells_mk]
theorem Pa.at_op (x : Pa) : x.cells[0]? = some (.int .i64 x.op) := by
  rw [Pa.cells_eq]; simp [List.getElem?_append]
theorem Pa.at_s (x : Pa) : x.cells[1]? = some (.str x.s) := by
  rw [Pa.cells_eq]; simp [List.getElem?_append]
theorem Pa.at_n (x : Pa) : x.cells[2]? = some (.int .i64 x.n) := by
  rw [Pa.cells_eq]; simp [List.getElem?_append]
theorem Pa.at_args (x : Pa) : x.cells[3]? = some (.sl (x.args.map Pa.cells) .no) := by
  rw [Pa.cells_eq]; simp [List.getElem?_append]
theorem Pa.take_all (x : Pa) : x.cells.take 4 = x.cells := List.take_of_length_le (by rw [Pa.cells_len]; exact Nat.le_refl _)
theorem Pa.all_one (x : Pa) : x.cells.all AVal.one = true := by rw [Pa.cells_eq]; simp only [List.all_append, List.all_cons, List.all_nil, AVal.one, Bool.and_true, Bool.true_and, cS]
attribute [go_sem] Pa.cells_len Pa.take_all Pa.all_one Pa.at_op Pa.at_s Pa.at_n Pa.at_args
theorem Pa.rows_len (l : List Pa) : ∀ r ∈ l.map Pa.cells, r.length = 4 := fun r hr => by
  obtain ⟨x, _, rfl⟩ := List.mem_map.1 hr; exact x.cells_len
theorem Pa.iaddr {l : List Pa} {i : Nat} {x : Pa} (h : l[i]? = some x) : iaddrA 4 (l.map Pa.cells) (i : Int) = some (.ip x.cells) := iaddrA_at (by simp [h]) x.cells_len.symm
theorem Co.cells_len (x : Co) : x.cells.length = 6 := by simp [Co.cells, Ty.cells_len]
theorem Co.cells_eq (x : Co) : x.cells = [.str x.name] ++ x.type.cells ++ [cS x.fields] := by simp [Co.cells]
theorem Co.at_name (x : Co) : x.cells[0]? = some (.str x.name) := by
  rw [Co.cells_eq]; simp [List.getElem?_append, Ty.cells_len]
theorem Co.sub_type (x : Co) : (x.cells.drop 1).take 4 = x.type.cells := by
  rw [Co.cells_eq]; simp [List.drop_append, List.take_append, Ty.cells_len, Ty.cells_len, List.take_of_length_le, List.drop_of_length_le]
theorem Co.at_fields (x : Co) : x.cells[5]? = some (cS x.fields) := by
  rw [Co.cells_eq]; simp [List.getElem?_append, Ty.cells_len]
theorem Co.take_all (x : Co) : x.cells.take 6 = x.cells := List.take_of_length_le (by rw [Co.cells_len]; exact Nat.le_refl _)
theorem Co.all_one (x : Co) : x.cells.all AVal.one = true := by rw [Co.cells_eq]; simp only [List.all_append, List.all_cons, List.all_nil, AVal.one, Bool.and_true, Bool.true_and, cS, Ty.all_one]
attribute [go_sem] Co.cells_len Co.take_all Co.all_one Co.at_name Co.sub_type Co.at_fields
theorem Co.rows_len (l : List Co) : ∀ r ∈ l.map Co.cells, r.length = 6 := fun r hr => by
  obtain ⟨x, _, rfl⟩ := List.mem_map.1 hr; exact x.cells_len
theorem Co.iaddr {l : List Co} {i : Nat} {x : Co} (h : l[i]? = some x) : iaddrA 6 (l.map Co.cells) (i : Int) = some (.ip x.cells) := iaddrA_at (by simp [h]) x.cells_len.symm
theorem Eqn.cells_len (x : Eqn) : x.cells.length = 8 := by simp [Eqn.cells, Ty.cells_len]
theorem Eqn.cells_eq (x : Eqn) : x.cells = x.left.cells ++ x.right.cells := by simp [Eqn.cells]
theorem Eqn.sub_left (x : Eqn) : (x.cells.drop 0).take 4 = x.left.cells := by
  rw [Eqn.cells_eq]; simp [List.drop_append, List.take_append, Ty.cells_len, Ty.cells_len, List.take_of_length_le, List.drop_of_length_le]
theorem Eqn.sub0_left (x : Eqn) : x.cells.take 4 = x.left.cells := by
  have := Eqn.sub_left x; rwa [List.drop_zero] at this
attribute [go_sem] Eqn.sub0_left
theorem Eqn.sub_right (x : Eqn) : (x.cells.drop 4).take 4 = x.right.cells := by
  rw [Eqn.cells_eq]; simp [List.drop_append, List.take_append, Ty.cells_len, Ty.cells_len, List.take_of_length_le, List.drop_of_length_le]
theorem Eqn.take_all (x : Eqn) : x.cells.take 8 = x.cells := List.take_of_length_le (by rw [Eqn.cells_len]; exact Nat.le_refl _)
theorem Eqn.all_one (x : Eqn) : x.cells.all AVal.one = true := by rw [Eqn.cells_eq]; simp only [List.all_append, List.all_cons, List.all_nil, AVal.one, Bool.and_true, Bool.true_and, cS, Ty.all_one]
attribute [go_sem] Eqn.cells_len Eqn.take_all Eqn.all_one Eqn.sub_left Eqn.sub_right
theorem Eqn.rows_len (l : List Eqn) : ∀ r ∈ l.map Eqn.cells, r.length = 8 := fun r hr => by
  obtain ⟨x, _, rfl⟩ := List.mem_map.1 hr; exact x.cells_len
theorem Eqn.iaddr {l : List Eqn} {i : Nat} {x : Eqn} (h : l[i]? = some x) : iaddrA 8 (l.map Eqn.cells) (i : Int) = some (.ip x.cells) := iaddrA_at (by simp [h]) x.cells_len.symm
theorem Bi.cells_len (x : Bi) : x.cells.length = 5 := by simp [Bi.cells, Ty.cells_len]
theorem Bi.cells_eq (x : Bi) : x.cells = [.str x.name] ++ x.kind.cells := by simp [Bi.cells]
theorem Bi.at_name (x : Bi) : x.cells[0]? = some (.str x.name) := by
  rw [Bi.cells_eq]; simp [List.getElem?_append, Ty.cells_len]
theorem Bi.sub_kind (x : Bi) : (x.cells.drop 1).take 4 = x.kind.cells := by
  rw [Bi.cells_eq]; simp [List.drop_append, List.take_append, Ty.cells_len, Ty.cells_len, List.take_of_length_le, List.drop_of_length_le]
theorem Bi.take_all (x : Bi) : x.cells.take 5 = x.cells := List.take_of_length_le (by rw [Bi.cells_len]; exact Nat.le_refl _)
theorem Bi.all_one (x : Bi) : x.cells.all AVal.one = true := by rw [Bi.cells_eq]; simp only [List.all_append, List.all_cons, List.all_nil, AVal.one, Bool.and_true, Bool.true_and, cS, Ty.all_one]
attribute [go_sem] Bi.cells_len Bi.take_all Bi.all_one Bi.at_name Bi.sub_kind
theorem Bi.rows_len (l : List Bi) : ∀ r ∈ l.map Bi.cells, r.length = 5 := fun r hr => by
  obtain ⟨x, _, rfl⟩ := List.mem_map.1 hr; exact x.cells_len
theorem Bi.iaddr {l : List Bi} {i : Nat} {x : Bi} (h : l[i]? = some x) : iaddrA 5 (l.map Bi.cells) (i : Int) = some (.ip x.cells) := iaddrA_at (by simp [h]) x.cells_len.symm
theorem Dp.cells_len (x : Dp) : x.cells.length = 2 := by simp [Dp.cells]
theorem Dp.cells_eq (x : Dp) : x.cells = [cS x.fr] ++ [cS x.to] := by simp [Dp.cells]
theorem Dp.at_fr (x : Dp) : x.cells[0]? = some (cS x.fr) := by
  rw [Dp.cells_eq]; simp [List.getElem?_append]
theorem Dp.at_to (x : Dp) : x.cells[1]? = some (cS x.to) := by
  rw [Dp.cells_eq]; simp [List.getElem?_append]
theorem Dp.take_all (x : Dp) : x.cells.take 2 = x.cells := List.take_of_length_le (by rw [Dp.cells_len]; exact Nat.le_refl _)
theorem Dp.all_one (x : Dp) : x.cells.all AVal.one = true := by rw [Dp.cells_eq]; simp only [List.all_append, List.all_cons, List.all_nil, AVal.one, Bool.and_true, Bool.true_and, cS]
attribute [go_sem] Dp.cells_len Dp.take_all Dp.all_one Dp.at_fr Dp.at_to
theorem Dp.rows_len (l : List Dp) : ∀ r ∈ l.map Dp.cells, r.length = 2 := fun r hr => by
  obtain ⟨x, _, rfl⟩ := List.mem_map.1 hr; exact x.cells_len
theorem Dp.iaddr {l : List Dp} {i : Nat} {x : Dp} (h : l[i]? = some x) : iaddrA 2 (l.map Dp.cells) (i : Int) = some (.ip x.cells) := iaddrA_at (by simp [h]) x.cells_len.symm
theorem Sg.cells_len (x : Sg) : x.cells.length = 5 := by simp [Sg.cells, Ty.cells_len]
theorem Sg.cells_eq (x : Sg) : x.cells = [.str x.name] ++ x.type.cells := by simp [Sg.cells]
theorem Sg.at_name (x : Sg) : x.cells[0]? = some (.str x.name) := by
  rw [Sg.cells_eq]; simp [List.getElem?_append, Ty.cells_len]
theorem Sg.sub_type (x : Sg) : (x.cells.drop 1).take 4 = x.type.cells := by
  rw [Sg.cells_eq]; simp [List.drop_append, List.take_append, Ty.cells_len, Ty.cells_len, List.take_of_length_le, List.drop_of_length_le]
theorem Sg.take_all (x : Sg) : x.cells.take 5 = x.cells := List.take_of_length_le (by rw [Sg.cells_len]; exact Nat.le_refl _)
theorem Sg.all_one (x : Sg) : x.cells.all AVal.one = true := by rw [Sg.cells_eq]; simp only [List.all_append, List.all_cons, List.all_nil, AVal.one, Bool.and_true, Bool.true_and, cS, Ty.all_one]
attribute [go_sem] Sg.cells_len Sg.take_all Sg.all_one Sg.at_name Sg.sub_type
theorem Sg.rows_len (l : List Sg) : ∀ r ∈ l.map Sg.cells, r.length = 5 := fun r hr => by
  obtain ⟨x, _, rfl⟩ := List.mem_map.1 hr; exact x.cells_len
theorem Sg.iaddr {l : List Sg} {i : Nat} {x : Sg} (h : l[i]? = some x) : iaddrA 5 (l.map Sg.cells) (i : Int) = some (.ip x.cells) := iaddrA_at (by simp [h]) x.cells_len.symm
theorem Im.cells_len (x : Im) : x.cells.length = 3 := by simp [Im.cells]
theorem Im.cells_eq (x : Im) : x.cells = [.str x.mod] ++ [.bool x.all] ++ [cS x.names] := by simp [Im.cells]
theorem Im.at_mod (x : Im) : x.cells[0]? = some (.str x.mod) := by
  rw [Im.cells_eq]; simp [List.getElem?_append]
theorem Im.at_all (x : Im) : x.cells[1]? = some (.bool x.all) := by
  rw [Im.cells_eq]; simp [List.getElem?_append]
theorem Im.at_names (x : Im) : x.cells[2]? = some (cS x.names) := by
  rw [Im.cells_eq]; simp [List.getElem?_append]
theorem Im.take_all (x : Im) : x.cells.take 3 = x.cells := List.take_of_length_le (by rw [Im.cells_len]; exact Nat.le_refl _)
theorem Im.all_one (x : Im) : x.cells.all AVal.one = true := by rw [Im.cells_eq]; simp only [List.all_append, List.all_cons, List.all_nil, AVal.one, Bool.and_true, Bool.true_and, cS]
attribute [go_sem] Im.cells_len Im.take_all Im.all_one Im.at_mod Im.at_all Im.at_names
theorem Im.rows_len (l : List Im) : ∀ r ∈ l.map Im.cells, r.length = 3 := fun r hr => by
  obtain ⟨x, _, rfl⟩ := List.mem_map.1 hr; exact x.cells_len
theorem Im.iaddr {l : List Im} {i : Nat} {x : Im} (h : l[i]? = some x) : iaddrA 3 (l.map Im.cells) (i : Int) = some (.ip x.cells) := iaddrA_at (by simp [h]) x.cells_len.symm
theorem Ex.cells_len (x : Ex) : x.cells.length = 10 := by cases x; simp [Ex.cells_mk]
theorem Ex.cells_eq (x : Ex) : x.cells = [.int .i64 x.op] ++ [.str x.s] ++ [.int .i64 x.n] ++ [.sl (x.args.map Ex.cells) .no] ++ [.sl (x.types.map Ty.cells) .no] ++ [.sl (x.pats.map Pa.cells) .no] ++ [cS x.fields] ++ [.sl (x.decls.map De.cells) .no] ++ [.sl (x.alts.map Al.cells) .no] ++ [.sl (x.stmts.map St.cells) .no] := by cases x; simp [Ex.cells_mk]
theorem Ex.at_op (x : Ex) : x.cells[0]? = some (.int .i64 x.op) := by
  rw [Ex.cells_eq]; simp [List.getElem?_append]
theorem Ex.at_s (x : Ex) : x.cells[1]? = some (.str x.s) := by
  rw [Ex.cells_eq]; simp [List.getElem?_append]
theorem Ex.at_n (x : Ex) : x.cells[2]? = some (.int .i64 x.n) := by
  rw [Ex.cells_eq]; simp [List.getElem?_append]
theorem Ex.at_args (x : Ex) : x.cells[3]? = some (.sl (x.args.map Ex.cells) .no) := by
  rw [Ex.cells_eq]; simp [List.getElem?_append]
theorem Ex.at_types (x : Ex) : x.cells[4]? = some (.sl (x.types.map Ty.cells) .no) := by
  rw [Ex.cells_eq]; simp [List.getElem?_append]
theorem Ex.at_pats (x : Ex) : x.cells[5]? = some (.sl (x.pats.map Pa.cells) .no) := by
  rw [Ex.cells_eq]; simp [List.getElem?_append]
theorem Ex.at_fields (x : Ex) : x.cells[6]? = some (cS x.fields) := by
  rw [Ex.cells_eq]; simp [List.getElem?_append]
theorem Ex.at_decls (x : Ex) : x.cells[7]? = some (.sl (x.decls.map De.cells) .no) := by
  rw [Ex.cells_eq]; simp [List.getElem?_append]
theorem Ex.at_alts (x : Ex) : x.cells[8]? = some (.sl (x.alts.map Al.cells) .no) := by
  rw [Ex.cells_eq]; simp [List.getElem?_append]
theorem Ex.at_stmts (x : Ex) : x.cells[9]? = some (.sl (x.stmts.map St.cells) .no) := by
  rw [Ex.cells_eq]; simp [List.getElem?_append]
theorem Ex.take_all (x : Ex) : x.cells.take 10 = x.cells := List.take_of_length_le (by rw [Ex.cells_len]; exact Nat.le_refl _)
theorem Ex.all_one (x : Ex) : x.cells.all AVal.one = true := by rw [Ex.cells_eq]; simp only [List.all_append, List.all_cons, List.all_nil, AVal.one, Bool.and_true, Bool.true_and, cS]
attribute [go_sem] Ex.cells_len Ex.take_all Ex.all_one Ex.at_op Ex.at_s Ex.at_n Ex.at_args Ex.at_types Ex.at_pats Ex.at_fields Ex.at_decls Ex.at_alts Ex.at_stmts
theorem Ex.rows_len (l : List Ex) : ∀ r ∈ l.map Ex.cells, r.length = 10 := fun r hr => by
  obtain ⟨x, _, rfl⟩ := List.mem_map.1 hr; exact x.cells_len
theorem Ex.iaddr {l : List Ex} {i : Nat} {x : Ex} (h : l[i]? = some x) : iaddrA 10 (l.map Ex.cells) (i : Int) = some (.ip x.cells) := iaddrA_at (by simp [h]) x.cells_len.symm
theorem St.cells_len (x : St) : x.cells.length = 13 := by cases x; simp [St.cells_mk, Ex.cells_len]
theorem St.cells_eq (x : St) : x.cells = [.bool x.lt] ++ [.sl (x.pat.map Pa.cells) .no] ++ x.expr.cells ++ [.sl (x.decls.map De.cells) .no] := by cases x; simp [St.cells_mk]
theorem St.at_lt (x : St) : x.cells[0]? = some (.bool x.lt) := by
  rw [St.cells_eq]; simp [List.getElem?_append, Ex.cells_len]
theorem St.at_pat (x : St) : x.cells[1]? = some (.sl (x.pat.map Pa.cells) .no) := by
  rw [St.cells_eq]; simp [List.getElem?_append, Ex.cells_len]
theorem St.sub_expr (x : St) : (x.cells.drop 2).take 10 = x.expr.cells := by
  rw [St.cells_eq]; simp [List.drop_append, List.take_append, Ex.cells_len, Ex.cells_len, List.take_of_length_le, List.drop_of_length_le]
theorem St.at_decls (x : St) : x.cells[12]? = some (.sl (x.decls.map De.cells) .no) := by
  rw [St.cells_eq]; simp [List.getElem?_append, Ex.cells_len]
theorem St.take_all (x : St) : x.cells.take 13 = x.cells := List.take_of_length_le (by rw [St.cells_len]; exact Nat.le_refl _)
theorem St.all_one (x : St) : x.cells.all AVal.one = true := by rw [St.cells_eq]; simp only [List.all_append, List.all_cons, List.all_nil, AVal.one, Bool.and_true, Bool.true_and, cS, Ex.all_one]
attribute [go_sem] St.cells_len St.take_all St.all_one St.at_lt St.at_pat St.sub_expr St.at_decls
theorem St.rows_len (l : List St) : ∀ r ∈ l.map St.cells, r.length = 13 := fun r hr => by
  obtain ⟨x, _, rfl⟩ := List.mem_map.1 hr; exact x.cells_len
theorem St.iaddr {l : List St} {i : Nat} {x : St} (h : l[i]? = some x) : iaddrA 13 (l.map St.cells) (i : Int) = some (.ip x.cells) := iaddrA_at (by simp [h]) x.cells_len.symm
theorem Al.cells_len (x : Al) : x.cells.length = 3 := by cases x; simp [Al.cells_mk]
theorem Al.cells_eq (x : Al) : x.cells = [.sl (x.pats.map Pa.cells) .no] ++ [.sl (x.rhs.map Gu.cells) .no] ++ [.sl (x.wh.map De.cells) .no] := by cases x; simp [Al.cells_mk]
theorem Al.at_pats (x : Al) : x.cells[0]? = some (.sl (x.pats.map Pa.cells) .no) := by
  rw [Al.cells_eq]; simp [List.getElem?_append]
theorem Al.at_rhs (x : Al) : x.cells[1]? = some (.sl (x.rhs.map Gu.cells) .no) := by
  rw [Al.cells_eq]; simp [List.getElem?_append]
theorem Al.at_wh (x : Al) : x.cells[2]? = some (.sl (x.wh.map De.cells) .no) := by
  rw [Al.cells_eq]; simp [List.getElem?_append]
theorem Al.take_all (x : Al) : x.cells.take 3 = x.cells := List.take_of_length_le (by rw [Al.cells_len]; exact Nat.le_refl _)
theorem Al.all_one (x : Al) : x.cells.all AVal.one = true := by rw [Al.cells_eq]; simp only [List.all_append, List.all_cons, List.all_nil, AVal.one, Bool.and_true, Bool.true_and, cS]
attribute [go_sem] Al.cells_len Al.take_all Al.all_one Al.at_pats Al.at_rhs Al.at_wh
theorem Al.rows_len (l : List Al) : ∀ r ∈ l.map Al.cells, r.length = 3 := fun r hr => by
  obtain ⟨x, _, rfl⟩ := List.mem_map.1 hr; exact x.cells_len
theorem Al.iaddr {l : List Al} {i : Nat} {x : Al} (h : l[i]? = some x) : iaddrA 3 (l.map Al.cells) (i : Int) = some (.ip x.cells) := iaddrA_at (by simp [h]) x.cells_len.symm
theorem Gu.cells_len (x : Gu) : x.cells.length = 11 := by cases x; simp [Gu.cells_mk, Ex.cells_len]
theorem Gu.cells_eq (x : Gu) : x.cells = [.sl (x.cond.map Ex.cells) .no] ++ x.thn.cells := by cases x; simp [Gu.cells_mk]
theorem Gu.at_cond (x : Gu) : x.cells[0]? = some (.sl (x.cond.map Ex.cells) .no) := by
  rw [Gu.cells_eq]; simp [List.getElem?_append, Ex.cells_len]
theorem Gu.sub_thn (x : Gu) : (x.cells.drop 1).take 10 = x.thn.cells := by
  rw [Gu.cells_eq]; simp [List.drop_append, List.take_append, Ex.cells_len, Ex.cells_len, List.take_of_length_le, List.drop_of_length_le]
theorem Gu.take_all (x : Gu) : x.cells.take 11 = x.cells := List.take_of_length_le (by rw [Gu.cells_len]; exact Nat.le_refl _)
theorem Gu.all_one (x : Gu) : x.cells.all AVal.one = true := by rw [Gu.cells_eq]; simp only [List.all_append, List.all_cons, List.all_nil, AVal.one, Bool.and_true, Bool.true_and, cS, Ex.all_one]
attribute [go_sem] Gu.cells_len Gu.take_all Gu.all_one Gu.at_cond Gu.sub_thn
theorem Gu.rows_len (l : List Gu) : ∀ r ∈ l.map Gu.cells, r.length = 11 := fun r hr => by
  obtain ⟨x, _, rfl⟩ := List.mem_map.1 hr; exact x.cells_len
theorem Gu.iaddr {l : List Gu} {i : Nat} {x : Gu} (h : l[i]? = some x) : iaddrA 11 (l.map Gu.cells) (i : Int) = some (.ip x.cells) := iaddrA_at (by simp [h]) x.cells_len.symm
theorem De.cells_len (x : De) : x.cells.length = 17 := by cases x; simp [De.cells_mk, Ty.cells_len]
theorem De.cells_eq (x : De) : x.cells = [.int .i64 x.op] ++ [.str x.name] ++ [.str x.s] ++ [.int .i64 x.n] ++ x.type.cells ++ [.sl (x.cons.map Co.cells) .no] ++ [cS x.derivs] ++ [.sl (x.eqs.map Eqn.cells) .no] ++ [.sl (x.vars.map Bi.cells) .no] ++ [.sl (x.context.map Ty.cells) .no] ++ [.sl (x.deps.map Dp.cells) .no] ++ [.sl (x.sigs.map Sg.cells) .no] ++ [.sl (x.alts.map Al.cells) .no] ++ [.sl (x.decls.map De.cells) .no] := by cases x; simp [De.cells_mk]
theorem De.at_op (x : De) : x.cells[0]? = some (.int .i64 x.op) := by
  rw [De.cells_eq]; simp [List.getElem?_append, Ty.cells_len]
theorem De.at_name (x : De) : x.cells[1]? = some (.str x.name) := by
  rw [De.cells_eq]; simp [List.getElem?_append, Ty.cells_len]
theorem De.at_s (x : De) : x.cells[2]? = some (.str x.s) := by
  rw [De.cells_eq]; simp [List.getElem?_append, Ty.cells_len]
theorem De.at_n (x : De) : x.cells[3]? = some (.int .i64 x.n) := by
  rw [De.cells_eq]; simp [List.getElem?_append, Ty.cells_len]
theorem De.sub_type (x : De) : (x.cells.drop 4).take 4 = x.type.cells := by
  rw [De.cells_eq]; simp [List.drop_append, List.take_append, Ty.cells_len, Ty.cells_len, List.take_of_length_le, List.drop_of_length_le]
theorem De.at_cons (x : De) : x.cells[8]? = some (.sl (x.cons.map Co.cells) .no) := by
  rw [De.cells_eq]; simp [List.getElem?_append, Ty.cells_len]
theorem De.at_derivs (x : De) : x.cells[9]? = some (cS x.derivs) := by
  rw [De.cells_eq]; simp [List.getElem?_append, Ty.cells_len]
theorem De.at_eqs (x : De) : x.cells[10]? = some (.sl (x.eqs.map Eqn.cells) .no) := by
  rw [De.cells_eq]; simp [List.getElem?_append, Ty.cells_len]
theorem De.at_vars (x : De) : x.cells[11]? = some (.sl (x.vars.map Bi.cells) .no) := by
  rw [De.cells_eq]; simp [List.getElem?_append, Ty.cells_len]
theorem De.at_context (x : De) : x.cells[12]? = some (.sl (x.context.map Ty.cells) .no) := by
  rw [De.cells_eq]; simp [List.getElem?_append, Ty.cells_len]
theorem De.at_deps (x : De) : x.cells[13]? = some (.sl (x.deps.map Dp.cells) .no) := by
  rw [De.cells_eq]; simp [List.getElem?_append, Ty.cells_len]
theorem De.at_sigs (x : De) : x.cells[14]? = some (.sl (x.sigs.map Sg.cells) .no) := by
  rw [De.cells_eq]; simp [List.getElem?_append, Ty.cells_len]
theorem De.at_alts (x : De) : x.cells[15]? = some (.sl (x.alts.map Al.cells) .no) := by
  rw [De.cells_eq]; simp [List.getElem?_append, Ty.cells_len]
theorem De.at_decls (x : De) : x.cells[16]? = some (.sl (x.decls.map De.cells) .no) := by
  rw [De.cells_eq]; simp [List.getElem?_append, Ty.cells_len]
theorem De.take_all (x : De) : x.cells.take 17 = x.cells := List.take_of_length_le (by rw [De.cells_len]; exact Nat.le_refl _)
theorem De.all_one (x : De) : x.cells.all AVal.one = true := by rw [De.cells_eq]; simp only [List.all_append, List.all_cons, List.all_nil, AVal.one, Bool.and_true, Bool.true_and, cS, Ty.all_one]
attribute [go_sem] De.cells_len De.take_all De.all_one De.at_op De.at_name De.at_s De.at_n De.sub_type De.at_cons De.at_derivs De.at_eqs De.at_vars De.at_context De.at_deps De.at_sigs De.at_alts De.at_decls
theorem De.rows_len (l : List De) : ∀ r ∈ l.map De.cells, r.length = 17 := fun r hr => by
  obtain ⟨x, _, rfl⟩ := List.mem_map.1 hr; exact x.cells_len
theorem De.iaddr {l : List De} {i : Nat} {x : De} (h : l[i]? = some x) : iaddrA 17 (l.map De.cells) (i : Int) = some (.ip x.cells) := iaddrA_at (by simp [h]) x.cells_len.symm
theorem Mo.cells_len (x : Mo) : x.cells.length = 5 := by simp [Mo.cells]
theorem Mo.cells_eq (x : Mo) : x.cells = [.str x.name] ++ [.bool x.all] ++ [cS x.exports] ++ [.sl (x.imports.map Im.cells) .no] ++ [.sl (x.decls.map De.cells) .no] := by simp [Mo.cells]
theorem Mo.at_name (x : Mo) : x.cells[0]? = some (.str x.name) := by
  rw [Mo.cells_eq]; simp [List.getElem?_append]
theorem Mo.at_all (x : Mo) : x.cells[1]? = some (.bool x.all) := by
  rw [Mo.cells_eq]; simp [List.getElem?_append]
theorem Mo.at_exports (x : Mo) : x.cells[2]? = some (cS x.exports) := by
  rw [Mo.cells_eq]; simp [List.getElem?_append]
theorem Mo.at_imports (x : Mo) : x.cells[3]? = some (.sl (x.imports.map Im.cells) .no) := by
  rw [Mo.cells_eq]; simp [List.getElem?_append]
theorem Mo.at_decls (x : Mo) : x.cells[4]? = some (.sl (x.decls.map De.cells) .no) := by
  rw [Mo.cells_eq]; simp [List.getElem?_append]
theorem Mo.take_all (x : Mo) : x.cells.take 5 = x.cells := List.take_of_length_le (by rw [Mo.cells_len]; exact Nat.le_refl _)
theorem Mo.all_one (x : Mo) : x.cells.all AVal.one = true := by rw [Mo.cells_eq]; simp only [List.all_append, List.all_cons, List.all_nil, AVal.one, Bool.and_true, Bool.true_and, cS]
attribute [go_sem] Mo.cells_len Mo.take_all Mo.all_one Mo.at_name Mo.at_all Mo.at_exports Mo.at_imports Mo.at_decls
theorem Mo.rows_len (l : List Mo) : ∀ r ∈ l.map Mo.cells, r.length = 5 := fun r hr => by
  obtain ⟨x, _, rfl⟩ := List.mem_map.1 hr; exact x.cells_len
theorem Mo.iaddr {l : List Mo} {i : Nat} {x : Mo} (h : l[i]? = some x) : iaddrA 5 (l.map Mo.cells) (i : Int) = some (.ip x.cells) := iaddrA_at (by simp [h]) x.cells_len.symm
attribute [go_sem] List.getElem?_drop List.length_drop List.drop_drop List.length_map
end Go.Eng

/- Trees of which each list has a bounded length; what is laid for a call's own use. -/
set_option linter.unusedVariables false
set_option linter.unusedSimpArgs false
namespace Go.Eng



inductive Ty.Ok : Ty → Prop
  | mk {op n : Int} {s : Str} {args : List Ty} (hs : s.length ≤ 140737488355328) (hl : args.length ≤ 140737488355328) (h : ∀ x ∈ args, Ty.Ok x) : Ty.Ok (.mk op n s args)
inductive Pa.Ok : Pa → Prop
  | mk {op n : Int} {s : Str} {args : List Pa} (hs : s.length ≤ 140737488355328) (hl : args.length ≤ 140737488355328) (h : ∀ x ∈ args, Pa.Ok x) : Pa.Ok (.mk op s n args)
structure StrsOk (l : List Str) : Prop where
  len : l.length ≤ 140737488355328
  all : ∀ w ∈ l, w.length ≤ 140737488355328
structure Co.Ok (c : Co) : Prop where
  name : c.name.length ≤ 140737488355328
  type : c.type.Ok
  fields : StrsOk c.fields
structure Eqn.Ok (c : Eqn) : Prop where
  left : c.left.Ok
  right : c.right.Ok
structure Bi.Ok (c : Bi) : Prop where
  name : c.name.length ≤ 140737488355328
  kind : c.kind.Ok
structure Dp.Ok (c : Dp) : Prop where
  fr : StrsOk c.fr
  to : StrsOk c.to
structure Sg.Ok (c : Sg) : Prop where
  name : c.name.length ≤ 140737488355328
  type : c.type.Ok
structure Im.Ok (c : Im) : Prop where
  mod : c.mod.length ≤ 140737488355328
  names : StrsOk c.names
mutual
inductive Ex.Ok : Ex → Prop
  | mk {op : Int} {s : Str} {n : Int} {args : List Ex} {types : List Ty} {pats : List Pa} {fields : List Str} {decls : List De} {alts : List Al} {stmts : List St}
      (hs : s.length ≤ 140737488355328) (l1 : args.length ≤ 140737488355328) (h1 : ∀ x ∈ args, Ex.Ok x) (l2 : types.length ≤ 140737488355328) (h2 : ∀ x ∈ types, Ty.Ok x) (l3 : pats.length ≤ 140737488355328) (h3 : ∀ x ∈ pats, Pa.Ok x) (h4 : StrsOk fields)
      (l5 : decls.length ≤ 140737488355328) (h5 : ∀ x ∈ decls, De.Ok x) (l6 : alts.length ≤ 140737488355328) (h6 : ∀ x ∈ alts, Al.Ok x) (l7 : stmts.length ≤ 140737488355328) (h7 : ∀ x ∈ stmts, St.Ok x) : Ex.Ok (.mk op s n args types pats fields decls alts stmts)
inductive St.Ok : St → Prop
  | mk {lt : Bool} {pat : List Pa} {expr : Ex} {decls : List De} (l1 : pat.length ≤ 140737488355328) (h1 : ∀ x ∈ pat, Pa.Ok x) (h2 : Ex.Ok expr) (l3 : decls.length ≤ 140737488355328) (h3 : ∀ x ∈ decls, De.Ok x) : St.Ok (.mk lt pat expr decls)
inductive Al.Ok : Al → Prop
  | mk {pats : List Pa} {rhs : List Gu} {wh : List De} (l1 : pats.length ≤ 140737488355328) (h1 : ∀ x ∈ pats, Pa.Ok x) (l2 : rhs.length ≤ 140737488355328) (h2 : ∀ x ∈ rhs, Gu.Ok x) (l3 : wh.length ≤ 140737488355328) (h3 : ∀ x ∈ wh, De.Ok x) : Al.Ok (.mk pats rhs wh)
inductive Gu.Ok : Gu → Prop
  | mk {cond : List Ex} {thn : Ex} (l1 : cond.length ≤ 140737488355328) (h1 : ∀ x ∈ cond, Ex.Ok x) (h2 : Ex.Ok thn) : Gu.Ok (.mk cond thn)
inductive De.Ok : De → Prop
  | mk {op : Int} {name s : Str} {n : Int} {type : Ty} {cons : List Co} {derivs : List Str} {eqs : List Eqn} {vars : List Bi} {context : List Ty} {deps : List Dp} {sigs : List Sg} {alts : List Al} {decls : List De}
      (h0 : name.length ≤ 140737488355328) (h1 : s.length ≤ 140737488355328) (h2 : type.Ok) (l3 : cons.length ≤ 140737488355328) (h3 : ∀ x ∈ cons, Co.Ok x) (h4 : StrsOk derivs) (l5 : eqs.length ≤ 140737488355328) (h5 : ∀ x ∈ eqs, Eqn.Ok x) (l6 : vars.length ≤ 140737488355328) (h6 : ∀ x ∈ vars, Bi.Ok x)
      (l7 : context.length ≤ 140737488355328) (h7 : ∀ x ∈ context, Ty.Ok x) (l8 : deps.length ≤ 140737488355328) (h8 : ∀ x ∈ deps, Dp.Ok x) (l9 : sigs.length ≤ 140737488355328) (h9 : ∀ x ∈ sigs, Sg.Ok x) (l10 : alts.length ≤ 140737488355328) (h10 : ∀ x ∈ alts, Al.Ok x)
      (l11 : decls.length ≤ 140737488355328) (h11 : ∀ x ∈ decls, De.Ok x) : De.Ok (.mk op name s n type cons derivs eqs vars context deps sigs alts decls)
end
structure Mo.Ok (m : Mo) : Prop where
  name : m.name.length ≤ 140737488355328
  exports : StrsOk m.exports
  importsL : m.imports.length ≤ 140737488355328
  imports : ∀ x ∈ m.imports, Im.Ok x
  declsL : m.decls.length ≤ 140737488355328
  decls : ∀ x ∈ m.decls, De.Ok x

theorem Ty.Ok.s {t : Ty} (h : t.Ok) : t.s.length ≤ 140737488355328 := by cases h; assumption
theorem Ty.Ok.argsL {t : Ty} (h : t.Ok) : t.args.length ≤ 140737488355328 := by cases h; assumption
theorem Ty.Ok.args {t : Ty} (h : t.Ok) : ∀ x ∈ t.args, x.Ok := by cases h; assumption
theorem Pa.Ok.s {t : Pa} (h : t.Ok) : t.s.length ≤ 140737488355328 := by cases h; assumption
theorem Pa.Ok.argsL {t : Pa} (h : t.Ok) : t.args.length ≤ 140737488355328 := by cases h; assumption
theorem Pa.Ok.args {t : Pa} (h : t.Ok) : ∀ x ∈ t.args, x.Ok := by cases h; assumption
theorem Ex.Ok.s {t : Ex} (h : t.Ok) : t.s.length ≤ 140737488355328 := by cases h; assumption
theorem Ex.Ok.argsL {t : Ex} (h : t.Ok) : t.args.length ≤ 140737488355328 := by cases h; assumption
theorem Ex.Ok.args {t : Ex} (h : t.Ok) : ∀ x ∈ t.args, x.Ok := by cases h; assumption
theorem Ex.Ok.typesL {t : Ex} (h : t.Ok) : t.types.length ≤ 140737488355328 := by cases h; assumption
theorem Ex.Ok.types {t : Ex} (h : t.Ok) : ∀ x ∈ t.types, x.Ok := by cases h; assumption
theorem Ex.Ok.patsL {t : Ex} (h : t.Ok) : t.pats.length ≤ 140737488355328 := by cases h; assumption
theorem Ex.Ok.pats {t : Ex} (h : t.Ok) : ∀ x ∈ t.pats, x.Ok := by cases h; assumption
theorem Ex.Ok.fields {t : Ex} (h : t.Ok) : StrsOk t.fields := by cases h; assumption
theorem Ex.Ok.declsL {t : Ex} (h : t.Ok) : t.decls.length ≤ 140737488355328 := by cases h; assumption
theorem Ex.Ok.decls {t : Ex} (h : t.Ok) : ∀ x ∈ t.decls, x.Ok := by cases h; assumption
theorem Ex.Ok.altsL {t : Ex} (h : t.Ok) : t.alts.length ≤ 140737488355328 := by cases h; assumption
theorem Ex.Ok.alts {t : Ex} (h : t.Ok) : ∀ x ∈ t.alts, x.Ok := by cases h; assumption
theorem Ex.Ok.stmtsL {t : Ex} (h : t.Ok) : t.stmts.length ≤ 140737488355328 := by cases h; assumption
theorem Ex.Ok.stmts {t : Ex} (h : t.Ok) : ∀ x ∈ t.stmts, x.Ok := by cases h; assumption
theorem St.Ok.patL {t : St} (h : t.Ok) : t.pat.length ≤ 140737488355328 := by cases h; assumption
theorem St.Ok.pat {t : St} (h : t.Ok) : ∀ x ∈ t.pat, x.Ok := by cases h; assumption
theorem St.Ok.expr {t : St} (h : t.Ok) : t.expr.Ok := by cases h; assumption
theorem St.Ok.declsL {t : St} (h : t.Ok) : t.decls.length ≤ 140737488355328 := by cases h; assumption
theorem St.Ok.decls {t : St} (h : t.Ok) : ∀ x ∈ t.decls, x.Ok := by cases h; assumption
theorem Al.Ok.patsL {t : Al} (h : t.Ok) : t.pats.length ≤ 140737488355328 := by cases h; assumption
theorem Al.Ok.pats {t : Al} (h : t.Ok) : ∀ x ∈ t.pats, x.Ok := by cases h; assumption
theorem Al.Ok.rhsL {t : Al} (h : t.Ok) : t.rhs.length ≤ 140737488355328 := by cases h; assumption
theorem Al.Ok.rhs {t : Al} (h : t.Ok) : ∀ x ∈ t.rhs, x.Ok := by cases h; assumption
theorem Al.Ok.whL {t : Al} (h : t.Ok) : t.wh.length ≤ 140737488355328 := by cases h; assumption
theorem Al.Ok.wh {t : Al} (h : t.Ok) : ∀ x ∈ t.wh, x.Ok := by cases h; assumption
theorem Gu.Ok.condL {t : Gu} (h : t.Ok) : t.cond.length ≤ 140737488355328 := by cases h; assumption
theorem Gu.Ok.cond {t : Gu} (h : t.Ok) : ∀ x ∈ t.cond, x.Ok := by cases h; assumption
theorem Gu.Ok.thn {t : Gu} (h : t.Ok) : t.thn.Ok := by cases h; assumption
theorem De.Ok.name {t : De} (h : t.Ok) : t.name.length ≤ 140737488355328 := by cases h; assumption
theorem De.Ok.s {t : De} (h : t.Ok) : t.s.length ≤ 140737488355328 := by cases h; assumption
theorem De.Ok.type {t : De} (h : t.Ok) : t.type.Ok := by cases h; assumption
theorem De.Ok.consL {t : De} (h : t.Ok) : t.cons.length ≤ 140737488355328 := by cases h; assumption
theorem De.Ok.cons {t : De} (h : t.Ok) : ∀ x ∈ t.cons, x.Ok := by cases h; assumption
theorem De.Ok.derivs {t : De} (h : t.Ok) : StrsOk t.derivs := by cases h; assumption
theorem De.Ok.eqsL {t : De} (h : t.Ok) : t.eqs.length ≤ 140737488355328 := by cases h; assumption
theorem De.Ok.eqs {t : De} (h : t.Ok) : ∀ x ∈ t.eqs, x.Ok := by cases h; assumption
theorem De.Ok.varsL {t : De} (h : t.Ok) : t.vars.length ≤ 140737488355328 := by cases h; assumption
theorem De.Ok.vars {t : De} (h : t.Ok) : ∀ x ∈ t.vars, x.Ok := by cases h; assumption
theorem De.Ok.contextL {t : De} (h : t.Ok) : t.context.length ≤ 140737488355328 := by cases h; assumption
theorem De.Ok.context {t : De} (h : t.Ok) : ∀ x ∈ t.context, x.Ok := by cases h; assumption
theorem De.Ok.depsL {t : De} (h : t.Ok) : t.deps.length ≤ 140737488355328 := by cases h; assumption
theorem De.Ok.deps {t : De} (h : t.Ok) : ∀ x ∈ t.deps, x.Ok := by cases h; assumption
theorem De.Ok.sigsL {t : De} (h : t.Ok) : t.sigs.length ≤ 140737488355328 := by cases h; assumption
theorem De.Ok.sigs {t : De} (h : t.Ok) : ∀ x ∈ t.sigs, x.Ok := by cases h; assumption
theorem De.Ok.altsL {t : De} (h : t.Ok) : t.alts.length ≤ 140737488355328 := by cases h; assumption
theorem De.Ok.alts {t : De} (h : t.Ok) : ∀ x ∈ t.alts, x.Ok := by cases h; assumption
theorem De.Ok.declsL {t : De} (h : t.Ok) : t.decls.length ≤ 140737488355328 := by cases h; assumption
theorem De.Ok.decls {t : De} (h : t.Ok) : ∀ x ∈ t.decls, x.Ok := by cases h; assumption

/-! ### What is laid for a call's own use -/
theorem le_self (H : Hp) : H.le H := fun _ _ h => h
theorem le_new {H0 H : Hp} (h : H0.le H) {id : Nat} (hid : H id = none) (o : Ob) : H0.le (H.upd id o) := fun i ob hi => le_upd hid i ob (h i ob hi)
/-- An object of the call's own is written. -/
theorem le_set {H0 H : Hp} (h : H0.le H) {id : Nat} (hid : H0 id = none) (o : Ob) : H0.le (H.upd id o) := fun i ob hi => by
  rw [Hp.upd_ne]
  · exact h i ob hi
  · intro e; subst e; rw [hid] at hi; cases hi
theorem le_tr {H H' H'' : Hp} (h : H.le H') (k : H'.le H'') : H.le H'' := fun i o hi => k i o (h i o hi)

theorem newCells_intro {cs : List AVal} {H : Hp} {R : Res} {ds : List ADef} (h : ∀ id, H id = none → R (.ref id 0) (H.upd id (.cells cs)) ds) : newCells cs H R ds := h
theorem boxed_intro {v : AVal} {H : Hp} {R : Res} {ds : List ADef} (hk : v.known = true) (h : ∀ id, H id = none → R (.ref id 0) (H.upd id (.cells v.cells)) ds) : boxed v H R ds := ⟨hk, h⟩
theorem ne_of_new {H : Hp} {i j : Nat} {o : Ob} (hi : H i = some o) (hj : H j = none) : i ≠ j := fun e => by subst e; rw [hi] at hj; cases hj

theorem endB {b c : Bool} {H H' : Hp} (hl : H.le H') (h : b = c) : ∃ v', ARet.ret (.bool b) = .ret v' ∧ Wk v' (.bool c) ∧ H.le H' := ⟨_, rfl, by rw [h]; exact .refl _, hl⟩
theorem take_eq_all {α : Type} {a b : List α} (hl : a.length = b.length) (h : a.take a.length = b.take a.length) : a = b := by
  rw [List.take_length, hl, List.take_length] at h; exact h
theorem take_step {α : Type} {a b : List α} {i : Nat} {x y : α} (h : a.take i = b.take i) (hx : a[i]? = some x) (hy : b[i]? = some y) (e : x = y) : a.take (i + 1) = b.take (i + 1) := by
  rw [List.take_add_one, List.take_add_one, hx, hy, h, e]
theorem cS_rows (l : List Str) : cS l = .sl (strRows l) .no := rfl
/-- Are two things equal? -/
noncomputable def dE {α : Type} (x y : α) : Bool := @decide (x = y) (Classical.propDecidable _)
theorem dE_true {α : Type} {x y : α} : dE x y = true ↔ x = y := by simp [dE]
theorem dE_false {α : Type} {x y : α} : dE x y = false ↔ x ≠ y := by simp [dE]
theorem dE_self {α : Type} (x : α) : dE x x = true := dE_true.2 rfl
theorem iEq_dE (a b : Int) : iEq a b = dE a b := by
  by_cases h : a = b
  · subst h; rw [iEq_self, dE_self]
  · rw [dE_false.2 h]; exact iEq_false.2 h
theorem sEq_dE (a b : Str) : sEq a b = dE a b := by
  by_cases h : a = b
  · subst h; rw [sEq_self, dE_self]
  · rw [dE_false.2 h]; exact sEq_false.2 h
theorem bEq_dE (a b : Bool) : bEq a b = dE a b := by
  by_cases h : a = b
  · subst h; rw [bEq_self, dE_self]
  · rw [dE_false.2 h]; cases a <;> cases b <;> first | rfl | exact absurd rfl h
end Go.Eng

