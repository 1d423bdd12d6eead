/- MADE BY PROGRAM (wip/tools/structs.py): two structs are equal where all their parts are. -/
import Derived.Test.YtmpoklkgdcofbaaGreatDoorG11E44T2
set_option linter.unusedVariables false
set_option linter.unusedSimpArgs false
namespace Go.Eng

theorem Ty.dE_eq (a b : Ty) : dE a b = (dE a.op b.op && dE a.n b.n && dE a.s b.s && dE a.args b.args) := by
  rw [Bool.eq_iff_iff]
  simp only [Bool.and_eq_true, dE_true]
  refine ⟨fun e => by subst e; simp, fun h => ?_⟩
  obtain ⟨⟨⟨h0, h1⟩, h2⟩, h3⟩ := h
  exact Ty.ext' h0 h1 h2 h3
theorem Pa.dE_eq (a b : Pa) : dE a b = (dE a.op b.op && dE a.s b.s && dE a.n b.n && dE a.args b.args) := by
  rw [Bool.eq_iff_iff]
  simp only [Bool.and_eq_true, dE_true]
  refine ⟨fun e => by subst e; simp, fun h => ?_⟩
  obtain ⟨⟨⟨h0, h1⟩, h2⟩, h3⟩ := h
  exact Pa.ext' h0 h1 h2 h3
theorem Co.dE_eq (a b : Co) : dE a b = (dE a.name b.name && dE a.type b.type && dE a.fields b.fields) := by
  rw [Bool.eq_iff_iff]
  simp only [Bool.and_eq_true, dE_true]
  refine ⟨fun e => by subst e; simp, fun h => ?_⟩
  obtain ⟨⟨h0, h1⟩, h2⟩ := h
  exact Co.ext' h0 h1 h2
theorem Eqn.dE_eq (a b : Eqn) : dE a b = (dE a.left b.left && dE a.right b.right) := by
  rw [Bool.eq_iff_iff]
  simp only [Bool.and_eq_true, dE_true]
  refine ⟨fun e => by subst e; simp, fun h => ?_⟩
  obtain ⟨h0, h1⟩ := h
  exact Eqn.ext' h0 h1
theorem Bi.dE_eq (a b : Bi) : dE a b = (dE a.name b.name && dE a.kind b.kind) := by
  rw [Bool.eq_iff_iff]
  simp only [Bool.and_eq_true, dE_true]
  refine ⟨fun e => by subst e; simp, fun h => ?_⟩
  obtain ⟨h0, h1⟩ := h
  exact Bi.ext' h0 h1
theorem Dp.dE_eq (a b : Dp) : dE a b = (dE a.fr b.fr && dE a.to b.to) := by
  rw [Bool.eq_iff_iff]
  simp only [Bool.and_eq_true, dE_true]
  refine ⟨fun e => by subst e; simp, fun h => ?_⟩
  obtain ⟨h0, h1⟩ := h
  exact Dp.ext' h0 h1
theorem Sg.dE_eq (a b : Sg) : dE a b = (dE a.name b.name && dE a.type b.type) := by
  rw [Bool.eq_iff_iff]
  simp only [Bool.and_eq_true, dE_true]
  refine ⟨fun e => by subst e; simp, fun h => ?_⟩
  obtain ⟨h0, h1⟩ := h
  exact Sg.ext' h0 h1
theorem Im.dE_eq (a b : Im) : dE a b = (dE a.mod b.mod && dE a.all b.all && dE a.names b.names) := by
  rw [Bool.eq_iff_iff]
  simp only [Bool.and_eq_true, dE_true]
  refine ⟨fun e => by subst e; simp, fun h => ?_⟩
  obtain ⟨⟨h0, h1⟩, h2⟩ := h
  exact Im.ext' h0 h1 h2
theorem Ex.dE_eq (a b : Ex) : dE a b = (dE a.op b.op && dE a.s b.s && dE a.n b.n && dE a.args b.args && dE a.types b.types && dE a.pats b.pats && dE a.fields b.fields && dE a.decls b.decls && dE a.alts b.alts && dE a.stmts b.stmts) := by
  rw [Bool.eq_iff_iff]
  simp only [Bool.and_eq_true, dE_true]
  refine ⟨fun e => by subst e; simp, fun h => ?_⟩
  obtain ⟨⟨⟨⟨⟨⟨⟨⟨⟨h0, h1⟩, h2⟩, h3⟩, h4⟩, h5⟩, h6⟩, h7⟩, h8⟩, h9⟩ := h
  exact Ex.ext' h0 h1 h2 h3 h4 h5 h6 h7 h8 h9
theorem St.dE_eq (a b : St) : dE a b = (dE a.lt b.lt && dE a.pat b.pat && dE a.expr b.expr && dE a.decls b.decls) := by
  rw [Bool.eq_iff_iff]
  simp only [Bool.and_eq_true, dE_true]
  refine ⟨fun e => by subst e; simp, fun h => ?_⟩
  obtain ⟨⟨⟨h0, h1⟩, h2⟩, h3⟩ := h
  exact St.ext' h0 h1 h2 h3
theorem Al.dE_eq (a b : Al) : dE a b = (dE a.pats b.pats && dE a.rhs b.rhs && dE a.wh b.wh) := by
  rw [Bool.eq_iff_iff]
  simp only [Bool.and_eq_true, dE_true]
  refine ⟨fun e => by subst e; simp, fun h => ?_⟩
  obtain ⟨⟨h0, h1⟩, h2⟩ := h
  exact Al.ext' h0 h1 h2
theorem Gu.dE_eq (a b : Gu) : dE a b = (dE a.cond b.cond && dE a.thn b.thn) := by
  rw [Bool.eq_iff_iff]
  simp only [Bool.and_eq_true, dE_true]
  refine ⟨fun e => by subst e; simp, fun h => ?_⟩
  obtain ⟨h0, h1⟩ := h
  exact Gu.ext' h0 h1
theorem De.dE_eq (a b : De) : dE a b = (dE a.op b.op && dE a.name b.name && dE a.s b.s && dE a.n b.n && dE a.type b.type && dE a.cons b.cons && dE a.derivs b.derivs && dE a.eqs b.eqs && dE a.vars b.vars && dE a.context b.context && dE a.deps b.deps && dE a.sigs b.sigs && dE a.alts b.alts && dE a.decls b.decls) := by
  rw [Bool.eq_iff_iff]
  simp only [Bool.and_eq_true, dE_true]
  refine ⟨fun e => by subst e; simp, fun h => ?_⟩
  obtain ⟨⟨⟨⟨⟨⟨⟨⟨⟨⟨⟨⟨⟨h0, h1⟩, h2⟩, h3⟩, h4⟩, h5⟩, h6⟩, h7⟩, h8⟩, h9⟩, h10⟩, h11⟩, h12⟩, h13⟩ := h
  exact De.ext' h0 h1 h2 h3 h4 h5 h6 h7 h8 h9 h10 h11 h12 h13
theorem Mo.dE_eq (a b : Mo) : dE a b = (dE a.name b.name && dE a.all b.all && dE a.exports b.exports && dE a.imports b.imports && dE a.decls b.decls) := by
  rw [Bool.eq_iff_iff]
  simp only [Bool.and_eq_true, dE_true]
  refine ⟨fun e => by subst e; simp, fun h => ?_⟩
  obtain ⟨⟨⟨⟨h0, h1⟩, h2⟩, h3⟩, h4⟩ := h
  exact Mo.ext' h0 h1 h2 h3 h4
theorem Ex.lt_args {a : Ex} {x : Ex} (h : x ∈ a.args) : SizeOf.sizeOf x < SizeOf.sizeOf a := by
  cases a; simp only [Ex.args_mk] at h; have := List.sizeOf_lt_of_mem h; simp; omega
theorem Ex.lt_pats {a : Ex} {x : Pa} (h : x ∈ a.pats) : SizeOf.sizeOf x < SizeOf.sizeOf a := by
  cases a; simp only [Ex.pats_mk] at h; have := List.sizeOf_lt_of_mem h; simp; omega
theorem Ex.lt_decls {a : Ex} {x : De} (h : x ∈ a.decls) : SizeOf.sizeOf x < SizeOf.sizeOf a := by
  cases a; simp only [Ex.decls_mk] at h; have := List.sizeOf_lt_of_mem h; simp; omega
theorem Ex.lt_alts {a : Ex} {x : Al} (h : x ∈ a.alts) : SizeOf.sizeOf x < SizeOf.sizeOf a := by
  cases a; simp only [Ex.alts_mk] at h; have := List.sizeOf_lt_of_mem h; simp; omega
theorem Ex.lt_stmts {a : Ex} {x : St} (h : x ∈ a.stmts) : SizeOf.sizeOf x < SizeOf.sizeOf a := by
  cases a; simp only [Ex.stmts_mk] at h; have := List.sizeOf_lt_of_mem h; simp; omega
theorem St.lt_expr {a : St} : SizeOf.sizeOf a.expr < SizeOf.sizeOf a := by cases a; simp; omega
theorem St.lt_decls {a : St} {x : De} (h : x ∈ a.decls) : SizeOf.sizeOf x < SizeOf.sizeOf a := by
  cases a; simp only [St.decls_mk] at h; have := List.sizeOf_lt_of_mem h; simp; omega
theorem Al.lt_pats {a : Al} {x : Pa} (h : x ∈ a.pats) : SizeOf.sizeOf x < SizeOf.sizeOf a := by
  cases a; simp only [Al.pats_mk] at h; have := List.sizeOf_lt_of_mem h; simp; omega
theorem Al.lt_rhs {a : Al} {x : Gu} (h : x ∈ a.rhs) : SizeOf.sizeOf x < SizeOf.sizeOf a := by
  cases a; simp only [Al.rhs_mk] at h; have := List.sizeOf_lt_of_mem h; simp; omega
theorem Al.lt_wh {a : Al} {x : De} (h : x ∈ a.wh) : SizeOf.sizeOf x < SizeOf.sizeOf a := by
  cases a; simp only [Al.wh_mk] at h; have := List.sizeOf_lt_of_mem h; simp; omega
theorem Gu.lt_cond {a : Gu} {x : Ex} (h : x ∈ a.cond) : SizeOf.sizeOf x < SizeOf.sizeOf a := by
  cases a; simp only [Gu.cond_mk] at h; have := List.sizeOf_lt_of_mem h; simp; omega
theorem Gu.lt_thn {a : Gu} : SizeOf.sizeOf a.thn < SizeOf.sizeOf a := by cases a; simp; omega
theorem De.lt_alts {a : De} {x : Al} (h : x ∈ a.alts) : SizeOf.sizeOf x < SizeOf.sizeOf a := by
  cases a; simp only [De.alts_mk] at h; have := List.sizeOf_lt_of_mem h; simp; omega
theorem De.lt_decls {a : De} {x : De} (h : x ∈ a.decls) : SizeOf.sizeOf x < SizeOf.sizeOf a := by
  cases a; simp only [De.decls_mk] at h; have := List.sizeOf_lt_of_mem h; simp; omega
theorem Ty.lt_args {a : Ty} {x : Ty} (h : x ∈ a.args) : SizeOf.sizeOf x < SizeOf.sizeOf a := by
  cases a; simp only [Ty.args_mk] at h; have := List.sizeOf_lt_of_mem h; simp; omega
theorem Pa.lt_args {a : Pa} {x : Pa} (h : x ∈ a.args) : SizeOf.sizeOf x < SizeOf.sizeOf a := by
  cases a; simp only [Pa.args_mk] at h; have := List.sizeOf_lt_of_mem h; simp; omega
theorem lenE {α β : Type} (f : α → List AVal) (g : β → List AVal) (x : List α) (y : List β) : iEq (rLen (x.map f)) (rLen (y.map g)) = dE x.length y.length := by
  rw [rLen_eq, rLen_eq, List.length_map, List.length_map, Bool.eq_iff_iff, iEq_true, dE_true]; omega
theorem lenD {α β : Type} (f : α → List AVal) (g : β → List AVal) (x : List α) (y : List β) : dE (rLen (x.map f)) (rLen (y.map g)) = dE x.length y.length := by rw [← iEq_dE, lenE]
theorem dE_len {α : Type} {x y : List α} (h : dE x.length y.length = false) : dE x y = false := by
  rw [dE_false] at h ⊢; intro e; exact h (by rw [e])
theorem bXor_t {a b : Bool} : bXor a b = true ↔ dE a b = false := by
  rw [dE_false]; cases a <;> cases b <;> simp [bXor]
theorem bXor_f {a b : Bool} : bXor a b = false ↔ dE a b = true := by
  rw [dE_true]; cases a <;> cases b <;> simp [bXor]
theorem dE_list {α : Type} {x y : List α} {i : Nat} {a b : α} (hx : x[i]? = some a) (hy : y[i]? = some b) (h : dE a b = false) : dE x y = false := by
  rw [dE_false] at h ⊢; intro e; rw [e, hy] at hx; exact h (Option.some.inj hx).symm
end Go.Eng

