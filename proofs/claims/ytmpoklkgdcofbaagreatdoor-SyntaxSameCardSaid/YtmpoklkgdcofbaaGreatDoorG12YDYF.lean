/- What is read as data of the program's types is a tree. -/
import Derived.Test.YtmpoklkgdcofbaaGreatDoorG03L0L0
import Derived.Test.YtmpoklkgdcofbaaGreatDoorG11E44T2
import Derived.Test.YtmpoklkgdcofbaaGreatDoorG08L4L4
import Derived.Test.YtmpoklkgdcofbaaGreatDoorG09E22E22
import Derived.Test.YtmpoklkgdcofbaaGreatDoorG10YF0YF0
import Derived.Test.YtmpoklkgdcofbaaGreatDoorRows
import Derived.ProofKit
import Derived.LaidMore
import Derived.LaidHandle
import Derived.Stop.Joined
set_option maxRecDepth 100000
set_option linter.unusedVariables false
set_option linter.unusedSimpArgs false
namespace Go.Proofs.YtmpoklkgdcofbaaGreatDoor
open Go.Eng

section
variable {T : Type} (enc : TypeId × Value → T) (w : World) (base : Nat) (sp : Nat → Bool) (held : Bool)

theorem Cat.one {Q : List AVal → Prop} {Qs : List (List AVal → Prop)} {l : List AVal} (h : Cat (Q :: Qs) l) : ∃ a b, l = a ++ b ∧ Q a ∧ Cat Qs b := h
theorem Cat.none {l : List AVal} (h : Cat [] l) : l = [] := h

structure DecN (n : Nat) : Prop where
  ty : Dec enc Tryz.prog w base sp held n 51 (QX Ty.cells Ty.Ok)
  tys : Dec enc Tryz.prog w base sp held n 44 (QSl (QX Ty.cells Ty.Ok))
  pa : Dec enc Tryz.prog w base sp held n 145 (QX Pa.cells Pa.Ok)
  pas : Dec enc Tryz.prog w base sp held n 45 (QSl (QX Pa.cells Pa.Ok))
  strs : Dec enc Tryz.prog w base sp held n 26 (QSl QStr)
  co : Dec enc Tryz.prog w base sp held n 200 (QX Co.cells Co.Ok)
  cos : Dec enc Tryz.prog w base sp held n 60 (QSl (QX Co.cells Co.Ok))
  eq : Dec enc Tryz.prog w base sp held n 203 (QX Eqn.cells Eqn.Ok)
  eqs : Dec enc Tryz.prog w base sp held n 61 (QSl (QX Eqn.cells Eqn.Ok))
  bi : Dec enc Tryz.prog w base sp held n 206 (QX Bi.cells Bi.Ok)
  bis : Dec enc Tryz.prog w base sp held n 62 (QSl (QX Bi.cells Bi.Ok))
  dp : Dec enc Tryz.prog w base sp held n 209 (QX Dp.cells Dp.Ok)
  dps : Dec enc Tryz.prog w base sp held n 63 (QSl (QX Dp.cells Dp.Ok))
  sg : Dec enc Tryz.prog w base sp held n 212 (QX Sg.cells Sg.Ok)
  sgs : Dec enc Tryz.prog w base sp held n 64 (QSl (QX Sg.cells Sg.Ok))
  im : Dec enc Tryz.prog w base sp held n 103 (QX Im.cells Im.Ok)
  ims : Dec enc Tryz.prog w base sp held n 27 (QSl (QX Im.cells Im.Ok))
  ex : Dec enc Tryz.prog w base sp held n 49 (QX Ex.cells Ex.Ok)
  exs : Dec enc Tryz.prog w base sp held n 43 (QSl (QX Ex.cells Ex.Ok))
  st : Dec enc Tryz.prog w base sp held n 151 (QX St.cells St.Ok)
  sts : Dec enc Tryz.prog w base sp held n 47 (QSl (QX St.cells St.Ok))
  al : Dec enc Tryz.prog w base sp held n 70 (QX Al.cells Al.Ok)
  als : Dec enc Tryz.prog w base sp held n 46 (QSl (QX Al.cells Al.Ok))
  gu : Dec enc Tryz.prog w base sp held n 72 (QX Gu.cells Gu.Ok)
  gus : Dec enc Tryz.prog w base sp held n 68 (QSl (QX Gu.cells Gu.Ok))
  de : Dec enc Tryz.prog w base sp held n 66 (QX De.cells De.Ok)
  des : Dec enc Tryz.prog w base sp held n 28 (QSl (QX De.cells De.Ok))
  mo : Dec enc Tryz.prog w base sp held n 30 (QX Mo.cells Mo.Ok)
  mos : Dec enc Tryz.prog w base sp held n 22 (QSl (QX Mo.cells Mo.Ok))

theorem dI (n : Nat) : Dec enc Tryz.prog w base sp held n 3 QInt := .int Tryz.underlying3
theorem dB (n : Nat) : Dec enc Tryz.prog w base sp held n 4 QBool := .bool Tryz.underlying4
theorem dS (n : Nat) : Dec enc Tryz.prog w base sp held n 9 QStr := .str Tryz.underlying9

theorem decN (n : Nat) : DecN enc w base sp held n := by
  induction n with
  | zero => constructor <;> exact .zero
  | succ n ih =>
    have I := dI enc w base sp held n
    have B := dB enc w base sp held n
    have S := dS enc w base sp held n
    constructor
    · refine (Dec.struct Tryz.underlying51 (.cons I (.cons I (.cons S (.cons ih.tys .nil))))).mono ?_
      rintro l ⟨_, _, rfl, ⟨n1, rfl⟩, _, _, rfl, ⟨n2, rfl⟩, _, _, rfl, ⟨s, rfl, hs⟩, _, _, rfl, h, rfl⟩
      obtain ⟨v, rfl, hl, hv⟩ := h.list
      exact ⟨.mk n1 n2 s v, by simp [Ty.cells_mk], .mk hs hl hv⟩
    · exact .slice Tryz.underlying44 (by kernel_rfl) ih.ty
    · refine (Dec.struct Tryz.underlying145 (.cons I (.cons S (.cons I (.cons ih.pas .nil))))).mono ?_
      rintro l ⟨_, _, rfl, ⟨n1, rfl⟩, _, _, rfl, ⟨s, rfl, hs⟩, _, _, rfl, ⟨n2, rfl⟩, _, _, rfl, h, rfl⟩
      obtain ⟨v, rfl, hl, hv⟩ := h.list
      exact ⟨.mk n1 s n2 v, by simp [Pa.cells_mk], .mk hs hl hv⟩
    · exact .slice Tryz.underlying45 (by kernel_rfl) ih.pa
    · exact .slice Tryz.underlying26 (by kernel_rfl) S
    · refine (Dec.struct Tryz.underlying200 (.cons S (.cons ih.ty (.cons ih.strs .nil)))).mono ?_
      rintro l ⟨_, _, rfl, ⟨s, rfl, hs⟩, _, _, rfl, ⟨t, rfl, ht⟩, _, _, rfl, h, rfl⟩
      obtain ⟨v, rfl, hl, hv⟩ := h.strs
      exact ⟨⟨s, t, v⟩, by simp [Co.cells, cS], hs, ht, hl, hv⟩
    · exact .slice Tryz.underlying60 (by kernel_rfl) ih.co
    · refine (Dec.struct Tryz.underlying203 (.cons ih.ty (.cons ih.ty .nil))).mono ?_
      rintro l ⟨_, _, rfl, ⟨t, rfl, ht⟩, _, _, rfl, ⟨u, rfl, hu⟩, rfl⟩
      exact ⟨⟨t, u⟩, by simp [Eqn.cells], ht, hu⟩
    · exact .slice Tryz.underlying61 (by kernel_rfl) ih.eq
    · refine (Dec.struct Tryz.underlying206 (.cons S (.cons ih.ty .nil))).mono ?_
      rintro l ⟨_, _, rfl, ⟨t, rfl, ht⟩, _, _, rfl, ⟨u, rfl, hu⟩, rfl⟩
      exact ⟨⟨t, u⟩, by simp [Bi.cells], ht, hu⟩
    · exact .slice Tryz.underlying62 (by kernel_rfl) ih.bi
    · refine (Dec.struct Tryz.underlying209 (.cons ih.strs (.cons ih.strs .nil))).mono ?_
      rintro l ⟨_, _, rfl, h, _, _, rfl, k, rfl⟩
      obtain ⟨v, rfl, hl, hv⟩ := h.strs
      obtain ⟨v', rfl, hl', hv'⟩ := k.strs
      exact ⟨⟨v, v'⟩, by simp [Dp.cells, cS], ⟨hl, hv⟩, ⟨hl', hv'⟩⟩
    · exact .slice Tryz.underlying63 (by kernel_rfl) ih.dp
    · refine (Dec.struct Tryz.underlying212 (.cons S (.cons ih.ty .nil))).mono ?_
      rintro l ⟨_, _, rfl, ⟨t, rfl, ht⟩, _, _, rfl, ⟨u, rfl, hu⟩, rfl⟩
      exact ⟨⟨t, u⟩, by simp [Sg.cells], ht, hu⟩
    · exact .slice Tryz.underlying64 (by kernel_rfl) ih.sg
    · refine (Dec.struct Tryz.underlying103 (.cons S (.cons B (.cons ih.strs .nil)))).mono ?_
      rintro l ⟨_, _, rfl, ⟨t, rfl, ht⟩, _, _, rfl, ⟨u, rfl⟩, _, _, rfl, h, rfl⟩
      obtain ⟨v, rfl, hl, hv⟩ := h.strs
      exact ⟨⟨t, u, v⟩, by simp [Im.cells, cS], ht, hl, hv⟩
    · exact .slice Tryz.underlying27 (by kernel_rfl) ih.im
    · refine (Dec.struct Tryz.underlying49 (.cons I (.cons S (.cons I (.cons ih.exs (.cons ih.tys (.cons ih.pas (.cons ih.strs (.cons ih.des (.cons ih.als (.cons ih.sts .nil))))))))))).mono ?_
      rintro l ⟨_, _, rfl, ⟨n1, rfl⟩, _, _, rfl, ⟨s, rfl, hs⟩, _, _, rfl, ⟨n2, rfl⟩, _, _, rfl, h1, _, _, rfl, h2, _, _, rfl, h3, _, _, rfl, h4, _, _, rfl, h5, _, _, rfl, h6, _, _, rfl, h7, rfl⟩
      obtain ⟨v1, rfl, l1, k1⟩ := h1.list
      obtain ⟨v2, rfl, l2, k2⟩ := h2.list
      obtain ⟨v3, rfl, l3, k3⟩ := h3.list
      obtain ⟨v4, rfl, l4, k4⟩ := h4.strs
      obtain ⟨v5, rfl, l5, k5⟩ := h5.list
      obtain ⟨v6, rfl, l6, k6⟩ := h6.list
      obtain ⟨v7, rfl, l7, k7⟩ := h7.list
      exact ⟨.mk n1 s n2 v1 v2 v3 v4 v5 v6 v7, by simp [Ex.cells_mk, cS], .mk hs l1 k1 l2 k2 l3 k3 ⟨l4, k4⟩ l5 k5 l6 k6 l7 k7⟩
    · exact .slice Tryz.underlying43 (by kernel_rfl) ih.ex
    · refine (Dec.struct Tryz.underlying151 (.cons B (.cons ih.pas (.cons ih.ex (.cons ih.des .nil))))).mono ?_
      rintro l ⟨_, _, rfl, ⟨b, rfl⟩, _, _, rfl, h1, _, _, rfl, ⟨x, rfl, hx⟩, _, _, rfl, h2, rfl⟩
      obtain ⟨v1, rfl, l1, k1⟩ := h1.list
      obtain ⟨v2, rfl, l2, k2⟩ := h2.list
      exact ⟨.mk b v1 x v2, by simp [St.cells_mk], .mk l1 k1 hx l2 k2⟩
    · exact .slice Tryz.underlying47 (by kernel_rfl) ih.st
    · refine (Dec.struct Tryz.underlying70 (.cons ih.pas (.cons ih.gus (.cons ih.des .nil)))).mono ?_
      rintro l ⟨_, _, rfl, h1, _, _, rfl, h2, _, _, rfl, h3, rfl⟩
      obtain ⟨v1, rfl, l1, k1⟩ := h1.list
      obtain ⟨v2, rfl, l2, k2⟩ := h2.list
      obtain ⟨v3, rfl, l3, k3⟩ := h3.list
      exact ⟨.mk v1 v2 v3, by simp [Al.cells_mk], .mk l1 k1 l2 k2 l3 k3⟩
    · exact .slice Tryz.underlying46 (by kernel_rfl) ih.al
    · refine (Dec.struct Tryz.underlying72 (.cons ih.exs (.cons ih.ex .nil))).mono ?_
      rintro l ⟨_, _, rfl, h1, _, _, rfl, ⟨x, rfl, hx⟩, rfl⟩
      obtain ⟨v1, rfl, l1, k1⟩ := h1.list
      exact ⟨.mk v1 x, by simp [Gu.cells_mk], .mk l1 k1 hx⟩
    · exact .slice Tryz.underlying68 (by kernel_rfl) ih.gu
    · refine (Dec.struct Tryz.underlying66 (.cons I (.cons S (.cons S (.cons I (.cons ih.ty (.cons ih.cos (.cons ih.strs (.cons ih.eqs (.cons ih.bis (.cons ih.tys (.cons ih.dps (.cons ih.sgs (.cons ih.als (.cons ih.des .nil))))))))))))))).mono ?_
      rintro l ⟨_, _, rfl, ⟨n1, rfl⟩, _, _, rfl, ⟨s, rfl, hs⟩, _, _, rfl, ⟨s', rfl, hs'⟩, _, _, rfl, ⟨n2, rfl⟩, _, _, rfl, ⟨ty, rfl, hty⟩, _, _, rfl, h1, _, _, rfl, h2, _, _, rfl, h3, _, _, rfl, h4, _, _, rfl, h5, _, _, rfl, h6, _, _, rfl, h7, _, _, rfl, h8, _, _, rfl, h9, rfl⟩
      obtain ⟨v1, rfl, l1, k1⟩ := h1.list
      obtain ⟨v2, rfl, l2, k2⟩ := h2.strs
      obtain ⟨v3, rfl, l3, k3⟩ := h3.list
      obtain ⟨v4, rfl, l4, k4⟩ := h4.list
      obtain ⟨v5, rfl, l5, k5⟩ := h5.list
      obtain ⟨v6, rfl, l6, k6⟩ := h6.list
      obtain ⟨v7, rfl, l7, k7⟩ := h7.list
      obtain ⟨v8, rfl, l8, k8⟩ := h8.list
      obtain ⟨v9, rfl, l9, k9⟩ := h9.list
      exact ⟨.mk n1 s s' n2 ty v1 v2 v3 v4 v5 v6 v7 v8 v9, by simp [De.cells_mk, cS], .mk hs hs' hty l1 k1 ⟨l2, k2⟩ l3 k3 l4 k4 l5 k5 l6 k6 l7 k7 l8 k8 l9 k9⟩
    · exact .slice Tryz.underlying28 (by kernel_rfl) ih.de
    · refine (Dec.struct Tryz.underlying30 (.cons S (.cons B (.cons ih.strs (.cons ih.ims (.cons ih.des .nil)))))).mono ?_
      rintro l ⟨_, _, rfl, ⟨s, rfl, hs⟩, _, _, rfl, ⟨b, rfl⟩, _, _, rfl, h1, _, _, rfl, h2, _, _, rfl, h3, rfl⟩
      obtain ⟨v1, rfl, l1, k1⟩ := h1.strs
      obtain ⟨v2, rfl, l2, k2⟩ := h2.list
      obtain ⟨v3, rfl, l3, k3⟩ := h3.list
      exact ⟨⟨s, b, v1, v2, v3⟩, by simp [Mo.cells, cS], hs, ⟨l1, k1⟩, l2, k2, l3, k3⟩
    · exact .slice Tryz.underlying22 (by kernel_rfl) ih.mo
end

/-- The types of the trees, and what they hold. -/
abbrev treeTypes : List TypeId := [3, 4, 9, 51, 44, 145, 45, 26, 200, 60, 203, 61, 206, 62, 209, 63, 212, 64,
  103, 27, 49, 43, 151, 47, 70, 46, 72, 68, 66, 28, 30, 22]
theorem treeTypes_ok : ∀ t ∈ treeTypes, okT Tryz.prog treeTypes t = true := by
  have h : (treeTypes.all fun t => okT Tryz.prog treeTypes t) = true := by kernel_rfl
  exact fun t ht => List.all_eq_true.1 h t ht
end Go.Proofs.YtmpoklkgdcofbaaGreatDoor

/- The frame of the laws' rows. -/
set_option maxRecDepth 100000
set_option linter.unusedVariables false
set_option linter.unusedSimpArgs false
namespace Go.Proofs.YtmpoklkgdcofbaaGreatDoor
open Go.Eng Go.RowKit Go.ChangeShapes Go.WideShapes

theorem laid_var {P : Program} {W : World} {name : String} {d : DataW Unit} {rest : List (String × DataW Unit)} {q : List MemPlace} (h : DataW.LaidVars P W ((name, d) :: rest) q) :
    (∃ g t cs fuel p, P.globalNamed name = some g ∧ (P.globals[g]?).map (·.type) = some t ∧ W.var? P name = some cs ∧ DataW.trod (fun _ => ()) P W 0 (fun _ => true) false fuel t cs.toList = some (d, p)) ∧ ∃ q', DataW.LaidVars P W rest q' := by
  obtain ⟨g, t, cs, fuel, p, q', h1, h2, h3, h4, h5, _⟩ := h
  exact ⟨⟨g, t, cs, fuel, p, h1, h2, h3, h4⟩, q', h5⟩

theorem laid_iface {P : Program} {W : World} {name : String} {n : String} {d : DataW Unit} {ms : _} {g : Nat} {t : TypeId} (hg : P.globalNamed name = some g) (hty : (P.globals[g]?).map (·.type) = some t) (ht : P.underlying t = some (.interface ms))
    (h : ∃ g t cs fuel p, P.globalNamed name = some g ∧ (P.globals[g]?).map (·.type) = some t ∧ W.var? P name = some cs ∧ DataW.trod (fun _ => ()) P W 0 (fun _ => true) false fuel t cs.toList = some (.iface n d, p)) : ∃ tp p, W.var? P name = some #[.iface tp p] := by
  obtain ⟨g', t', cs, fuel, p, h1, h2, h3, h4⟩ := h
  obtain rfl := Option.some.inj (hg.symm.trans h1)
  obtain rfl := Option.some.inj (hty.symm.trans h2)
  obtain ⟨l⟩ := cs
  cases fuel with
  | zero => simp [DataW.trod] at h4
  | succ fuel =>
    unfold DataW.trod at h4
    rw [ht] at h4
    split at h4 <;> first | (cases h4; done) | skip
    all_goals first
      | (rename_i u v e1 e2; cases e1; simp only at e2; subst e2; exact ⟨u, v, h3⟩)
      | (simp_all; done)

theorem laid_tab {P : Program} {W : World} {name : String} {k : IntKind} {zs : List Int} {g : Nat} {t e : TypeId} {n : Nat}
    (hg : P.globalNamed name = some g) (hty : (P.globals[g]?).map (·.type) = some t) (ht : P.underlying t = some (.array n e)) (he : P.underlying e = some (.int k)) (hce : P.cellsOf e = 1) (hct : P.cellsOf t = n)
    (h : ∃ g t cs fuel p, P.globalNamed name = some g ∧ (P.globals[g]?).map (·.type) = some t ∧ W.var? P name = some cs ∧ DataW.trod (fun _ => ()) P W 0 (fun _ => true) false fuel t cs.toList = some (Lib.tabData k zs, p)) : Lib.TabIs P W name k zs := by
  obtain ⟨g', t', cs, fuel, p, hg', ht', hvar, hd⟩ := h
  obtain rfl := Option.some.inj (hg.symm.trans hg')
  obtain rfl := Option.some.inj (hty.symm.trans ht')
  unfold Lib.TabIs
  rw [hvar, ← Lib.cells_of_tab ht he hce hct hd]

theorem of_laid {W : World} (h : laidMetH Tryz.prog laidL W) : lexL W.heap.size W := by
  rw [MakeChecks.laidMetH_plain _ _ _ (by kernel_rfl)] at h
  obtain ⟨ps, h, _, _⟩ := h
  obtain ⟨_, _, h⟩ := laid_var h
  obtain ⟨_, _, h⟩ := laid_var h
  obtain ⟨t1, _, h⟩ := laid_var h
  obtain ⟨t2, _, h⟩ := laid_var h
  obtain ⟨t3, _, h⟩ := laid_var h
  obtain ⟨_, _, h⟩ := laid_var h
  obtain ⟨t4, _, h⟩ := laid_var h
  have k1 : Lib.TabIs Tryz.prog W "internal/strconv.uint64pow10" .u64 Lib.pow10Tab := laid_tab (g := 5) (t := 345) (e := 315) (n := 20) (by kernel_rfl) (by kernel_rfl) (by kernel_rfl) (by kernel_rfl) (by kernel_rfl) (by kernel_rfl) t1
  refine ⟨?_, laid_tab (g := 1) (t := 294) (e := 5) (n := 256) (by kernel_rfl) (by kernel_rfl) (by kernel_rfl) (by kernel_rfl) (by kernel_rfl) (by kernel_rfl) t4, k1,
    laid_iface (g := 3) (t := 116) (by kernel_rfl) (by kernel_rfl) Tryz.underlying116 t3, laid_iface (g := 4) (t := 116) (by kernel_rfl) (by kernel_rfl) Tryz.underlying116 t2⟩
  have := World.var?_cell (by kernel_rfl : Tryz.prog.globalNamed "internal/strconv.uint64pow10" = some 5) k1 0
  have hc : W.cell? ⟨5, 0, none⟩ = some (.int .u64 1) := by rw [this]; rfl
  exact World.cell?_lt hc

/-- A call that answers 'true', and leaves what lay. -/
theorem law_calls {f : FuncId} {fn : Func} {args : Array Value} {avs : List AVal} {W : World} (hp : PureCall lexC f avs (.bool true)) (hf : Tryz.prog.funcs[f]? = some fn) (hn : (fn.name == "runtime.NumGoroutine") = false) (hb : fn.body.isNone = false)
    (hL : lexL W.heap.size W) (hr : Reps G0 W avs args.toList) : Calls Tryz.prog f args W fun e W' => e = .returned (.bool true) ∧ Below W.heap.size W W' := by
  have h := hp Hp.none W.heap.size W G0 W args.toList hL (wr_start W) hr
  have hrun : (callFunc f args).run Tryz.prog W = .ok (.enter f args) W := by
    simp only [callFunc, Sem.run_bind, run_program, Result.andThen_ok, hf, hn, hb]
    rfl
  rcases h with ⟨_, h⟩ | ⟨u, w', h1, _⟩
  · refine h.mono fun e w' hm => ?_
    cases e with
    | outgrown => exact hm.elim
    | panicked c => obtain ⟨v, u, H', G', _, _, ⟨hq, _⟩, _⟩ := hm; cases hq
    | returned u =>
      obtain ⟨v, H', G', hv, ⟨hq, _⟩, hw, _⟩ := hm
      cases hq
      rw [hv.bool_inv]
      exact ⟨rfl, hw.below⟩
  · rw [hrun] at h1; cases h1

theorem trodAll_stays {T : Type} {enc : TypeId × Value → T} {W W' : World} {sp' : Nat → Bool} : ∀ {ts : List TypeId} {vs : List Value} {ds : List (DataW T)} {ps : List MemPlace}, (∀ t ∈ ts, Tryz.prog.readableRec t = true ∧ t < Tryz.prog.types.size) →
    DataW.TrodAll enc Tryz.prog W 0 (fun _ => true) true ts vs ds ps → (∀ p ∈ ps, W.sameAt W' p) → (∀ p ∈ ps, sp' p.block = true) → DataW.TrodAll enc Tryz.prog W' 0 sp' true ts vs ds ps
  | [], _, _, _, _, h, _, _ => by
    obtain ⟨rfl, rfl, rfl⟩ := trodAll_nil h
    rfl
  | t :: ts, _, _, _, ht, h, hs, hp => by
    obtain ⟨v, vs1, d, ds1, a, b, rfl, rfl, rfl, h1, h2⟩ := trodAll_cons h
    refine ⟨a, b, WideElems.Trod_stays laidOut (ht t (by simp)).1 (ht t (by simp)).2 h1 (fun p hp => hs p (by simp [hp])) (fun x hx => hp x (by simp [hx])), trodAll_stays (fun t h => ht t (by simp [h])) h2 (fun p hp => hs p (by simp [hp])) (fun x hx => hp x (by simp [hx])), rfl⟩

theorem law_lifted {f : FuncId} {fn : Func} {s : ChangeSpec} (hf : Tryz.prog.funcs[f]? = some fn) (hni : Tryz.prog.inits.idxOf? f = none) (hn : (fn.name == "runtime.NumGoroutine") = false) (hb : fn.body.isNone = false)
    (hres : fn.resultTypes = #[4]) (hvars : s.vars = []) (hspec : ∀ (T : Type) (ds : List (DataW T)), ds.length = fn.params.size → s.fn T ds = { results := [.lit (.bool true)], args := ds })
    (hpt : ∀ t ∈ fn.params.toList, Tryz.prog.readableRec t = true ∧ t < Tryz.prog.types.size) (os : Os) (started : os.Started) (T : Type) (enc : TypeId × Value → T)
    (witness : ∃ (w : World) (tape : Tape) (i : Input), w.os = os ∧ (w.forCall tape i).Shaped Tryz.checked.prog ∧ i.vars = [] ∧ Input.okWide Tryz.checked.prog (w.forCall tape i) .any w.heap.size f i ∧
      ((s.pre enc Tryz.checked.prog fn [] false (w.forCall tape i).memory i.args ∧ laidMetH Tryz.prog laidL (w.forCall tape i).memory) ∧ sizedMet enc Tryz.checked.prog fn (OpenSpec.ofChange s) false (w.forCall tape i).memory i.args) ∧ ({} : Assume).holds Tryz.checked.prog (lone (Frame.enter Tryz.checked.prog f i.args .normal) [] (w.forCall tape i)))
    (hwalk : ∀ (W : World) (base : Nat) (args : Array Value) (ds : List (DataW T)) (ps : List MemPlace), (∀ (j : Nat) t v, fn.params[j]? = some t → args[j]? = some v → Value.okWide Tryz.prog W .any base t v) →
      DataW.TrodAll enc Tryz.prog W 0 (fun _ => true) true fn.params.toList args.toList ds ps → (DataW.weightsEach Tryz.prog fn.params.toList ds).all (· ≤ reachBytes) = true → ∃ avs, PureCall lexC f avs (.bool true) ∧ Reps G0 W avs args.toList) :
    ReturnsInHanded {} Tryz.checked os f .any (fun w args => (s.pre enc Tryz.prog fn [] false w args ∧ laidMetH Tryz.prog laidL w) ∧ sizedMet enc Tryz.prog fn (OpenSpec.ofChange s) false w args)
      (s.post enc Tryz.prog fn false true false false) := by
  refine returnsInHanded_of_change_and (C := Tryz.checked) (X := fun w _ => laidMetH Tryz.prog laidL w) (fun _ _ _ hh h => h.of_heap hh) own started hni hf witness ?_
  intro W base args ds gs before hval hW _ hweight hL _
  have hW' := hW
  obtain ⟨p, q, hA, hV, rfl, hfz, hnd⟩ := hW
  rw [hvars] at hV
  obtain ⟨rfl, rfl⟩ := trodVars_none hV
  have hvt : s.plain.varTypes Tryz.checked.prog = [] := by unfold DataSpec.varTypes; rw [show s.plain.vars = [] from hvars]; rfl
  rw [hvt, List.append_nil, List.append_nil] at hweight
  obtain ⟨avs, hp, hr⟩ := hwalk W base args ds p hval hA hweight
  have hlen : ds.length = fn.params.size := by
    have : ∀ {ts : List TypeId} {vs : List Value} {ds : List (DataW T)} {ps : List MemPlace}, DataW.TrodAll enc Tryz.prog W 0 (fun _ => true) true ts vs ds ps → ds.length = ts.length := by
      intro ts
      induction ts with
      | nil => intro vs ds ps h; obtain ⟨_, rfl, _⟩ := trodAll_nil h; rfl
      | cons t ts ih => intro vs ds ps h; obtain ⟨v, vs1, d, ds1, a, b, _, rfl, _, _, h2⟩ := trodAll_cons h; simp [ih h2]
    simpa using this hA
  refine (law_calls hp hf hn hb (of_laid hL) hr).mono fun e W' ⟨he, hbl⟩ => ?_
  subst he
  have e1 := hspec T ds hlen
  have hlt : ∀ x ∈ p, x.block < W.heap.size := fun x hx => hW'.lt x (by simp [hx])
  refine ⟨_, rfl, ds, [], p ++ [], [], p, [], hW', ?_, ?_, ?_, hbl.frame _, fun h => by cases h⟩
  · rw [List.append_nil, e1, hres]
    exact trodAll_mk1 (shut_bool Tryz.underlying4 true)
  · rw [List.append_nil, e1]
    exact trodAll_stays hpt hA (fun x hx => hbl.same (hlt x hx)) (fun x hx => by simpa using hlt x hx)
  · rw [List.append_nil, e1, hvars]
    rfl

/-- An argument of tree type: its cells. -/
theorem tree_arg {T : Type} {enc : TypeId × Value → T} {W : World} {base fuel : Nat} {sp : Nat → Bool} {held : Bool} {t : TypeId} {Q : List AVal → Prop} (ht : t ∈ treeTypes) (hd : ∀ n, Dec enc Tryz.prog W base sp held n t Q) {vs : List Value} {x : DataW T × List MemPlace}
    (h : DataW.trod enc Tryz.prog W base sp held fuel t vs = some x) (hw : ∀ q ∈ x.1.weights Tryz.prog t, q ≤ reachBytes) : ∃ cs, Reps G0 W cs vs ∧ Q cs :=
  ⟨avCells x.1, trod_reps treeTypes_ok fuel t vs x ht h, hd fuel vs x h hw⟩

/-- An argument of a struct of trees. -/
theorem agg_arg {T : Type} {enc : TypeId × Value → T} {W : World} {base b : Nat} {sp : Nat → Bool} {held : Bool} {t : TypeId} {X : Type} {cells : X → List AVal} {ok : X → Prop} {fs : Array Field} (ht : t ∈ treeTypes) (hu : Tryz.prog.underlying t = some (.struct fs))
    (hd : ∀ n, Dec enc Tryz.prog W base sp held n t (QX cells ok)) {v : Value} {d : DataW T} {ps : List MemPlace} (hv : Value.okWide Tryz.prog W .any b t v)
    (h : DataW.Trod enc Tryz.prog W base sp held t v d ps) (hw : ∀ q ∈ d.weights Tryz.prog t, q ≤ reachBytes) : ∃ x : X, ok x ∧ Rep G0 W (.agg (cells x)) v := by
  obtain ⟨cs, rfl, _⟩ := okWide_struct hu hv
  obtain ⟨fuel, h⟩ := h
  obtain ⟨_, hr, x, rfl, hx⟩ := tree_arg ht hd h hw
  refine ⟨x, hx, ?_⟩
  have := Rep.agg' hr
  simpa [Value.cells] using this
theorem mo_arg {T : Type} {enc : TypeId × Value → T} {W : World} {base b : Nat} {sp : Nat → Bool} {held : Bool} {v : Value} {d : DataW T} {ps : List MemPlace} (hv : Value.okWide Tryz.prog W .any b 30 v)
    (h : DataW.Trod enc Tryz.prog W base sp held 30 v d ps) (hw : ∀ q ∈ d.weights Tryz.prog 30, q ≤ reachBytes) : ∃ x : Mo, x.Ok ∧ Rep G0 W (.agg x.cells) v :=
  agg_arg (by decide) Tryz.underlying30 (fun n => (decN enc W base sp held n).mo) hv h hw
theorem each_le {T : Type} {ts : List TypeId} {ds : List (DataW T)} (h : (DataW.weightsEach Tryz.prog ts ds).all (· ≤ reachBytes) = true) : ∀ q ∈ DataW.weightsEach Tryz.prog ts ds, q ≤ reachBytes := fun q hq => by
  simpa using List.all_eq_true.1 h q hq

end Go.Proofs.YtmpoklkgdcofbaaGreatDoor

