/- The door's own heap meets the rows' condition. -/
import Derived.Test.YtkcljempplchkaaDoorG05L2L23
import Derived.Test.YtkcljempplchkaaDoorRows
import Derived.ProofKit
import Derived.LaidMore
import Derived.LaidHandle
import Derived.Stop.Joined
import Derived.Test.YtkcljempplchkaaDoorG06L24L25
import Derived.Test.YtkcljempplchkaaDoorG07E22E22
set_option maxRecDepth 100000
set_option linter.unusedVariables false
set_option linter.unusedSimpArgs false
namespace Go.Proofs.YtkcljempplchkaaDoor
open Go.RowKit Go.ChangeShapes Go.WideShapes

theorem own : ownKnob Tryd.prog.godebug = none := by kernel_rfl
theorem laidOut : laidOutB Tryd.prog = true := by kernel_rfl
abbrev laidL : List (String × DataW Unit) := Rows.lexisTokensRow.laid

theorem door_met (os : Os) (args : Array Value) : laidMetH Tryd.prog laidL ((World.doorLaid Tryd.prog 4000 os).forCall (fun _ _ => 0) ⟨#[], args, []⟩).memory :=
  laidMetH_of_parts3 (fuel := 8) (laidMet_of_run' 8 (by kernel_rfl) (by kernel_rfl)) (by kernel_rfl) (by kernel_rfl)


end Go.Proofs.YtkcljempplchkaaDoor

/- The frame of the laws' rows. -/
set_option maxRecDepth 100000
set_option linter.unusedVariables false
set_option linter.unusedSimpArgs false
namespace Go.Proofs.YtkcljempplchkaaDoor
open Go.Eng Go.RowKit Go.ChangeShapes Go.WideShapes

theorem laid_var {P : Program} {W : World} {name : String} {d : DataW Unit} {rest : List (String × DataW Unit)} {q : List MemPlace} (h : DataW.LaidVars P W ((name, d) :: rest) q) :
    (∃ g t cs fuel p, P.globalNamed name = some g ∧ (P.globals[g]?).map (·.type) = some t ∧ W.var? P name = some cs ∧ DataW.trod (fun _ => ()) P W 0 (fun _ => true) false fuel t cs.toList = some (d, p)) ∧ ∃ q', DataW.LaidVars P W rest q' := by
  obtain ⟨g, t, cs, fuel, p, q', h1, h2, h3, h4, h5, _⟩ := h
  exact ⟨⟨g, t, cs, fuel, p, h1, h2, h3, h4⟩, q', h5⟩

theorem laid_iface {P : Program} {W : World} {name : String} {n : String} {d : DataW Unit} {ms : _} {g : Nat} {t : TypeId} (hg : P.globalNamed name = some g) (hty : (P.globals[g]?).map (·.type) = some t) (ht : P.underlying t = some (.interface ms))
    (h : ∃ g t cs fuel p, P.globalNamed name = some g ∧ (P.globals[g]?).map (·.type) = some t ∧ W.var? P name = some cs ∧ DataW.trod (fun _ => ()) P W 0 (fun _ => true) false fuel t cs.toList = some (.iface n d, p)) : ∃ tp p, W.var? P name = some #[.iface tp p] := by
  obtain ⟨g', t', cs, fuel, p, h1, h2, h3, h4⟩ := h
  obtain rfl := Option.some.inj (hg.symm.trans h1)
  obtain rfl := Option.some.inj (hty.symm.trans h2)
  obtain ⟨l⟩ := cs
  cases fuel with
  | zero => simp [DataW.trod] at h4
  | succ fuel =>
    unfold DataW.trod at h4
    rw [ht] at h4
    split at h4 <;> first | (cases h4; done) | skip
    all_goals first
      | (rename_i u v e1 e2; cases e1; simp only at e2; subst e2; exact ⟨u, v, h3⟩)
      | (simp_all; done)

theorem laid_tab {P : Program} {W : World} {name : String} {k : IntKind} {zs : List Int} {g : Nat} {t e : TypeId} {n : Nat}
    (hg : P.globalNamed name = some g) (hty : (P.globals[g]?).map (·.type) = some t) (ht : P.underlying t = some (.array n e)) (he : P.underlying e = some (.int k)) (hce : P.cellsOf e = 1) (hct : P.cellsOf t = n)
    (h : ∃ g t cs fuel p, P.globalNamed name = some g ∧ (P.globals[g]?).map (·.type) = some t ∧ W.var? P name = some cs ∧ DataW.trod (fun _ => ()) P W 0 (fun _ => true) false fuel t cs.toList = some (Lib.tabData k zs, p)) : Lib.TabIs P W name k zs := by
  obtain ⟨g', t', cs, fuel, p, hg', ht', hvar, hd⟩ := h
  obtain rfl := Option.some.inj (hg.symm.trans hg')
  obtain rfl := Option.some.inj (hty.symm.trans ht')
  unfold Lib.TabIs
  rw [hvar, ← Lib.cells_of_tab ht he hce hct hd]

theorem of_laid {W : World} (h : laidMetH Tryd.prog laidL W) : lexL W.heap.size W := by
  rw [MakeChecks.laidMetH_plain _ _ _ (by kernel_rfl)] at h
  obtain ⟨ps, h, _, _⟩ := h
  obtain ⟨_, _, h⟩ := laid_var h
  obtain ⟨_, _, h⟩ := laid_var h
  obtain ⟨t1, _, h⟩ := laid_var h
  obtain ⟨t2, _, h⟩ := laid_var h
  obtain ⟨t3, _, h⟩ := laid_var h
  obtain ⟨_, _, h⟩ := laid_var h
  obtain ⟨t4, _, h⟩ := laid_var h
  have k1 : Lib.TabIs Tryd.prog W "internal/strconv.uint64pow10" .u64 Lib.pow10Tab := laid_tab (g := 5) (t := 134) (e := 115) (n := 20) (by kernel_rfl) (by kernel_rfl) (by kernel_rfl) (by kernel_rfl) (by kernel_rfl) (by kernel_rfl) t1
  refine ⟨?_, laid_tab (g := 0) (t := 81) (e := 5) (n := 256) (by kernel_rfl) (by kernel_rfl) (by kernel_rfl) (by kernel_rfl) (by kernel_rfl) (by kernel_rfl) t4, k1,
    laid_iface (g := 3) (t := 68) (by kernel_rfl) (by kernel_rfl) Tryd.underlying68 t3, laid_iface (g := 4) (t := 68) (by kernel_rfl) (by kernel_rfl) Tryd.underlying68 t2⟩
  have := World.var?_cell (by kernel_rfl : Tryd.prog.globalNamed "internal/strconv.uint64pow10" = some 5) k1 0
  have hc : W.cell? ⟨5, 0, none⟩ = some (.int .u64 1) := by rw [this]; rfl
  exact World.cell?_lt hc

/-- A call that answers 'true', and leaves what lay. -/
theorem law_calls {f : FuncId} {fn : Func} {args : Array Value} {avs : List AVal} {W : World} (hp : PureCall lexC f avs (.bool true)) (hf : Tryd.prog.funcs[f]? = some fn) (hn : (fn.name == "runtime.NumGoroutine") = false) (hb : fn.body.isNone = false)
    (hL : lexL W.heap.size W) (hr : Reps G0 W avs args.toList) : Calls Tryd.prog f args W fun e W' => e = .returned (.bool true) ∧ Below W.heap.size W W' := by
  have h := hp Hp.none W.heap.size W G0 W args.toList hL (wr_start W) hr
  have hrun : (callFunc f args).run Tryd.prog W = .ok (.enter f args) W := by
    simp only [callFunc, Sem.run_bind, run_program, Result.andThen_ok, hf, hn, hb]
    rfl
  rcases h with ⟨_, h⟩ | ⟨u, w', h1, _⟩
  · refine h.mono fun e w' hm => ?_
    cases e with
    | outgrown => exact hm.elim
    | panicked c => obtain ⟨v, u, H', G', _, _, ⟨hq, _⟩, _⟩ := hm; cases hq
    | returned u =>
      obtain ⟨v, H', G', hv, ⟨hq, _⟩, hw, _⟩ := hm
      cases hq
      rw [hv.bool_inv]
      exact ⟨rfl, hw.below⟩
  · rw [hrun] at h1; cases h1

theorem trodAll_stays {T : Type} {enc : TypeId × Value → T} {W W' : World} {sp' : Nat → Bool} : ∀ {ts : List TypeId} {vs : List Value} {ds : List (DataW T)} {ps : List MemPlace}, (∀ t ∈ ts, Tryd.prog.readableRec t = true ∧ t < Tryd.prog.types.size) →
    DataW.TrodAll enc Tryd.prog W 0 (fun _ => true) true ts vs ds ps → (∀ p ∈ ps, W.sameAt W' p) → (∀ p ∈ ps, sp' p.block = true) → DataW.TrodAll enc Tryd.prog W' 0 sp' true ts vs ds ps
  | [], _, _, _, _, h, _, _ => by
    obtain ⟨rfl, rfl, rfl⟩ := trodAll_nil h
    rfl
  | t :: ts, _, _, _, ht, h, hs, hp => by
    obtain ⟨v, vs1, d, ds1, a, b, rfl, rfl, rfl, h1, h2⟩ := trodAll_cons h
    refine ⟨a, b, WideElems.Trod_stays laidOut (ht t (by simp)).1 (ht t (by simp)).2 h1 (fun p hp => hs p (by simp [hp])) (fun x hx => hp x (by simp [hx])), trodAll_stays (fun t h => ht t (by simp [h])) h2 (fun p hp => hs p (by simp [hp])) (fun x hx => hp x (by simp [hx])), rfl⟩

theorem law_lifted {f : FuncId} {fn : Func} {s : ChangeSpec} (hf : Tryd.prog.funcs[f]? = some fn) (hni : Tryd.prog.inits.idxOf? f = none) (hn : (fn.name == "runtime.NumGoroutine") = false) (hb : fn.body.isNone = false)
    (hres : fn.resultTypes = #[4]) (hvars : s.vars = []) (hspec : ∀ (T : Type) (ds : List (DataW T)), ds.length = fn.params.size → s.fn T ds = { results := [.lit (.bool true)], args := ds })
    (hpt : ∀ t ∈ fn.params.toList, Tryd.prog.readableRec t = true ∧ t < Tryd.prog.types.size) (os : Os) (started : os.Started) (T : Type) (enc : TypeId × Value → T)
    (witness : ∃ (w : World) (tape : Tape) (i : Input), w.os = os ∧ (w.forCall tape i).Shaped Tryd.checked.prog ∧ i.vars = [] ∧ Input.okWide Tryd.checked.prog (w.forCall tape i) .any w.heap.size f i ∧
      ((s.pre enc Tryd.checked.prog fn [] false (w.forCall tape i).memory i.args ∧ laidMetH Tryd.prog laidL (w.forCall tape i).memory) ∧ sizedMet enc Tryd.checked.prog fn (OpenSpec.ofChange s) false (w.forCall tape i).memory i.args) ∧ ({} : Assume).holds Tryd.checked.prog (lone (Frame.enter Tryd.checked.prog f i.args .normal) [] (w.forCall tape i)))
    (hwalk : ∀ (W : World) (base : Nat) (args : Array Value) (ds : List (DataW T)) (ps : List MemPlace), (∀ (j : Nat) t v, fn.params[j]? = some t → args[j]? = some v → Value.okWide Tryd.prog W .any base t v) →
      DataW.TrodAll enc Tryd.prog W 0 (fun _ => true) true fn.params.toList args.toList ds ps → (DataW.weightsEach Tryd.prog fn.params.toList ds).all (· ≤ reachBytes) = true → ∃ avs, PureCall lexC f avs (.bool true) ∧ Reps G0 W avs args.toList) :
    ReturnsInHanded {} Tryd.checked os f .any (fun w args => (s.pre enc Tryd.prog fn [] false w args ∧ laidMetH Tryd.prog laidL w) ∧ sizedMet enc Tryd.prog fn (OpenSpec.ofChange s) false w args)
      (s.post enc Tryd.prog fn false true false false) := by
  refine returnsInHanded_of_change_and (C := Tryd.checked) (X := fun w _ => laidMetH Tryd.prog laidL w) (fun _ _ _ hh h => h.of_heap hh) own started hni hf witness ?_
  intro W base args ds gs before hval hW _ hweight hL _
  have hW' := hW
  obtain ⟨p, q, hA, hV, rfl, hfz, hnd⟩ := hW
  rw [hvars] at hV
  obtain ⟨rfl, rfl⟩ := trodVars_none hV
  have hvt : s.plain.varTypes Tryd.checked.prog = [] := by unfold DataSpec.varTypes; rw [show s.plain.vars = [] from hvars]; rfl
  rw [hvt, List.append_nil, List.append_nil] at hweight
  obtain ⟨avs, hp, hr⟩ := hwalk W base args ds p hval hA hweight
  have hlen : ds.length = fn.params.size := by
    have : ∀ {ts : List TypeId} {vs : List Value} {ds : List (DataW T)} {ps : List MemPlace}, DataW.TrodAll enc Tryd.prog W 0 (fun _ => true) true ts vs ds ps → ds.length = ts.length := by
      intro ts
      induction ts with
      | nil => intro vs ds ps h; obtain ⟨_, rfl, _⟩ := trodAll_nil h; rfl
      | cons t ts ih => intro vs ds ps h; obtain ⟨v, vs1, d, ds1, a, b, _, rfl, _, _, h2⟩ := trodAll_cons h; simp [ih h2]
    simpa using this hA
  refine (law_calls hp hf hn hb (of_laid hL) hr).mono fun e W' ⟨he, hbl⟩ => ?_
  subst he
  have e1 := hspec T ds hlen
  have hlt : ∀ x ∈ p, x.block < W.heap.size := fun x hx => hW'.lt x (by simp [hx])
  refine ⟨_, rfl, ds, [], p ++ [], [], p, [], hW', ?_, ?_, ?_, hbl.frame _, fun h => by cases h⟩
  · rw [List.append_nil, e1, hres]
    exact trodAll_mk1 (shut_bool Tryd.underlying4 true)
  · rw [List.append_nil, e1]
    exact trodAll_stays hpt hA (fun x hx => hbl.same (hlt x hx)) (fun x hx => by simpa using hlt x hx)
  · rw [List.append_nil, e1, hvars]
    rfl

/-- A law of one string. -/
theorem string_lifted {f : FuncId} {fn : Func} {s : ChangeSpec} (hf : Tryd.prog.funcs[f]? = some fn) (hni : Tryd.prog.inits.idxOf? f = none) (hn : (fn.name == "runtime.NumGoroutine") = false) (hb : fn.body.isNone = false)
    (hres : fn.resultTypes = #[4]) (hpar : fn.params = #[9]) (hvars : s.vars = []) (hspec : ∀ (T : Type) (d : DataW T), s.fn T [d] = { results := [.lit (.bool true)], args := [d] }) (os : Os) (started : os.Started) (T : Type) (enc : TypeId × Value → T)
    (hok : Input.okWideB Tryd.checked.prog ((World.doorLaid Tryd.prog 4000 os).forCall (fun _ _ => 0) ⟨#[], #[.string ⟨#[]⟩], []⟩) f ⟨#[], #[.string ⟨#[]⟩], []⟩ = true)
    (hpre : s.preB enc Tryd.checked.prog fn [] false ((World.doorLaid Tryd.prog 4000 os).forCall (fun _ _ => 0) ⟨#[], #[.string ⟨#[]⟩], []⟩).memory #[.string ⟨#[]⟩] 8 = true)
    (hsz : s.sizedB enc Tryd.checked.prog fn false ((World.doorLaid Tryd.prog 4000 os).forCall (fun _ _ => 0) ⟨#[], #[.string ⟨#[]⟩], []⟩).memory #[.string ⟨#[]⟩] 8 = true)
    (hp : ∀ l : List UInt8, l.length ≤ 140737488351232 → PureCall lexC f [.str l] (.bool true)) :
    ReturnsInHanded {} Tryd.checked os f .any (fun w args => (s.pre enc Tryd.prog fn [] false w args ∧ laidMetH Tryd.prog laidL w) ∧ sizedMet enc Tryd.prog fn (OpenSpec.ofChange s) false w args)
      (s.post enc Tryd.prog fn false true false false) := by
  refine law_lifted hf hni hn hb hres hvars (fun T ds h => ?_) (fun t ht => ?_) os started T enc
    (ChangeSpec.witness_shaped (enc := enc) (C := Tryd.checked) (os := os) (X := fun w _ => laidMetH Tryd.prog laidL w) false (World.doorLaid Tryd.prog 4000 os) #[.string ⟨#[]⟩] 8 rfl (World.shaped_of_RefB (by kernel_rfl) (by kernel_rfl)) hok hpre hsz (door_met os _)) ?_
  · rw [hpar] at h
    match ds, h with
    | [d], _ => exact hspec T d
  · rw [hpar] at ht
    have : t = 9 := by simpa using ht
    subst this
    exact ⟨by kernel_rfl, of_decide_eq_true (by kernel_rfl)⟩
  · intro W base args ds ps hval hA hw
    rw [hpar] at hA hval hw
    obtain ⟨v0, d0, rfl, rfl, h0⟩ := trodAll_one hA
    obtain ⟨l, rfl, rfl, rfl, _⟩ := ChangeMaps.open_string Tryd.underlying9 (hval 0 9 v0 rfl rfl) h0
    have hl : l.data.toList.length ≤ 140737488351232 := by
      simp only [DataW.weightsEach, DataW.weights, List.cons_append, List.nil_append, List.all_cons, Bool.and_eq_true, decide_eq_true_eq] at hw
      exact hw.1
    exact ⟨_, hp l.data.toList hl, reps1 (.str l.data.toList)⟩

/-- A law of a string and a number. -/
theorem strint_lifted {f : FuncId} {fn : Func} {s : ChangeSpec} (hf : Tryd.prog.funcs[f]? = some fn) (hni : Tryd.prog.inits.idxOf? f = none) (hn : (fn.name == "runtime.NumGoroutine") = false) (hb : fn.body.isNone = false)
    (hres : fn.resultTypes = #[4]) (hpar : fn.params = #[9, 3]) (hvars : s.vars = []) (hspec : ∀ (T : Type) (d e : DataW T), s.fn T [d, e] = { results := [.lit (.bool true)], args := [d, e] }) (os : Os) (started : os.Started) (T : Type) (enc : TypeId × Value → T)
    (hok : Input.okWideB Tryd.checked.prog ((World.doorLaid Tryd.prog 4000 os).forCall (fun _ _ => 0) ⟨#[], #[.string ⟨#[]⟩, .int .i64 0], []⟩) f ⟨#[], #[.string ⟨#[]⟩, .int .i64 0], []⟩ = true)
    (hpre : s.preB enc Tryd.checked.prog fn [] false ((World.doorLaid Tryd.prog 4000 os).forCall (fun _ _ => 0) ⟨#[], #[.string ⟨#[]⟩, .int .i64 0], []⟩).memory #[.string ⟨#[]⟩, .int .i64 0] 8 = true)
    (hsz : s.sizedB enc Tryd.checked.prog fn false ((World.doorLaid Tryd.prog 4000 os).forCall (fun _ _ => 0) ⟨#[], #[.string ⟨#[]⟩, .int .i64 0], []⟩).memory #[.string ⟨#[]⟩, .int .i64 0] 8 = true)
    (hp : ∀ (l : List UInt8) (n : Int), l.length ≤ 140737488351232 → PureCall lexC f [.str l, .int .i64 n] (.bool true)) :
    ReturnsInHanded {} Tryd.checked os f .any (fun w args => (s.pre enc Tryd.prog fn [] false w args ∧ laidMetH Tryd.prog laidL w) ∧ sizedMet enc Tryd.prog fn (OpenSpec.ofChange s) false w args)
      (s.post enc Tryd.prog fn false true false false) := by
  refine law_lifted hf hni hn hb hres hvars (fun T ds h => ?_) (fun t ht => ?_) os started T enc
    (ChangeSpec.witness_shaped (enc := enc) (C := Tryd.checked) (os := os) (X := fun w _ => laidMetH Tryd.prog laidL w) false (World.doorLaid Tryd.prog 4000 os) #[.string ⟨#[]⟩, .int .i64 0] 8 rfl (World.shaped_of_RefB (by kernel_rfl) (by kernel_rfl)) hok hpre hsz (door_met os _)) ?_
  · rw [hpar] at h
    match ds, h with
    | [d, e], _ => exact hspec T d e
  · rw [hpar] at ht
    have : t = 9 ∨ t = 3 := by simpa using ht
    rcases this with rfl | rfl <;> exact ⟨by kernel_rfl, of_decide_eq_true (by kernel_rfl)⟩
  · intro W base args ds ps hval hA hw
    rw [hpar] at hA hval hw
    obtain ⟨v0, v1, d0, d1, p0, p1, rfl, rfl, rfl, h0, h1⟩ := trodAll_two hA
    obtain ⟨l, rfl, rfl, rfl, _⟩ := ChangeMaps.open_string Tryd.underlying9 (hval 0 9 v0 rfl rfl) h0
    obtain ⟨n, rfl, rfl, rfl, _⟩ := open_int Tryd.underlying3 (hval 1 3 v1 rfl rfl) h1
    have hl : l.data.toList.length ≤ 140737488351232 := by
      simp only [DataW.weightsEach, DataW.weights, List.cons_append, List.nil_append, List.all_cons, Bool.and_eq_true, decide_eq_true_eq] at hw
      exact hw.1
    exact ⟨_, hp l.data.toList n hl, Reps.cons (.str l.data.toList) (reps1 (.int _ _))⟩

end Go.Proofs.YtkcljempplchkaaDoor

/- The frame of a law of a string, a number and a string. -/
set_option maxRecDepth 100000
set_option linter.unusedVariables false
set_option linter.unusedSimpArgs false
namespace Go.Proofs.YtkcljempplchkaaDoor
open Go.Eng Go.RowKit Go.ChangeShapes Go.WideShapes

/-- A law of a string, a number and a string. -/
theorem strintstr_lifted {f : FuncId} {fn : Func} {s : ChangeSpec} (hf : Tryd.prog.funcs[f]? = some fn) (hni : Tryd.prog.inits.idxOf? f = none) (hn : (fn.name == "runtime.NumGoroutine") = false) (hb : fn.body.isNone = false)
    (hres : fn.resultTypes = #[4]) (hpar : fn.params = #[9, 3, 9]) (hvars : s.vars = []) (hspec : ∀ (T : Type) (d e k : DataW T), s.fn T [d, e, k] = { results := [.lit (.bool true)], args := [d, e, k] }) (os : Os) (started : os.Started) (T : Type) (enc : TypeId × Value → T)
    (hok : Input.okWideB Tryd.checked.prog ((World.doorLaid Tryd.prog 4000 os).forCall (fun _ _ => 0) ⟨#[], #[.string ⟨#[]⟩, .int .i64 0, .string ⟨#[]⟩], []⟩) f ⟨#[], #[.string ⟨#[]⟩, .int .i64 0, .string ⟨#[]⟩], []⟩ = true)
    (hpre : s.preB enc Tryd.checked.prog fn [] false ((World.doorLaid Tryd.prog 4000 os).forCall (fun _ _ => 0) ⟨#[], #[.string ⟨#[]⟩, .int .i64 0, .string ⟨#[]⟩], []⟩).memory #[.string ⟨#[]⟩, .int .i64 0, .string ⟨#[]⟩] 8 = true)
    (hsz : s.sizedB enc Tryd.checked.prog fn false ((World.doorLaid Tryd.prog 4000 os).forCall (fun _ _ => 0) ⟨#[], #[.string ⟨#[]⟩, .int .i64 0, .string ⟨#[]⟩], []⟩).memory #[.string ⟨#[]⟩, .int .i64 0, .string ⟨#[]⟩] 8 = true)
    (hp : ∀ (l : List UInt8) (n : Int) (c : List UInt8), l.length ≤ 140737488351232 → c.length ≤ 140737488351232 → PureCall lexC f [.str l, .int .i64 n, .str c] (.bool true)) :
    ReturnsInHanded {} Tryd.checked os f .any (fun w args => (s.pre enc Tryd.prog fn [] false w args ∧ laidMetH Tryd.prog laidL w) ∧ sizedMet enc Tryd.prog fn (OpenSpec.ofChange s) false w args)
      (s.post enc Tryd.prog fn false true false false) := by
  refine law_lifted hf hni hn hb hres hvars (fun T ds h => ?_) (fun t ht => ?_) os started T enc
    (ChangeSpec.witness_shaped (enc := enc) (C := Tryd.checked) (os := os) (X := fun w _ => laidMetH Tryd.prog laidL w) false (World.doorLaid Tryd.prog 4000 os) #[.string ⟨#[]⟩, .int .i64 0, .string ⟨#[]⟩] 8 rfl (World.shaped_of_RefB (by kernel_rfl) (by kernel_rfl)) hok hpre hsz (door_met os _)) ?_
  · rw [hpar] at h
    match ds, h with
    | [d, e, k], _ => exact hspec T d e k
  · rw [hpar] at ht
    have : t = 9 ∨ t = 3 ∨ t = 9 := by simpa using ht
    rcases this with rfl | rfl | rfl <;> exact ⟨by kernel_rfl, of_decide_eq_true (by kernel_rfl)⟩
  · intro W base args ds ps hval hA hw
    rw [hpar] at hA hval hw
    obtain ⟨v0, v1, v2, d0, d1, d2, p0, p1, p2, rfl, rfl, rfl, h0, h1, h2⟩ := trodAll_three hA
    obtain ⟨l, rfl, rfl, rfl, _⟩ := ChangeMaps.open_string Tryd.underlying9 (hval 0 9 v0 rfl rfl) h0
    obtain ⟨n, rfl, rfl, rfl, _⟩ := open_int Tryd.underlying3 (hval 1 3 v1 rfl rfl) h1
    obtain ⟨c, rfl, rfl, rfl, _⟩ := ChangeMaps.open_string Tryd.underlying9 (hval 2 9 v2 rfl rfl) h2
    simp only [DataW.weightsEach, DataW.weights, List.cons_append, List.nil_append, List.all_cons, Bool.and_eq_true, decide_eq_true_eq] at hw
    exact ⟨_, hp l.data.toList n c.data.toList hw.1 hw.2.1, Reps.cons (.str l.data.toList) (Reps.cons (.int _ _) (reps1 (.str c.data.toList)))⟩

end Go.Proofs.YtkcljempplchkaaDoor

/- Lexing, suffix by suffix. -/
set_option maxRecDepth 100000
set_option linter.unusedVariables false
set_option linter.unusedSimpArgs false
namespace Go.Proofs.YtkcljempplchkaaDoor
open Go.Eng

theorem takeWhile_span (p : UInt8 → Bool) : ∀ l : List UInt8, l.take (spanN p l) = l.takeWhile p ∧ l.drop (spanN p l) = l.dropWhile p
  | [] => ⟨rfl, rfl⟩
  | c :: l => by
    obtain ⟨h1, h2⟩ := takeWhile_span p l
    rw [spanN, List.takeWhile_cons, List.dropWhile_cons]
    split
    · rw [List.take_succ_cons, List.drop_succ_cons, h1, h2]; exact ⟨rfl, rfl⟩
    · exact ⟨rfl, rfl⟩

/-- What stands behind blanks and comments. -/
def blS : Nat → List UInt8 → List UInt8
  | 0, l => l
  | _ + 1, [] => []
  | f + 1, c :: l => if isBlank c = true then blS f l else if pfx [45, 45] (c :: l) = true then blS f ((c :: l).dropWhile notNl) else c :: l
def bl (l : List UInt8) : List UInt8 := blS l.length l

theorem drop_cons {s : List UInt8} {i : Nat} {c : UInt8} (h : s[i]? = some c) : s.drop i = c :: s.drop (i + 1) := by
  have hi := (List.getElem?_eq_some_iff.1 h).1
  rw [List.drop_eq_getElem_cons hi]
  rw [List.getElem?_eq_getElem hi] at h
  cases h; rfl

theorem blk_drop (s : List UInt8) : ∀ (f i : Nat), s.drop (blk s f i) = blS f (s.drop i)
  | 0, i => rfl
  | f + 1, i => by
    unfold blk
    cases hs : s[i]? with
    | none =>
      simp only
      rw [List.getElem?_eq_none_iff] at hs
      rw [List.drop_eq_nil_of_le hs]; rfl
    | some c =>
      simp only
      rw [drop_cons hs, blS, ← drop_cons hs]
      split
      · exact blk_drop s f (i + 1)
      · split
        · obtain ⟨_, hd⟩ := takeWhile_span notNl (s.drop i)
          rw [← hd, spanN_index]
          split
          · rw [List.drop_of_length_le (Nat.le_refl _)]
            rw [List.drop_of_length_le (Nat.le_refl _)]
            cases f <;> rfl
          · rw [List.drop_drop, ← blk_drop s f]
        · rfl
theorem dropWhile_len (p : UInt8 → Bool) (l : List UInt8) : (l.dropWhile p).length ≤ l.length := by
  obtain ⟨_, h⟩ := takeWhile_span p l
  rw [← h, List.length_drop]; omega
theorem comment_len {c : UInt8} {l : List UInt8} (h : pfx [45, 45] (c :: l) = true) : ((c :: l).dropWhile notNl).length ≤ l.length := by
  have : notNl c = true := by
    have hc : c = 45 := by
      cases l with
      | nil => simp [pfx, List.isPrefixOf] at h
      | cons d l => simp only [pfx, List.isPrefixOf, Bool.and_eq_true, beq_iff_eq] at h; exact h.1.symm
    subst hc; decide
  rw [List.dropWhile_cons, this, if_pos rfl]
  exact dropWhile_len notNl l
theorem blS_fuel : ∀ (f : Nat) (l : List UInt8), l.length ≤ f → blS f l = bl l := by
  intro f
  induction f using Nat.strongRecOn with
  | _ f ih =>
    intro l h
    cases f with
    | zero => have : l = [] := List.length_eq_zero_iff.1 (by omega); subst this; rfl
    | succ f =>
      cases l with
      | nil => rfl
      | cons c l =>
        have h' : l.length ≤ f := by simpa using h
        unfold bl
        rw [List.length_cons, blS, blS]
        split
        · rw [ih f (by omega) l h']; rfl
        · split
          · rename_i hp
            have := comment_len hp
            rw [ih f (by omega) _ (by omega)]
            rcases Nat.lt_or_ge l.length (f + 1) with h2 | h2
            · rw [ih l.length h2 _ this]
            · omega
          · rfl
theorem bl_nil : bl [] = [] := rfl
theorem bl_cons (c : UInt8) (l : List UInt8) : bl (c :: l) = if isBlank c = true then bl l else if pfx [45, 45] (c :: l) = true then bl ((c :: l).dropWhile notNl) else c :: l := by
  conv => lhs; unfold bl
  rw [List.length_cons, blS]
  split
  · rw [blS_fuel _ _ (Nat.le_refl _)]
  · split
    · rename_i hp
      rw [blS_fuel _ _ (comment_len hp)]
    · rfl
theorem blanks_drop {s : List UInt8} {i : Nat} (hi : i ≤ s.length) : s.drop (blanksTo s i) = bl (s.drop i) := by
  unfold blanksTo
  rw [blk_drop, blS_fuel _ _ (by rw [List.length_drop]; omega)]
theorem bl_len : ∀ (n : Nat) (l : List UInt8), l.length = n → (bl l).length ≤ l.length := by
  intro n
  induction n using Nat.strongRecOn with
  | _ n ih =>
    intro l h
    cases l with
    | nil => exact Nat.le_refl _
    | cons c l =>
      rw [List.length_cons] at h
      rw [bl_cons]
      split
      · have := ih l.length (by omega) l rfl; rw [List.length_cons]; omega
      · split
        · rename_i hp
          have h1 := comment_len hp
          have := ih _ (by omega) ((c :: l).dropWhile notNl) rfl
          rw [List.length_cons]; omega
        · exact Nat.le_refl _
/-- What stands there is no blank and begins no comment. -/
def clean : List UInt8 → Bool
  | [] => true
  | c :: l => !isBlank c && !pfx [45, 45] (c :: l)
theorem bl_clean : ∀ (n : Nat) (l : List UInt8), l.length = n → clean (bl l) = true := by
  intro n
  induction n using Nat.strongRecOn with
  | _ n ih =>
    intro l h
    cases l with
    | nil => rfl
    | cons c l =>
      rw [List.length_cons] at h
      rw [bl_cons]
      split
      · exact ih l.length (by omega) l rfl
      · split
        · rename_i hp
          have h1 := comment_len hp
          exact ih _ (by omega) ((c :: l).dropWhile notNl) rfl
        · rename_i h1 h2
          simp [clean, h1, h2]
theorem bl_of_clean {l : List UInt8} (h : clean l = true) : bl l = l := by
  cases l with
  | nil => rfl
  | cons c l =>
    simp only [clean, Bool.and_eq_true, Bool.not_eq_true'] at h
    rw [bl_cons, if_neg (by simp [h.1]), if_neg (by simp [h.2])]

/-- The token with which a text begins. -/
def tokS : List UInt8 → Option (Int × List UInt8)
  | [] => none
  | c :: r =>
    if signs.contains c then some (5, [c])
    else if iEq (uC c) 95 && !inName (r.headD 0) then some (5, [95])
    else if iEq (uC c) 39 && capital (r.headD 0) then some (5, [39])
    else if inName c then
      (if isWord ((c :: r).takeWhile inName) then some (6, (c :: r).takeWhile inName) else if IsSmall ((c :: r).takeWhile inName) then some (1, (c :: r).takeWhile inName) else if IsCapital ((c :: r).takeWhile inName) then some (2, (c :: r).takeWhile inName)
        else if digit c && number ((c :: r).takeWhile inName) then some (4, (c :: r).takeWhile inName) else none)
    else if inOp c then (if reserved ((c :: r).takeWhile inOp) then some (5, (c :: r).takeWhile inOp) else if isOp ((c :: r).takeWhile inOp) then some (3, (c :: r).takeWhile inOp) else none)
    else none

theorem tokAt_drop {s : List UInt8} {i : Nat} {c : UInt8} (hc : s[i]? = some c) : tokAt s i c = tokS (s.drop i) := by
  have hs : ∀ p, spanS p s i = (s.drop i).takeWhile p := fun p => by
    rw [← (takeWhile_span p (s.drop i)).1]
    unfold spanS
    rw [List.drop_take, show i + spanN p (s.drop i) - i = spanN p (s.drop i) by omega]
  have hn : s.getD (i + 1) 0 = (s.drop (i + 1)).headD 0 := by
    rw [List.getD_eq_getElem?_getD, List.headD_eq_head?_getD, List.head?_drop]
  unfold tokAt
  rw [sign_iff, hs, hs, hn, drop_cons hc]
  rfl

/-- The tokens of a text: kind, text, and how much text is left where it begins. -/
def lexS : Nat → List UInt8 → Option (List (Int × List UInt8 × Nat))
  | 0, _ => none
  | f + 1, l => match bl l with
    | [] => some [(7, [], 0)]
    | c :: r => match tokS (c :: r) with
      | none => none
      | some t => (lexS f ((c :: r).drop t.2.length)).map fun ts => (t.1, t.2, (c :: r).length) :: ts
def lexT (l : List UInt8) : Option (List (Int × List UInt8 × Nat)) := lexS (l.length + 1) l

def conv (n : Nat) (t : Int × List UInt8 × Nat) : Token := ⟨t.1, t.2.1, ((n - t.2.2 : Nat) : Int)⟩
def optE : Except Nat (List Token) → Option (List Token)
  | .ok l => some l
  | .error _ => none
theorem optE_cons (t : Token) (e : Except Nat (List Token)) : optE (consE t e) = (optE e).map (t :: ·) := by cases e <;> rfl

theorem lexS_eq (s : List UInt8) : ∀ (f i : Nat), i ≤ s.length → optE (lexF s f i) = (lexS f (s.drop i)).map fun ts => ts.map (conv s.length)
  | 0, i, _ => rfl
  | f + 1, i, hi => by
    obtain ⟨b1, b2⟩ := blanksTo_le hi
    rw [lexF, lexS, ← blanks_drop hi]
    cases hs : s[blanksTo s i]? with
    | none =>
      rw [List.getElem?_eq_none_iff] at hs
      rw [List.drop_eq_nil_of_le hs]
      simp [optE, conv]
    | some c =>
      rw [drop_cons hs]
      simp only
      rw [← drop_cons hs, ← tokAt_drop hs]
      cases ht : tokAt s (blanksTo s i) c with
      | none => rfl
      | some t =>
        simp only
        obtain ⟨h1, h2⟩ := tokAt_len hs ht
        rw [optE_cons, lexS_eq s f _ h2, List.drop_drop]
        cases lexS f (s.drop (blanksTo s i + t.2.length)) with
        | none => rfl
        | some ts =>
          simp only [Option.map_some, List.map_cons, Option.some.injEq, List.cons.injEq, and_true]
          simp only [conv, List.length_drop]
          congr 1
          omega
theorem lexT_eq (s : List UInt8) : optE (lexE s) = (lexT s).map fun ts => ts.map (conv s.length) := by
  have := lexS_eq s (s.length + 1) 0 (Nat.zero_le _)
  rw [List.drop_zero] at this
  exact this

theorem takeWhile_len_pos {p : UInt8 → Bool} {c : UInt8} {r : List UInt8} (h : p c = true) : 1 ≤ ((c :: r).takeWhile p).length := by
  rw [List.takeWhile_cons, h, if_pos rfl]; simp
theorem takeWhile_le (p : UInt8 → Bool) (l : List UInt8) : (l.takeWhile p).length ≤ l.length := by
  rw [← (takeWhile_span p l).1, List.length_take]; omega
theorem tokS_len {l : List UInt8} {t : Int × List UInt8} (h : tokS l = some t) : 1 ≤ t.2.length ∧ t.2.length ≤ l.length := by
  cases l with
  | nil => cases h
  | cons c r =>
    have h1 := fun (hp : inName c = true) => takeWhile_len_pos (r := r) hp
    have h2 := fun (hp : inOp c = true) => takeWhile_len_pos (r := r) hp
    have h3 := takeWhile_le inName (c :: r)
    have h4 := takeWhile_le inOp (c :: r)
    have h5 : 1 ≤ (c :: r).length := by simp
    rw [tokS] at h
    generalize (c :: r).takeWhile inName = a at *
    generalize (c :: r).takeWhile inOp = b at *
    repeat' split at h
    all_goals first
      | (cases h; done)
      | (cases h; exact ⟨Nat.le_refl _, h5⟩)
      | (cases h; exact ⟨h1 (by assumption), h3⟩)
      | (cases h; exact ⟨h2 (by assumption), h4⟩)
theorem lexS_fuel : ∀ (f : Nat) (l : List UInt8), l.length + 1 ≤ f → lexS f l = lexT l := by
  intro f
  induction f using Nat.strongRecOn with
  | _ f ih =>
    intro l h
    cases f with
    | zero => omega
    | succ f =>
      have hb := bl_len _ l rfl
      unfold lexT
      rw [lexS, lexS]
      cases hl : bl l with
      | nil => rfl
      | cons c r =>
        simp only
        cases ht : tokS (c :: r) with
        | none => rfl
        | some t =>
          simp only
          obtain ⟨h1, h2⟩ := tokS_len ht
          rw [hl] at hb
          have h3 : ((c :: r).drop t.2.length).length + 1 ≤ (c :: r).length := by rw [List.length_drop]; omega
          rw [ih f (by omega) _ (by omega)]
          rcases Nat.lt_or_ge l.length (f + 1) with h4 | h4
          · rw [ih l.length h4 _ (by omega)]
          · omega
theorem lexT_step (l : List UInt8) : lexT l = match bl l with
    | [] => some [(7, [], 0)]
    | c :: r => match tokS (c :: r) with
      | none => none
      | some t => (lexT ((c :: r).drop t.2.length)).map fun ts => (t.1, t.2, (c :: r).length) :: ts := by
  conv => lhs; unfold lexT
  rw [lexS]
  have hb := bl_len _ l rfl
  cases hl : bl l with
  | nil => rfl
  | cons c r =>
    simp only
    cases ht : tokS (c :: r) with
    | none => rfl
    | some t =>
      simp only
      obtain ⟨h1, h2⟩ := tokS_len ht
      rw [hl] at hb
      rw [lexS_fuel _ _ (by rw [List.length_drop]; omega)]
theorem lexT_nil {l : List UInt8} (h : bl l = []) : lexT l = some [(7, [], 0)] := by rw [lexT_step, h]
theorem lexT_cons {l v : List UInt8} {t : Int × List UInt8} (h : bl l = v) (ht : tokS v = some t) : lexT l = (lexT (v.drop t.2.length)).map fun ts => (t.1, t.2, v.length) :: ts := by
  rw [lexT_step, h]
  cases v with
  | nil => cases ht
  | cons c r => simp only [ht]
theorem lexT_inv {l : List UInt8} {ts : List (Int × List UInt8 × Nat)} (h : lexT l = some ts) :
    (bl l = [] ∧ ts = [(7, [], 0)]) ∨ ∃ v t ts', bl l = v ∧ v ≠ [] ∧ tokS v = some t ∧ lexT (v.drop t.2.length) = some ts' ∧ ts = (t.1, t.2, v.length) :: ts' := by
  rw [lexT_step] at h
  cases hl : bl l with
  | nil => rw [hl] at h; cases h; exact .inl ⟨rfl, rfl⟩
  | cons c r =>
    rw [hl] at h
    simp only at h
    cases ht : tokS (c :: r) with
    | none => rw [ht] at h; cases h
    | some t =>
      rw [ht] at h
      simp only [Option.map_eq_some_iff] at h
      obtain ⟨ts', h1, h2⟩ := h
      exact .inr ⟨c :: r, t, ts', rfl, by simp, ht, h1, h2.symm⟩

end Go.Proofs.YtkcljempplchkaaDoor

/- Blanks and a comment put in before a token. -/
set_option maxRecDepth 100000
set_option linter.unusedVariables false
set_option linter.unusedSimpArgs false
namespace Go.Proofs.YtkcljempplchkaaDoor
open Go.Eng

def insL (line : List UInt8) : List UInt8 := [9, 32, 45, 45, 32] ++ (line ++ [10, 13])
theorem insL_len (line : List UInt8) : (insL line).length = line.length + 7 := by simp [insL]

theorem dropWhile_all {p : UInt8 → Bool} : ∀ {l : List UInt8} (m : List UInt8), l.all p = true → (l ++ m).dropWhile p = m.dropWhile p
  | [], m, _ => rfl
  | c :: l, m, h => by
    rw [List.all_cons, Bool.and_eq_true] at h
    rw [List.cons_append, List.dropWhile_cons, if_pos h.1, dropWhile_all m h.2]
theorem dropWhile_not {p : UInt8 → Bool} : ∀ {l : List UInt8} (m : List UInt8), l.all p = false → (l ++ m).dropWhile p = l.dropWhile p ++ m ∧ l.dropWhile p ≠ []
  | [], m, h => by simp at h
  | c :: l, m, h => by
    rw [List.cons_append, List.dropWhile_cons, List.dropWhile_cons]
    cases hc : p c with
    | true =>
      rw [if_pos rfl, if_pos rfl]
      exact dropWhile_not m (by rw [List.all_cons, hc, Bool.true_and] at h; exact h)
    | false => exact ⟨by simp, by simp⟩

theorem bl_ins {line : List UInt8} (hl : line.all notNl = true) (b : List UInt8) : bl (insL line ++ b) = bl b := by
  have e : insL line ++ b = 9 :: 32 :: 45 :: 45 :: 32 :: (line ++ (10 :: 13 :: b)) := by simp [insL]
  rw [e, bl_cons, if_pos (by decide), bl_cons, if_pos (by decide), bl_cons, if_neg (by decide), if_pos (by simp [pfx, List.isPrefixOf])]
  have e2 : (45 :: 45 :: 32 :: (line ++ 10 :: 13 :: b)) = ([45, 45, 32] ++ line) ++ (10 :: 13 :: b) := by simp
  rw [e2, dropWhile_all _ (by rw [List.all_append, hl]; decide), List.dropWhile_cons, if_neg (by decide), bl_cons, if_pos (by decide), bl_cons, if_pos (by decide)]

theorem clean_head {c : UInt8} {l : List UInt8} (h : clean (c :: l) = true) : notNl c = true := by
  simp only [clean, Bool.and_eq_true, Bool.not_eq_true'] at h
  have hb := h.1
  unfold isBlank at hb
  simp only [Bool.or_eq_false_iff] at hb
  unfold notNl
  rw [hb.1.2]; rfl
theorem drop_short {c : UInt8} {l : List UInt8} (h : clean (c :: l) = true) : (bl ((c :: l).dropWhile notNl)).length < (c :: l).length := by
  have h1 := bl_len _ ((c :: l).dropWhile notNl) rfl
  rw [List.dropWhile_cons, clean_head h, if_pos rfl] at h1 ⊢
  have := dropWhile_len notNl l
  rw [List.length_cons]; omega
theorem pfx_app {c d : UInt8} {u m m' : List UInt8} : pfx [45, 45] (c :: d :: u ++ m) = pfx [45, 45] (c :: d :: u ++ m') := by simp [pfx, List.isPrefixOf]

/-- The blanks before a token, and what is put in. -/
theorem bl_gap {line : List UInt8} (hl : line.all notNl = true) {b : List UInt8} (hb : clean b = true) : ∀ (n : Nat) (u : List UInt8), u.length = n → bl (u ++ b) = b → bl (u ++ (insL line ++ b)) = b := by
  intro n
  induction n using Nat.strongRecOn with
  | _ n ih =>
    intro u hn h
    cases u with
    | nil => rw [List.nil_append, bl_ins hl, bl_of_clean hb]
    | cons c u =>
      rw [List.length_cons] at hn
      rw [List.cons_append, bl_cons] at h
      rw [List.cons_append, bl_cons]
      split
      · rename_i hc
        rw [if_pos hc] at h
        exact ih u.length (by omega) u rfl h
      · rename_i hc
        rw [if_neg hc] at h
        cases hp : pfx [45, 45] (c :: (u ++ b)) with
        | false =>
          rw [hp, if_neg (by simp)] at h
          have := congrArg List.length h
          simp at this; omega
        | true =>
          rw [hp, if_pos rfl] at h
          cases u with
          | nil =>
            -- the second sign would be the token's own
            rw [List.nil_append] at h hp
            cases b with
            | nil => simp [pfx, List.isPrefixOf] at hp
            | cons d b =>
              exfalso
              have hcn : notNl c = true := by
                have : c = 45 := by simp only [pfx, List.isPrefixOf, Bool.and_eq_true, beq_iff_eq] at hp; exact hp.1.symm
                subst this; decide
              rw [List.dropWhile_cons, hcn, if_pos rfl] at h
              have := drop_short hb
              rw [h] at this
              omega
          | cons d u =>
            have hp' : pfx [45, 45] (c :: (d :: u ++ (insL line ++ b))) = true := by
              have := pfx_app (c := c) (d := d) (u := u) (m := b) (m' := insL line ++ b)
              rw [← List.cons_append, ← this]; exact hp
            rw [hp', if_pos rfl]
            rw [← List.cons_append] at h ⊢
            cases hall : (c :: d :: u).all notNl with
            | false =>
              obtain ⟨e1, e2⟩ := dropWhile_not b hall
              obtain ⟨e3, _⟩ := dropWhile_not (insL line ++ b) hall
              rw [e1] at h
              rw [e3]
              have hcl : ((c :: d :: u).dropWhile notNl).length ≤ (d :: u).length := by
                have : pfx [45, 45] (c :: d :: u) = true := by
                  have := pfx_app (c := c) (d := d) (u := u) (m := b) (m' := [])
                  rw [List.append_nil] at this
                  rw [← this]; exact hp
                exact comment_len this
              exact ih _ (by omega) _ rfl h
            | true =>
              rw [dropWhile_all _ hall] at h
              cases b with
              | cons e b => exact absurd (congrArg List.length h) (by have := drop_short hb; omega)
              | nil =>
                have e : (c :: d :: u) ++ (insL line ++ []) = ((c :: d :: u) ++ ([9, 32, 45, 45, 32] ++ line)) ++ [10, 13] := by simp [insL]
                rw [e, dropWhile_all _ (by rw [List.all_append, hall, List.all_append, hl]; decide)]
                decide

theorem bl_suffix : ∀ (n : Nat) (l : List UInt8), l.length = n → ∃ w, l = w ++ bl l := by
  intro n
  induction n using Nat.strongRecOn with
  | _ n ih =>
    intro l h
    cases l with
    | nil => exact ⟨[], rfl⟩
    | cons c l =>
      rw [List.length_cons] at h
      rw [bl_cons]
      split
      · obtain ⟨w, hw⟩ := ih l.length (by omega) l rfl
        exact ⟨c :: w, by rw [List.cons_append, ← hw]⟩
      · split
        · rename_i hp
          have h1 := comment_len hp
          obtain ⟨w, hw⟩ := ih _ (by omega) ((c :: l).dropWhile notNl) rfl
          refine ⟨(c :: l).takeWhile notNl ++ w, ?_⟩
          rw [List.append_assoc, ← hw, List.takeWhile_append_dropWhile]
        · exact ⟨[], rfl⟩

/-- The blanks before a token that stands ahead of what is put in. -/
theorem bl_ahead {b z : List UInt8} : ∀ (n : Nat) (u v : List UInt8), u.length = n → v ≠ [] → bl (u ++ b) = v ++ b → bl (u ++ 9 :: z) = v ++ 9 :: z := by
  intro n
  induction n using Nat.strongRecOn with
  | _ n ih =>
    intro u v hn hv h
    have hvl : 0 < v.length := List.length_pos_iff.2 hv
    cases u with
    | nil =>
      exfalso
      have h1 := bl_len _ b rfl
      rw [List.nil_append] at h
      rw [h, List.length_append] at h1; omega
    | cons c u =>
      rw [List.length_cons] at hn
      rw [List.cons_append, bl_cons] at h
      rw [List.cons_append, bl_cons]
      split
      · rename_i hc
        rw [if_pos hc] at h
        exact ih u.length (by omega) u v rfl hv h
      · rename_i hc
        rw [if_neg hc] at h
        cases hp : pfx [45, 45] (c :: (u ++ b)) with
        | false =>
          rw [hp, if_neg (by simp)] at h
          have e : v = c :: u := by
            rw [← List.cons_append] at h
            exact (List.append_cancel_right h).symm
          subst e
          have : pfx [45, 45] (c :: (u ++ 9 :: z)) = false := by
            cases u with
            | nil => simp [pfx, List.isPrefixOf]
            | cons d u =>
              have := pfx_app (c := c) (d := d) (u := u) (m := b) (m' := 9 :: z)
              rw [← List.cons_append, ← this]; exact hp
          rw [this, if_neg (by simp), List.cons_append]
        | true =>
          rw [hp, if_pos rfl] at h
          cases u with
          | nil =>
            exfalso
            have h1 := bl_len _ ((c :: ([] ++ b)).dropWhile notNl) rfl
            have h2 := comment_len hp
            rw [h, List.length_append] at h1
            rw [List.nil_append] at h2 h1
            omega
          | cons d u =>
            have hp' : pfx [45, 45] (c :: (d :: u ++ 9 :: z)) = true := by
              have := pfx_app (c := c) (d := d) (u := u) (m := b) (m' := 9 :: z)
              rw [← List.cons_append, ← this]; exact hp
            rw [hp', if_pos rfl]
            rw [← List.cons_append] at h ⊢
            cases hall : (c :: d :: u).all notNl with
            | false =>
              obtain ⟨e1, e2⟩ := dropWhile_not b hall
              obtain ⟨e3, _⟩ := dropWhile_not (9 :: z) hall
              rw [e1] at h
              rw [e3]
              have hcl : ((c :: d :: u).dropWhile notNl).length ≤ (d :: u).length := by
                have : pfx [45, 45] (c :: d :: u) = true := by
                  have := pfx_app (c := c) (d := d) (u := u) (m := b) (m' := [])
                  rw [List.append_nil] at this
                  rw [← this]; exact hp
                exact comment_len this
              exact ih _ (by omega) _ v rfl hv h
            | true =>
              exfalso
              rw [dropWhile_all _ hall] at h
              have h1 := bl_len _ (b.dropWhile notNl) rfl
              have h2 := dropWhile_len notNl b
              rw [h, List.length_append] at h1
              omega

/-- A longest run that ends before what follows. -/
theorem run_same {p : UInt8 → Bool} {x : UInt8} (hx : p x = false) {b z : List UInt8} : ∀ (v : List UInt8), ((v ++ b).takeWhile p).length ≤ v.length → (v ++ x :: z).takeWhile p = (v ++ b).takeWhile p
  | [], h => by
    simp only [List.nil_append] at h ⊢
    rw [List.takeWhile_cons, hx, if_neg (by simp)]
    exact (List.length_eq_zero_iff.1 (by simpa using h)).symm
  | c :: v, h => by
    rw [List.cons_append, List.takeWhile_cons] at h
    rw [List.cons_append, List.cons_append, List.takeWhile_cons, List.takeWhile_cons]
    split
    · rename_i hc
      rw [if_pos hc] at h
      rw [run_same hx v (by simpa using h)]
    · rfl
theorem tok_same {v b z : List UInt8} {t : Int × List UInt8} {x : UInt8} (hx1 : inName x = false) (hx2 : inOp x = false) (h : tokS (v ++ b) = some t) (hl : t.2.length ≤ v.length) (hne : v ≠ []) (hq : t.2.length = v.length → t.2 ≠ [39]) : tokS (v ++ x :: z) = some t := by
  cases v with
  | nil => exact absurd rfl hne
  | cons c v =>
    have hd : ∀ {y : UInt8} {m : List UInt8}, v ≠ [] → (v ++ m).headD 0 = (v ++ x :: z).headD 0 := by
      intro y m hv
      cases v with
      | nil => exact absurd rfl hv
      | cons d v => rfl
    rw [List.cons_append, tokS] at h
    rw [List.cons_append, tokS]
    cases hs : signs.contains c with
    | true => rw [hs] at h; exact h
    | false =>
      rw [hs] at h
      simp only [Bool.false_eq_true, if_false] at h ⊢
      cases h95 : iEq (uC c) 95 with
      | true =>
        have e : c = 95 := byte_of (by decide) h95
        subst e
        cases hn : inName ((v ++ b).headD 0) with
        | false =>
          rw [h95, hn] at h
          have : inName ((v ++ x :: z).headD 0) = false := by
            cases v with
            | nil => exact hx1
            | cons d v => exact hn
          rw [this]; exact h
        | true =>
          exfalso
          have h39 : iEq (uC 95) 39 = false := by decide
          have hnn : inName 95 = true := by decide
          obtain ⟨k1, k2, k3, k4⟩ := odd_none (t := (v ++ b).takeWhile inName) (.inl rfl : (95 : UInt8) = 95 ∨ (95 : UInt8) = 39)
          rw [hn] at h
          simp only [h95, h39, hnn, Bool.not_true, Bool.and_false, Bool.false_and, Bool.false_eq_true, if_false, if_true, List.takeWhile_cons, k1, k2, k3, k4] at h
          cases h
      | false =>
        rw [h95] at h
        simp only [Bool.false_and, Bool.false_eq_true, if_false] at h ⊢
        cases h39 : iEq (uC c) 39 with
        | true =>
          have e : c = 39 := byte_of (by decide) h39
          subst e
          cases hn : capital ((v ++ b).headD 0) with
          | true =>
            rw [h39, hn] at h
            simp only [Bool.and_self, if_true, Option.some.injEq] at h
            have hv : v ≠ [] := by
              intro e
              subst e
              subst h
              exact hq rfl rfl
            have : capital ((v ++ x :: z).headD 0) = true := by
              cases v with
              | nil => exact absurd rfl hv
              | cons d v => exact hn
            rw [this, ← h]; rfl
          | false =>
            exfalso
            have hnn : inName 39 = true := by decide
            obtain ⟨k1, k2, k3, k4⟩ := odd_none (t := (v ++ b).takeWhile inName) (.inr rfl : (39 : UInt8) = 95 ∨ (39 : UInt8) = 39)
            rw [hn] at h
            simp only [h39, hnn, Bool.and_false, Bool.false_and, Bool.false_eq_true, if_false, if_true, List.takeWhile_cons, k1, k2, k3, k4] at h
            cases h
        | false =>
          rw [h39] at h
          simp only [Bool.false_and, Bool.false_eq_true, if_false] at h ⊢
          cases hn : inName c with
          | true =>
            rw [hn] at h
            simp only [if_true] at h ⊢
            have ht : t.2 = (c :: (v ++ b)).takeWhile inName := by
              generalize (c :: (v ++ b)).takeWhile inName = T at h
              repeat' split at h
              all_goals (cases h <;> rfl)
            have := run_same hx1 (b := b) (z := z) (c :: v) (by rw [List.cons_append, ← ht]; exact hl)
            rw [List.cons_append, List.cons_append] at this
            rw [this]; exact h
          | false =>
            rw [hn] at h
            simp only [Bool.false_eq_true, if_false] at h ⊢
            cases ho : inOp c with
            | false => rw [ho] at h; simp at h
            | true =>
              rw [ho] at h
              simp only [if_true] at h ⊢
              have ht : t.2 = (c :: (v ++ b)).takeWhile inOp := by
                generalize (c :: (v ++ b)).takeWhile inOp = T at h
                repeat' split at h
                all_goals (cases h <;> rfl)
              have := run_same hx2 (b := b) (z := z) (c :: v) (by rw [List.cons_append, ← ht]; exact hl)
              rw [List.cons_append, List.cons_append] at this
              rw [this]; exact h

abbrev TokR : Type := Int × List UInt8 × Nat
theorem lexT_rem : ∀ (n : Nat) (l : List UInt8) (ts : List TokR), l.length = n → lexT l = some ts → ∀ x ∈ ts, x.2.2 ≤ l.length := by
  intro n
  induction n using Nat.strongRecOn with
  | _ n ih =>
    intro l ts hn h x hx
    rcases lexT_inv h with ⟨_, rfl⟩ | ⟨v, t, ts', hv, hne, ht, h', rfl⟩
    · simp at hx; subst hx; exact Nat.zero_le _
    · have hb := bl_len _ l rfl
      rw [hv] at hb
      obtain ⟨h1, h2⟩ := tokS_len ht
      rcases List.mem_cons.1 hx with rfl | hx
      · exact hb
      · have := ih _ (by rw [List.length_drop]; omega) _ ts' rfl h' x hx
        rw [List.length_drop] at this; omega

def shiftR (k : Nat) (x : TokR) : TokR := (x.1, x.2.1, x.2.2 + k)

theorem lex_insert {line : List UInt8} (hl : line.all notNl = true) {b : List UInt8} {y : TokR} {ts2 : List TokR} (hy : y.2.2 = b.length) : ∀ (ts1 : List TokR) (u : List UInt8), lexT (u ++ b) = some (ts1 ++ y :: ts2) → (∀ x, ts1.getLast? = some x → x.2.1 ≠ [39]) →
    lexT (u ++ (insL line ++ b)) = some (ts1.map (shiftR (insL line).length) ++ y :: ts2)
  | [], u, h, _ => by
    rw [List.nil_append] at h
    rw [List.map_nil, List.nil_append]
    have hcl : bl (u ++ b) = b → clean b = true := fun e => by
      have := bl_clean _ (u ++ b) rfl
      rw [e] at this; exact this
    rcases lexT_inv h with ⟨hb, he⟩ | ⟨v, t, ts', hv, hne, ht, h', he⟩
    · cases he
      have hb0 : b = [] := List.length_eq_zero_iff.1 hy.symm
      have e : bl (u ++ b) = b := by rw [hb, hb0]
      have := bl_gap hl (hcl e) _ u rfl e
      rw [hb0] at this ⊢
      exact lexT_nil this
    · have hlen : v.length = b.length := by cases he; exact hy
      have e : bl (u ++ b) = b := by
        obtain ⟨w, hw⟩ := bl_suffix _ (u ++ b) rfl
        rw [hv] at hw ⊢
        exact (List.append_inj_right' hw hlen.symm).symm
      have e2 := bl_gap hl (hcl e) _ u rfl e
      have : v = b := hv.symm.trans e
      subst this
      rw [lexT_cons e2 ht, h', Option.map_some, ← he]
  | x :: ts1, u, h, hq => by
    rcases lexT_inv h with ⟨hb, he⟩ | ⟨v, t, ts', hv, hne, ht, h', he⟩
    · exfalso
      have := congrArg List.length he
      simp at this
    · rw [List.cons_append, List.cons.injEq] at he
      obtain ⟨hx, hts⟩ := he
      obtain ⟨l1, l2⟩ := tokS_len ht
      have hrem : b.length ≤ v.length - t.2.length := by
        have := lexT_rem _ _ _ rfl h' y (by rw [← hts]; simp)
        rw [List.length_drop, hy] at this; exact this
      obtain ⟨w, hw⟩ := bl_suffix _ (u ++ b) rfl
      rw [hv] at hw
      obtain ⟨v1, rfl⟩ : ∃ v1, v = v1 ++ b := by
        rcases List.append_eq_append_iff.1 hw with ⟨a, h1, h2⟩ | ⟨a, h1, h2⟩
        · exfalso
          have := congrArg List.length h2
          rw [List.length_append] at this
          have h3 : a = [] := List.length_eq_zero_iff.1 (by omega)
          rw [h3, List.nil_append] at h2
          rw [h2] at hrem
          omega
        · exact ⟨a, h2⟩
      rw [List.length_append] at hrem l2
      have htl : t.2.length ≤ v1.length := by omega
      have hv1 : v1 ≠ [] := by intro e; subst e; rw [List.length_nil] at htl; omega
      have e9 : insL line ++ b = 9 :: ([32, 45, 45, 32] ++ (line ++ [10, 13]) ++ b) := by simp [insL]
      have hbl : bl (u ++ (insL line ++ b)) = v1 ++ (insL line ++ b) := by rw [e9]; exact bl_ahead _ u v1 rfl hv1 hv
      have hdrop : (v1 ++ b).drop t.2.length = v1.drop t.2.length ++ b := by rw [List.drop_append_of_le_length htl]
      rw [hdrop, ← hts] at h'
      have hlast : t.2.length = v1.length → t.2 ≠ [39] := fun e => by
        cases ts1 with
        | nil => have := hq x rfl; rw [hx] at this; exact this
        | cons q qs =>
          exfalso
          rw [List.drop_of_length_le (by omega), List.nil_append] at h'
          rcases lexT_inv h' with ⟨_, he2⟩ | ⟨v2, t2, ts2', hv2, _, ht2, h2', he2⟩
          · have := congrArg List.length he2; simp at this
          · rw [List.cons_append, List.cons.injEq] at he2
            have k1 := lexT_rem _ _ _ rfl h2' y (by rw [← he2.2]; simp)
            have k2 := bl_len _ b rfl
            rw [hv2] at k2
            obtain ⟨k3, k4⟩ := tokS_len ht2
            rw [List.length_drop] at k1
            omega
      have ht' : tokS (v1 ++ (insL line ++ b)) = some t := by
        rw [e9]; exact tok_same (by decide) (by decide) ht htl hv1 hlast
      rw [lexT_cons hbl ht', List.drop_append_of_le_length htl, lex_insert hl hy ts1 (v1.drop t.2.length) h' (fun z hz => hq z (by
        cases ts1 with
        | nil => simp at hz
        | cons q qs => rw [List.getLast?_cons_cons]; exact hz)), Option.map_some, List.map_cons, List.cons_append, hx]
      simp only [shiftR, Option.some.injEq, List.cons.injEq, and_true, Prod.mk.injEq, true_and]
      simp only [List.length_append]; omega

end Go.Proofs.YtkcljempplchkaaDoor

/- Places. -/
set_option maxRecDepth 100000
set_option linter.unusedVariables false
set_option linter.unusedSimpArgs false
namespace Go.Proofs.YtkcljempplchkaaDoor
open Go.Eng Go.RowKit

/-- The last place of a newline, or -1. -/
def lastN (l : List UInt8) : Int := (l.foldl (fun (p : Nat × Int) c => (p.1 + 1, if iEq (uC c) 10 = true then (p.1 : Int) else p.2)) (0, -1)).2
theorem lastN_fst (l : List UInt8) (q : Nat × Int) : (l.foldl (fun (p : Nat × Int) c => (p.1 + 1, if iEq (uC c) 10 = true then (p.1 : Int) else p.2)) q).1 = q.1 + l.length := by
  induction l generalizing q with
  | nil => rfl
  | cons c l ih => rw [List.foldl_cons, ih, List.length_cons]; simp only; omega
theorem lastN_snoc (l : List UInt8) (c : UInt8) : lastN (l ++ [c]) = if iEq (uC c) 10 = true then (l.length : Int) else lastN l := by
  unfold lastN
  rw [List.foldl_append, List.foldl_cons, List.foldl_nil]
  simp only
  rw [lastN_fst, Nat.zero_add]
theorem take_snoc {s : List UInt8} {i : Nat} {c : UInt8} (h : s[i]? = some c) : s.take (i + 1) = s.take i ++ [c] := by rw [List.take_add_one, h]; rfl
theorem lastN_take {s : List UInt8} {i : Nat} {c : UInt8} (h : s[i]? = some c) : lastN (s.take (i + 1)) = if iEq (uC c) 10 = true then (i : Int) else lastN (s.take i) := by
  have hi := (List.getElem?_eq_some_iff.1 h).1
  rw [take_snoc h, lastN_snoc, List.length_take, Nat.min_eq_left (Nat.le_of_lt hi)]
theorem lastN_bound : ∀ (s : List UInt8) (i : Nat), i ≤ s.length → -1 ≤ lastN (s.take i) ∧ lastN (s.take i) < i
  | s, 0, _ => by simp [lastN]
  | s, i + 1, h => by
    obtain ⟨c, hc⟩ : ∃ c, s[i]? = some c := ⟨_, List.getElem?_eq_getElem (by omega)⟩
    rw [lastN_take hc]
    have := lastN_bound s i (by omega)
    split <;> omega

theorem Count_pure {O : Cfg} (s : List UInt8) : PureCall O f_Count [.str s, .str [10]] (.int .i64 (s.count 10 : Nat)) := by
  refine lib_pure Tryd.func44 (by kernel_rfl) (by kernel_rfl) ?_
  intro base w0 H G w vs hL hw hvs
  obtain ⟨u, v, rfl, hu, hv⟩ := reps_two hvs
  rw [hu.str_inv, hv.str_inv]
  refine (Tryd.strings_Count_one ⟨s.toArray⟩ 10 w).mono ?_
  rintro e w' ⟨rfl, rfl⟩
  exact ⟨Below.refl _ _, _, rfl, fun G' => .int _ _⟩

theorem LastIndexByteString_pure {O : Cfg} (s : List UInt8) (hs : s.length < 4611686018427387904) : PureCall O f_LastIndexByteString [.str s, .int .u8 10] (.int .i64 (lastN s)) := fun H => by
  have e0 : wSub .i64 (sLen s) 1 = (s.length : Int) - 1 := by rw [sLen_eq, wSub_i64] <;> omega
  refine entry h_LastIndexByteString rfl ?_; simp -implicitDefEqProofs only [go_sem, Nat.reduceAdd, Nat.reduceLeDiff, Nat.reduceEqDiff, Nat.reduceBEq, Nat.reduceLT, c_LastIndexByteString]
  repeat' (first | (refine wpC_split rfl rfl (fun h => ?_) (fun h => ?_) <;> (try simp -implicitDefEqProofs only [go_sem, Nat.reduceAdd, Nat.reduceLeDiff, Nat.reduceEqDiff, Nat.reduceBEq, Nat.reduceLT, h, e0])) | (refine plan_split rfl rfl (fun h => ?_) (fun h => ?_) <;> simp -implicitDefEqProofs only [go_sem, Nat.reduceAdd, Nat.reduceLeDiff, Nat.reduceEqDiff, Nat.reduceBEq, Nat.reduceLT, h, e0]) | (refine planD_split rfl rfl (fun h => ?_) (fun h => ?_) <;> simp -implicitDefEqProofs only [go_sem, Nat.reduceAdd, Nat.reduceLeDiff, Nat.reduceEqDiff, Nat.reduceBEq, Nat.reduceLT, h, e0]) | (refine go ?_; try simp -implicitDefEqProofs only [go_sem, Nat.reduceAdd, Nat.reduceLeDiff, Nat.reduceEqDiff, Nat.reduceBEq, Nat.reduceLT, e0]) | ((with_reducible refine wpC_id ?_); simp -implicitDefEqProofs only [go_sem, Nat.reduceAdd, Nat.reduceLeDiff, Nat.reduceEqDiff, Nat.reduceBEq, Nat.reduceLT, e0]) | ((with_reducible first | refine quiet_id ?_ | refine wrote_id ?_ | refine resQ_id ?_); simp -implicitDefEqProofs only [go_sem, Nat.reduceAdd, Nat.reduceLeDiff, Nat.reduceEqDiff, Nat.reduceBEq, Nat.reduceLT, e0]) | fail)
  rw [wpC_loop]
  refine AC.loop (fun n st => n ≤ s.length ∧ lastN s = lastN (s.take n) ∧ st = ⟨mk 19 [(0, .str s), (1, .int .u8 10), (5, .int .i64 ((n : Int) - 1))], H, []⟩) s.length ⟨Nat.le_refl _, by rw [List.take_length], rfl⟩ ?_
  rintro n _ ⟨hn, hl, rfl⟩
  simp -implicitDefEqProofs only [go_sem, Nat.reduceAdd, Nat.reduceLeDiff, Nat.reduceEqDiff, Nat.reduceBEq, Nat.reduceLT, l_LastIndexByteString_0]
  refine go ?_; simp -implicitDefEqProofs only [go_sem, Nat.reduceAdd, Nat.reduceLeDiff, Nat.reduceEqDiff, Nat.reduceBEq, Nat.reduceLT]
  refine go ?_
  cases n with
  | zero =>
    have h : iLe 0 (((0 : Nat) : Int) - 1) = false := by decide
    simp -implicitDefEqProofs only [go_sem, Nat.reduceAdd, Nat.reduceLeDiff, Nat.reduceEqDiff, Nat.reduceBEq, Nat.reduceLT, h]
    repeat' (first | (refine wpC_split rfl rfl (fun h => ?_) (fun h => ?_) <;> (try simp -implicitDefEqProofs only [go_sem, Nat.reduceAdd, Nat.reduceLeDiff, Nat.reduceEqDiff, Nat.reduceBEq, Nat.reduceLT, h])) | (refine plan_split rfl rfl (fun h => ?_) (fun h => ?_) <;> simp -implicitDefEqProofs only [go_sem, Nat.reduceAdd, Nat.reduceLeDiff, Nat.reduceEqDiff, Nat.reduceBEq, Nat.reduceLT, h]) | (refine planD_split rfl rfl (fun h => ?_) (fun h => ?_) <;> simp -implicitDefEqProofs only [go_sem, Nat.reduceAdd, Nat.reduceLeDiff, Nat.reduceEqDiff, Nat.reduceBEq, Nat.reduceLT, h]) | (refine go ?_; try simp -implicitDefEqProofs only [go_sem, Nat.reduceAdd, Nat.reduceLeDiff, Nat.reduceEqDiff, Nat.reduceBEq, Nat.reduceLT]) | ((with_reducible refine wpC_id ?_); simp -implicitDefEqProofs only [go_sem, Nat.reduceAdd, Nat.reduceLeDiff, Nat.reduceEqDiff, Nat.reduceBEq, Nat.reduceLT]) | ((with_reducible first | refine quiet_id ?_ | refine wrote_id ?_ | refine resQ_id ?_); simp -implicitDefEqProofs only [go_sem, Nat.reduceAdd, Nat.reduceLeDiff, Nat.reduceEqDiff, Nat.reduceBEq, Nat.reduceLT]) | fail)
    rw [hl]; rfl
  | succ n =>
    have h : iLe 0 (((n + 1 : Nat) : Int) - 1) = true := by rw [iLe_true]; omega
    have e1 : ((n + 1 : Nat) : Int) - 1 = (n : Int) := by omega
    have e2 : wSub .i64 (n : Int) 1 = (n : Int) - 1 := by rw [wSub_i64] <;> omega
    obtain ⟨c, hc⟩ : ∃ c, s[n]? = some c := ⟨_, List.getElem?_eq_getElem (by omega)⟩
    have ht := lastN_take hc
    rw [e1] at h
    simp -implicitDefEqProofs only [go_sem, Nat.reduceAdd, Nat.reduceLeDiff, Nat.reduceEqDiff, Nat.reduceBEq, Nat.reduceLT, e1, h]
    repeat' (first | (refine wpC_split rfl rfl (fun h => ?_) (fun h => ?_) <;> (try simp -implicitDefEqProofs only [go_sem, Nat.reduceAdd, Nat.reduceLeDiff, Nat.reduceEqDiff, Nat.reduceBEq, Nat.reduceLT, h, e1, h, ixK_at hc, e2])) | (refine plan_split rfl rfl (fun h => ?_) (fun h => ?_) <;> simp -implicitDefEqProofs only [go_sem, Nat.reduceAdd, Nat.reduceLeDiff, Nat.reduceEqDiff, Nat.reduceBEq, Nat.reduceLT, h, e1, h, ixK_at hc, e2]) | (refine planD_split rfl rfl (fun h => ?_) (fun h => ?_) <;> simp -implicitDefEqProofs only [go_sem, Nat.reduceAdd, Nat.reduceLeDiff, Nat.reduceEqDiff, Nat.reduceBEq, Nat.reduceLT, h, e1, h, ixK_at hc, e2]) | (refine go ?_; try simp -implicitDefEqProofs only [go_sem, Nat.reduceAdd, Nat.reduceLeDiff, Nat.reduceEqDiff, Nat.reduceBEq, Nat.reduceLT, e1, h, ixK_at hc, e2]) | ((with_reducible refine wpC_id ?_); simp -implicitDefEqProofs only [go_sem, Nat.reduceAdd, Nat.reduceLeDiff, Nat.reduceEqDiff, Nat.reduceBEq, Nat.reduceLT, e1, h, ixK_at hc, e2]) | ((with_reducible first | refine quiet_id ?_ | refine wrote_id ?_ | refine resQ_id ?_); simp -implicitDefEqProofs only [go_sem, Nat.reduceAdd, Nat.reduceLeDiff, Nat.reduceEqDiff, Nat.reduceBEq, Nat.reduceLT, e1, h, ixK_at hc, e2]) | fail)
    · rename_i g
      rw [if_pos (by assumption)] at ht
      rw [hl, ht]
    · rw [if_neg (by simp_all)] at ht
      exact ⟨n, by omega, by omega, by rw [hl, ht], rfl⟩

theorem LastIndexByte_pure {O : Cfg} (s : List UInt8) (hs : s.length < 4611686018427387904) : PureCall O f_LastIndexByte [.str s, .int .u8 10] (.int .i64 (lastN s)) := fun H => by
  refine entry h_LastIndexByte rfl ?_; simp -implicitDefEqProofs only [go_sem, Nat.reduceAdd, Nat.reduceLeDiff, Nat.reduceEqDiff, Nat.reduceBEq, Nat.reduceLT, c_LastIndexByte]
  repeat' (first | ((with_reducible refine PureCall.step (LastIndexByteString_pure _ hs) ?_); simp -implicitDefEqProofs only [go_sem, Nat.reduceAdd, Nat.reduceLeDiff, Nat.reduceEqDiff, Nat.reduceBEq, Nat.reduceLT]) | (refine wpC_split rfl rfl (fun h => ?_) (fun h => ?_) <;> (try simp -implicitDefEqProofs only [go_sem, Nat.reduceAdd, Nat.reduceLeDiff, Nat.reduceEqDiff, Nat.reduceBEq, Nat.reduceLT, h])) | (refine plan_split rfl rfl (fun h => ?_) (fun h => ?_) <;> simp -implicitDefEqProofs only [go_sem, Nat.reduceAdd, Nat.reduceLeDiff, Nat.reduceEqDiff, Nat.reduceBEq, Nat.reduceLT, h]) | (refine planD_split rfl rfl (fun h => ?_) (fun h => ?_) <;> simp -implicitDefEqProofs only [go_sem, Nat.reduceAdd, Nat.reduceLeDiff, Nat.reduceEqDiff, Nat.reduceBEq, Nat.reduceLT, h]) | (refine go ?_; try simp -implicitDefEqProofs only [go_sem, Nat.reduceAdd, Nat.reduceLeDiff, Nat.reduceEqDiff, Nat.reduceBEq, Nat.reduceLT]) | ((with_reducible refine wpC_id ?_); simp -implicitDefEqProofs only [go_sem, Nat.reduceAdd, Nat.reduceLeDiff, Nat.reduceEqDiff, Nat.reduceBEq, Nat.reduceLT]) | ((with_reducible first | refine quiet_id ?_ | refine wrote_id ?_ | refine resQ_id ?_); simp -implicitDefEqProofs only [go_sem, Nat.reduceAdd, Nat.reduceLeDiff, Nat.reduceEqDiff, Nat.reduceBEq, Nat.reduceLT]) | fail)

/-- Line, column, and is there such a place? -/
def placeP (s : List UInt8) (p : Int) : Int × Int × Bool :=
  if p < 0 ∨ (s.length : Int) < p then (0, 0, false) else (1 + ((s.take p.toNat).count 10 : Nat), p - lastN (s.take p.toNat), true)

theorem Place_pure {O : Cfg} (s : List UInt8) (hs : s.length < 4611686018427387904) (p : Int) : PureCall O f_Place [.str s, .int .i64 p] (.tup [.int .i64 (placeP s p).1, .int .i64 (placeP s p).2.1, .int .i64 (if (placeP s p).2.2 = true then 0 else 2)]) := fun H => by
  refine entry h_Place rfl ?_; simp -implicitDefEqProofs only [go_sem, Nat.reduceAdd, Nat.reduceLeDiff, Nat.reduceEqDiff, Nat.reduceBEq, Nat.reduceLT, c_Place]
  repeat' (first | (refine wpC_split rfl rfl (fun h => ?_) (fun h => ?_) <;> (try simp -implicitDefEqProofs only [go_sem, Nat.reduceAdd, Nat.reduceLeDiff, Nat.reduceEqDiff, Nat.reduceBEq, Nat.reduceLT, h, sLen_eq])) | (refine plan_split rfl rfl (fun h => ?_) (fun h => ?_) <;> simp -implicitDefEqProofs only [go_sem, Nat.reduceAdd, Nat.reduceLeDiff, Nat.reduceEqDiff, Nat.reduceBEq, Nat.reduceLT, h, sLen_eq]) | (refine planD_split rfl rfl (fun h => ?_) (fun h => ?_) <;> simp -implicitDefEqProofs only [go_sem, Nat.reduceAdd, Nat.reduceLeDiff, Nat.reduceEqDiff, Nat.reduceBEq, Nat.reduceLT, h, sLen_eq]) | (refine go ?_; try simp -implicitDefEqProofs only [go_sem, Nat.reduceAdd, Nat.reduceLeDiff, Nat.reduceEqDiff, Nat.reduceBEq, Nat.reduceLT, sLen_eq]) | ((with_reducible refine wpC_id ?_); simp -implicitDefEqProofs only [go_sem, Nat.reduceAdd, Nat.reduceLeDiff, Nat.reduceEqDiff, Nat.reduceBEq, Nat.reduceLT, sLen_eq]) | ((with_reducible first | refine quiet_id ?_ | refine wrote_id ?_ | refine resQ_id ?_); simp -implicitDefEqProofs only [go_sem, Nat.reduceAdd, Nat.reduceLeDiff, Nat.reduceEqDiff, Nat.reduceBEq, Nat.reduceLT, sLen_eq]) | fail)
  · have := iLt_true.1 h
    rw [show placeP s p = (0, 0, false) by rw [placeP, if_pos (.inl this)]]
    rfl
  · have := iLt_true.1 h
    rw [show placeP s p = (0, 0, false) by rw [placeP, if_pos (.inr this)]]
    rfl
  · have h1 := iLt_false.1 h
    rename_i g
    have h2 := iLt_false.1 g
    obtain ⟨n, rfl⟩ : ∃ n : Nat, p = (n : Int) := ⟨p.toNat, by omega⟩
    have hn : n ≤ s.length := by omega
    have hl : (s.take n).length = n := by rw [List.length_take]; omega
    have hb := lastN_bound s n hn
    have hc : (s.take n).count 10 ≤ n := by have := List.count_le_length (a := (10 : UInt8)) (l := s.take n); omega
    have e1 : wAdd .i64 1 ((s.take n).count 10 : Nat) = 1 + ((s.take n).count 10 : Nat) := by rw [wAdd_i64] <;> omega
    have e2 : wSub .i64 (n : Int) (lastN (s.take n)) = (n : Int) - lastN (s.take n) := by rw [wSub_i64] <;> omega
    have eP : placeP s n = (1 + (((s.take n).count 10 : Nat) : Int), (n : Int) - lastN (s.take n), true) := by rw [placeP, if_neg (by omega), Int.toNat_natCast]
    rw [eP]
    repeat' (first | ((with_reducible refine PureCall.step (Count_pure _) ?_); simp -implicitDefEqProofs only [go_sem, Nat.reduceAdd, Nat.reduceLeDiff, Nat.reduceEqDiff, Nat.reduceBEq, Nat.reduceLT, slSA_hi hn, e1, e2]) | ((with_reducible refine PureCall.step (LastIndexByte_pure _ (by omega)) ?_); simp -implicitDefEqProofs only [go_sem, Nat.reduceAdd, Nat.reduceLeDiff, Nat.reduceEqDiff, Nat.reduceBEq, Nat.reduceLT, slSA_hi hn, e1, e2]) | (refine wpC_split rfl rfl (fun h => ?_) (fun h => ?_) <;> (try simp -implicitDefEqProofs only [go_sem, Nat.reduceAdd, Nat.reduceLeDiff, Nat.reduceEqDiff, Nat.reduceBEq, Nat.reduceLT, h, slSA_hi hn, e1, e2])) | (refine plan_split rfl rfl (fun h => ?_) (fun h => ?_) <;> simp -implicitDefEqProofs only [go_sem, Nat.reduceAdd, Nat.reduceLeDiff, Nat.reduceEqDiff, Nat.reduceBEq, Nat.reduceLT, h, slSA_hi hn, e1, e2]) | (refine planD_split rfl rfl (fun h => ?_) (fun h => ?_) <;> simp -implicitDefEqProofs only [go_sem, Nat.reduceAdd, Nat.reduceLeDiff, Nat.reduceEqDiff, Nat.reduceBEq, Nat.reduceLT, h, slSA_hi hn, e1, e2]) | (refine go ?_; try simp -implicitDefEqProofs only [go_sem, Nat.reduceAdd, Nat.reduceLeDiff, Nat.reduceEqDiff, Nat.reduceBEq, Nat.reduceLT, slSA_hi hn, e1, e2]) | ((with_reducible refine wpC_id ?_); simp -implicitDefEqProofs only [go_sem, Nat.reduceAdd, Nat.reduceLeDiff, Nat.reduceEqDiff, Nat.reduceBEq, Nat.reduceLT, slSA_hi hn, e1, e2]) | ((with_reducible first | refine quiet_id ?_ | refine wrote_id ?_ | refine resQ_id ?_); simp -implicitDefEqProofs only [go_sem, Nat.reduceAdd, Nat.reduceLeDiff, Nat.reduceEqDiff, Nat.reduceBEq, Nat.reduceLT, slSA_hi hn, e1, e2]) | fail)

theorem rPlace_pure {O : Cfg} (s : List UInt8) (hs : s.length < 4611686018427387904) (p : Int) : PureCall O f_rPlace [.str s, .int .i64 p] (.tup [.int .i64 (placeP s p).1, .int .i64 (placeP s p).2.1, .bool (placeP s p).2.2]) := fun H => by
  refine entry h_rPlace rfl ?_; simp -implicitDefEqProofs only [go_sem, Nat.reduceAdd, Nat.reduceLeDiff, Nat.reduceEqDiff, Nat.reduceBEq, Nat.reduceLT, c_rPlace]
  repeat' (first | (refine wpC_split rfl rfl (fun h => ?_) (fun h => ?_) <;> (try simp -implicitDefEqProofs only [go_sem, Nat.reduceAdd, Nat.reduceLeDiff, Nat.reduceEqDiff, Nat.reduceBEq, Nat.reduceLT, h, sLen_eq])) | (refine plan_split rfl rfl (fun h => ?_) (fun h => ?_) <;> simp -implicitDefEqProofs only [go_sem, Nat.reduceAdd, Nat.reduceLeDiff, Nat.reduceEqDiff, Nat.reduceBEq, Nat.reduceLT, h, sLen_eq]) | (refine planD_split rfl rfl (fun h => ?_) (fun h => ?_) <;> simp -implicitDefEqProofs only [go_sem, Nat.reduceAdd, Nat.reduceLeDiff, Nat.reduceEqDiff, Nat.reduceBEq, Nat.reduceLT, h, sLen_eq]) | (refine go ?_; try simp -implicitDefEqProofs only [go_sem, Nat.reduceAdd, Nat.reduceLeDiff, Nat.reduceEqDiff, Nat.reduceBEq, Nat.reduceLT, sLen_eq]) | ((with_reducible refine wpC_id ?_); simp -implicitDefEqProofs only [go_sem, Nat.reduceAdd, Nat.reduceLeDiff, Nat.reduceEqDiff, Nat.reduceBEq, Nat.reduceLT, sLen_eq]) | ((with_reducible first | refine quiet_id ?_ | refine wrote_id ?_ | refine resQ_id ?_); simp -implicitDefEqProofs only [go_sem, Nat.reduceAdd, Nat.reduceLeDiff, Nat.reduceEqDiff, Nat.reduceBEq, Nat.reduceLT, sLen_eq]) | fail)
  · have := iLt_true.1 h
    rw [show placeP s p = (0, 0, false) by rw [placeP, if_pos (.inl this)]]
  · have := iLt_true.1 h
    rw [show placeP s p = (0, 0, false) by rw [placeP, if_pos (.inr this)]]
  · have h1 := iLt_false.1 h
    rename_i g
    have h2 := iLt_false.1 g
    obtain ⟨n, rfl⟩ : ∃ n : Nat, p = (n : Int) := ⟨p.toNat, by omega⟩
    have hn : n ≤ s.length := by omega
    have eP : placeP s n = (1 + (((s.take n).count 10 : Nat) : Int), (n : Int) - lastN (s.take n), true) := by rw [placeP, if_neg (by omega), Int.toNat_natCast]
    rw [eP]
    rw [wpC_loop]
    refine AC.loop (fun m st => ∃ i : Nat, i + m = n ∧ st = ⟨mk 33 [(0, .str s), (7, .int .i64 (1 + ((s.take i).count 10 : Nat))), (8, .int .i64 ((i : Int) + 1 - 1 - lastN (s.take i))), (18, .int .i64 (n : Int)), (19, .int .i64 (i : Int))], H, []⟩) n ⟨0, by omega, rfl⟩ ?_
    rintro m _ ⟨i, hi, rfl⟩
    simp -implicitDefEqProofs only [go_sem, Nat.reduceAdd, Nat.reduceLeDiff, Nat.reduceEqDiff, Nat.reduceBEq, Nat.reduceLT, l_rPlace_0]
    refine go ?_; simp -implicitDefEqProofs only [go_sem, Nat.reduceAdd, Nat.reduceLeDiff, Nat.reduceEqDiff, Nat.reduceBEq, Nat.reduceLT]
    refine go ?_
    refine wpC_split rfl rfl (fun h => ?_) (fun h => ?_) <;> simp -implicitDefEqProofs only [go_sem, Nat.reduceAdd, Nat.reduceLeDiff, Nat.reduceEqDiff, Nat.reduceBEq, Nat.reduceLT]
    · have hlt := iLt_true.1 h
      obtain ⟨c, hc⟩ : ∃ c, s[i]? = some c := ⟨_, List.getElem?_eq_getElem (by omega)⟩
      have hb := lastN_bound s i (by omega)
      have hcl : (s.take i).count 10 ≤ i := by have := List.count_le_length (a := (10 : UInt8)) (l := s.take i); rw [List.length_take] at this; omega
      have e1 : wAdd .i64 (i : Int) 1 = ((i + 1 : Nat) : Int) := by rw [wAdd_i64] <;> omega
      have e2 : wAdd .i64 ((i : Int) + 1 - 1 - lastN (s.take i)) 1 = (i : Int) + 1 - lastN (s.take i) := by rw [wAdd_i64] <;> omega
      have e3 : wAdd .i64 (1 + ((s.take i).count 10 : Nat)) 1 = 1 + (((s.take i).count 10 + 1 : Nat) : Int) := by rw [wAdd_i64] <;> omega
      have hct : (s.take (i + 1)).count 10 = (s.take i).count 10 + if iEq (uC c) 10 = true then 1 else 0 := by
        rw [take_snoc hc, List.count_append, List.count_singleton, uC_eq c 10 10 rfl]
      have hlt2 := lastN_take hc
      repeat' (first | (refine wpC_split rfl rfl (fun h => ?_) (fun h => ?_) <;> (try simp -implicitDefEqProofs only [go_sem, Nat.reduceAdd, Nat.reduceLeDiff, Nat.reduceEqDiff, Nat.reduceBEq, Nat.reduceLT, h, ixK_at hc, e1, e2, e3])) | (refine plan_split rfl rfl (fun h => ?_) (fun h => ?_) <;> simp -implicitDefEqProofs only [go_sem, Nat.reduceAdd, Nat.reduceLeDiff, Nat.reduceEqDiff, Nat.reduceBEq, Nat.reduceLT, h, ixK_at hc, e1, e2, e3]) | (refine planD_split rfl rfl (fun h => ?_) (fun h => ?_) <;> simp -implicitDefEqProofs only [go_sem, Nat.reduceAdd, Nat.reduceLeDiff, Nat.reduceEqDiff, Nat.reduceBEq, Nat.reduceLT, h, ixK_at hc, e1, e2, e3]) | (refine go ?_; try simp -implicitDefEqProofs only [go_sem, Nat.reduceAdd, Nat.reduceLeDiff, Nat.reduceEqDiff, Nat.reduceBEq, Nat.reduceLT, ixK_at hc, e1, e2, e3]) | ((with_reducible refine wpC_id ?_); simp -implicitDefEqProofs only [go_sem, Nat.reduceAdd, Nat.reduceLeDiff, Nat.reduceEqDiff, Nat.reduceBEq, Nat.reduceLT, ixK_at hc, e1, e2, e3]) | ((with_reducible first | refine quiet_id ?_ | refine wrote_id ?_ | refine resQ_id ?_); simp -implicitDefEqProofs only [go_sem, Nat.reduceAdd, Nat.reduceLeDiff, Nat.reduceEqDiff, Nat.reduceBEq, Nat.reduceLT, ixK_at hc, e1, e2, e3]) | fail)
      · rename_i g
        have hh : iEq (uC c) 10 = true := by assumption
        rw [if_pos hh] at hct hlt2
        refine ⟨m - 1, by omega, i + 1, by omega, ?_⟩
        rw [hct, hlt2, show ((i + 1 : Nat) : Int) + 1 - 1 - (i : Int) = 1 by omega]
      · have hh : iEq (uC c) 10 = false := by assumption
        rw [if_neg (by simp [hh])] at hct hlt2
        refine ⟨m - 1, by omega, i + 1, by omega, ?_⟩
        rw [hct, hlt2, show ((i + 1 : Nat) : Int) + 1 - 1 = (i : Int) + 1 by omega]
        rfl
    · have hge := iLt_false.1 h
      have : i = n := by omega
      subst this
      repeat' (first | (refine wpC_split rfl rfl (fun h => ?_) (fun h => ?_) <;> (try simp -implicitDefEqProofs only [go_sem, Nat.reduceAdd, Nat.reduceLeDiff, Nat.reduceEqDiff, Nat.reduceBEq, Nat.reduceLT, h])) | (refine plan_split rfl rfl (fun h => ?_) (fun h => ?_) <;> simp -implicitDefEqProofs only [go_sem, Nat.reduceAdd, Nat.reduceLeDiff, Nat.reduceEqDiff, Nat.reduceBEq, Nat.reduceLT, h]) | (refine planD_split rfl rfl (fun h => ?_) (fun h => ?_) <;> simp -implicitDefEqProofs only [go_sem, Nat.reduceAdd, Nat.reduceLeDiff, Nat.reduceEqDiff, Nat.reduceBEq, Nat.reduceLT, h]) | (refine go ?_; try simp -implicitDefEqProofs only [go_sem, Nat.reduceAdd, Nat.reduceLeDiff, Nat.reduceEqDiff, Nat.reduceBEq, Nat.reduceLT]) | ((with_reducible refine wpC_id ?_); simp -implicitDefEqProofs only [go_sem, Nat.reduceAdd, Nat.reduceLeDiff, Nat.reduceEqDiff, Nat.reduceBEq, Nat.reduceLT]) | ((with_reducible first | refine quiet_id ?_ | refine wrote_id ?_ | refine resQ_id ?_); simp -implicitDefEqProofs only [go_sem, Nat.reduceAdd, Nat.reduceLeDiff, Nat.reduceEqDiff, Nat.reduceBEq, Nat.reduceLT]) | fail)
      rw [show (i : Int) + 1 - 1 = (i : Int) by omega]

theorem LawPlaces_pure (s : List UInt8) (hs : s.length < 4611686018427387904) (p : Int) : PureCall lexC f_LawPlaces [.str s, .int .i64 p] (.bool true) := fun H => by
  have h1 := Place_pure (O := lexC) s hs p
  have h2 := rPlace_pure (O := lexC) s hs p
  obtain ⟨x, y, b, e⟩ : ∃ x y b, placeP s p = (x, y, b) := ⟨_, _, _, rfl⟩
  rw [e] at h1 h2
  have z1 : iEq 0 2 = false := by decide
  have z2 : iEq 2 0 = false := by decide
  have z3 : bEq true true = true := rfl
  have z4 : bEq false false = true := rfl
  cases b
  all_goals
    simp only [if_true, Bool.false_eq_true, if_false] at h1 h2
    refine entry h_LawPlaces rfl ?_; simp -implicitDefEqProofs only [go_sem, Nat.reduceAdd, Nat.reduceLeDiff, Nat.reduceEqDiff, Nat.reduceBEq, Nat.reduceLT, c_LawPlaces]
    repeat' (first | ((with_reducible refine PureCall.step (h1) ?_); simp -implicitDefEqProofs only [go_sem, Nat.reduceAdd, Nat.reduceLeDiff, Nat.reduceEqDiff, Nat.reduceBEq, Nat.reduceLT, z1, z2, z3, z4]) | ((with_reducible refine PureCall.step (h2) ?_); simp -implicitDefEqProofs only [go_sem, Nat.reduceAdd, Nat.reduceLeDiff, Nat.reduceEqDiff, Nat.reduceBEq, Nat.reduceLT, z1, z2, z3, z4]) | ((with_reducible refine PureCall.step (awake_pure) ?_); simp -implicitDefEqProofs only [go_sem, Nat.reduceAdd, Nat.reduceLeDiff, Nat.reduceEqDiff, Nat.reduceBEq, Nat.reduceLT, z1, z2, z3, z4]) | (refine wpC_split rfl rfl (fun h => ?_) (fun h => ?_) <;> (try simp -implicitDefEqProofs only [go_sem, Nat.reduceAdd, Nat.reduceLeDiff, Nat.reduceEqDiff, Nat.reduceBEq, Nat.reduceLT, h, z1, z2, z3, z4])) | (refine plan_split rfl rfl (fun h => ?_) (fun h => ?_) <;> simp -implicitDefEqProofs only [go_sem, Nat.reduceAdd, Nat.reduceLeDiff, Nat.reduceEqDiff, Nat.reduceBEq, Nat.reduceLT, h, z1, z2, z3, z4]) | (refine planD_split rfl rfl (fun h => ?_) (fun h => ?_) <;> simp -implicitDefEqProofs only [go_sem, Nat.reduceAdd, Nat.reduceLeDiff, Nat.reduceEqDiff, Nat.reduceBEq, Nat.reduceLT, h, z1, z2, z3, z4]) | (refine go ?_; try simp -implicitDefEqProofs only [go_sem, Nat.reduceAdd, Nat.reduceLeDiff, Nat.reduceEqDiff, Nat.reduceBEq, Nat.reduceLT, z1, z2, z3, z4]) | ((with_reducible refine wpC_id ?_); simp -implicitDefEqProofs only [go_sem, Nat.reduceAdd, Nat.reduceLeDiff, Nat.reduceEqDiff, Nat.reduceBEq, Nat.reduceLT, z1, z2, z3, z4]) | ((with_reducible first | refine quiet_id ?_ | refine wrote_id ?_ | refine resQ_id ?_); simp -implicitDefEqProofs only [go_sem, Nat.reduceAdd, Nat.reduceLeDiff, Nat.reduceEqDiff, Nat.reduceBEq, Nat.reduceLT, z1, z2, z3, z4]) | fail)

end Go.Proofs.YtkcljempplchkaaDoor

/- The law on comments. -/
set_option maxRecDepth 100000
set_option linter.unusedVariables false
set_option linter.unusedSimpArgs false
namespace Go.Proofs.YtkcljempplchkaaDoor
open Go.Eng

theorem optE_ok {e : Except Nat (List Token)} {l : List Token} : optE e = some l ↔ e = .ok l := by
  cases e with
  | ok m => simp [optE]
  | error n => simp [optE]
theorem lexE_tokens {s : List UInt8} {l : List Token} : lexE s = .ok l ↔ ∃ ts, lexT s = some ts ∧ l = ts.map (conv s.length) := by
  rw [← optE_ok, lexT_eq, Option.map_eq_some_iff]
  exact ⟨fun ⟨ts, h1, h2⟩ => ⟨ts, h1, h2.symm⟩, fun ⟨ts, h1, h2⟩ => ⟨ts, h1, h2.symm⟩⟩
theorem lexT_ne {s : List UInt8} {ts : List TokR} (h : lexT s = some ts) : ts ≠ [] := by
  rcases lexT_inv h with ⟨_, rfl⟩ | ⟨_, _, _, _, _, _, _, rfl⟩ <;> simp

/-- The tokens, those from the k-th on moved. -/
def movedT (k n : Nat) (l : List Token) : List Token := l.take k ++ (l.drop k).map fun x => ⟨x.kind, x.text, x.pos + n⟩

theorem lex_comment {s line : List UInt8} {l : List Token} (hl : lexE s = .ok l) (hn : line.all notNl = true) {k : Nat} {x : Token} (hx : l[k]? = some x) (hq : ∀ y, 0 < k → l[k - 1]? = some y → y.text ≠ [39]) :
    ∃ p : Nat, x.pos = p ∧ p ≤ s.length ∧ lexE (s.take p ++ (insL line ++ s.drop p)) = .ok (movedT k (insL line).length l) := by
  obtain ⟨ts, ht, rfl⟩ := lexE_tokens.1 hl
  rw [List.getElem?_map, Option.map_eq_some_iff] at hx
  obtain ⟨y, hy, rfl⟩ := hx
  have hk := (List.getElem?_eq_some_iff.1 hy).1
  have hr := lexT_rem _ _ _ rfl ht y (List.mem_of_getElem? hy)
  refine ⟨s.length - y.2.2, rfl, by omega, ?_⟩
  have hsplit : ts = ts.take k ++ y :: ts.drop (k + 1) := by
    have e : ts[k] = y := by rw [List.getElem?_eq_getElem hk] at hy; exact Option.some.inj hy
    rw [← e, ← List.drop_eq_getElem_cons hk, List.take_append_drop]
  have hb : y.2.2 = (s.drop (s.length - y.2.2)).length := by rw [List.length_drop]; omega
  have hs : s = s.take (s.length - y.2.2) ++ s.drop (s.length - y.2.2) := (List.take_append_drop _ _).symm
  have key := lex_insert hn hb (ts.take k) (s.take (s.length - y.2.2)) (by rw [← hs, ← hsplit]; exact ht) (fun z hz => by
    rw [List.getLast?_take] at hz
    split at hz
    · cases hz
    · rename_i h0
      have h1 : k - 1 < ts.length := by omega
      rw [List.getElem?_eq_getElem h1] at hz
      have hz' : ts[k - 1] = z := by simpa using hz
      have := hq (conv s.length z) (by omega) (by rw [List.getElem?_map, List.getElem?_eq_getElem h1, hz']; rfl)
      exact this)
  refine lexE_tokens.2 ⟨_, key, ?_⟩
  have hlen : (s.take (s.length - y.2.2) ++ (insL line ++ s.drop (s.length - y.2.2))).length = s.length + (insL line).length := by
    rw [List.length_append, List.length_append, List.length_take, List.length_drop]; omega
  have hrem := lexT_rem _ _ _ rfl ht
  rw [movedT, hlen, List.map_append, ← List.map_take, ← List.map_drop, List.map_map, List.map_map]
  congr 1
  · apply List.map_congr_left
    intro z hz
    simp only [Function.comp, conv, shiftR, Token.mk.injEq, true_and]
    congr 1
    omega
  · have e2 : ts.drop k = y :: ts.drop (k + 1) := by
      have e : ts[k] = y := by rw [List.getElem?_eq_getElem hk] at hy; exact Option.some.inj hy
      rw [← e, ← List.drop_eq_getElem_cons hk]
    rw [← e2]
    apply List.map_congr_left
    intro z hz
    have := hrem z (List.mem_of_mem_drop hz)
    simp only [Function.comp, conv, Token.mk.injEq, true_and]
    omega

theorem movedT_at {k n : Nat} {l : List Token} {i : Nat} {x : Token} (h : l[i]? = some x) : (movedT k n l)[i]? = some ⟨x.kind, x.text, if i < k then x.pos else x.pos + n⟩ := by
  have hi := (List.getElem?_eq_some_iff.1 h).1
  unfold movedT
  by_cases hik : i < k
  · rw [List.getElem?_append_left (by rw [List.length_take]; omega), List.getElem?_take, if_pos hik, h, if_pos hik]
  · rw [List.getElem?_append_right (by rw [List.length_take]; omega), List.length_take, List.getElem?_map, List.getElem?_drop, show k + (i - min k l.length) = i by omega, h, if_neg hik]; rfl
theorem movedT_len (k n : Nat) (l : List Token) : (movedT k n l).length = l.length := by
  unfold movedT; rw [List.length_append, List.length_map, List.length_take, List.length_drop]; omega
theorem sameT_pos (x : Token) (p : Int) : sameT false x ⟨x.kind, x.text, p⟩ = true := by simp [sameT, iEq_self, sEq_self]
theorem same_map (n : Nat) : ∀ l : List Token, sameL false l (l.map fun x => ⟨x.kind, x.text, x.pos + n⟩) = true
  | [] => rfl
  | x :: l => by rw [List.map_cons, sameL, sameT_pos, same_map n l]; rfl
theorem same_moved (n : Nat) : ∀ (k : Nat) (l : List Token), sameL false l (movedT k n l) = true
  | 0, l => by
    have : movedT 0 n l = l.map fun x => ⟨x.kind, x.text, x.pos + n⟩ := by simp [movedT]
    rw [this]; exact same_map n l
  | k + 1, [] => rfl
  | k + 1, x :: l => by
    have : movedT (k + 1) n (x :: l) = x :: movedT k n l := by simp [movedT]
    rw [this, sameL, sameT_self, same_moved n k l]; rfl

theorem binA_rem {k : IntKind} {a b : Int} (h : b ≠ 0) : binA .rem (.int k a) (.int k b) = some (.int k (a.tmod b)) := by simp [binA, h]
theorem wInt_u64 (a : Int) : 0 ≤ wInt .u64 a ∧ wInt .u64 a < 18446744073709551616 := by
  simp only [wInt, IntKind.wrap, IntKind.signed, IntKind.bits, Bool.false_and, Bool.false_eq_true, if_false, Int.reducePow]
  omega
theorem wInt_u64_id {a : Int} (h0 : 0 ≤ a) (h1 : a < 18446744073709551616) : wInt .u64 a = a := by
  simp only [wInt, IntKind.wrap, IntKind.signed, IntKind.bits, Bool.false_and, Bool.false_eq_true, if_false, Int.reducePow]
  omega
theorem wInt_i64_id {a : Int} (h0 : -9223372036854775808 ≤ a) (h1 : a < 9223372036854775808) : wInt .i64 a = a := by
  have := wAdd_i64 (a := a) (b := 0) (by omega) (by omega)
  simpa [wAdd, wInt] using this

theorem LawComment_pure (s c : List UInt8) (hs : s.length ≤ 140737488351232) (hc : c.length ≤ 140737488351232) (a : Int) : PureCall lexC f_LawComment [.str s, .int .i64 a, .str c] (.bool true) := fun H => by
  have hsum : wAdd .i64 (sLen s) (sLen c) = ((s.length + c.length : Nat) : Int) := by rw [sLen_eq, sLen_eq, wAdd_i64] <;> omega
  have z0 : ((0 : Nat) : Int) = 0 := rfl
  have z5 : iEq 5 0 = false := by decide
  have z4 : iEq 4 0 = false := by decide
  by_cases h12 : 12000 < s.length
  · have t1 := Tokens_pure s
    rw [show lexP s = ([], 0, 5) by rw [lexP, if_pos h12]] at t1
    refine entry h_LawComment rfl ?_; simp -implicitDefEqProofs only [go_sem, Nat.reduceAdd, Nat.reduceLeDiff, Nat.reduceEqDiff, Nat.reduceBEq, Nat.reduceLT, c_LawComment]
    repeat' (first | ((with_reducible refine PureCall.step (t1) ?_); simp -implicitDefEqProofs only [go_sem, Nat.reduceAdd, Nat.reduceLeDiff, Nat.reduceEqDiff, Nat.reduceBEq, Nat.reduceLT, z0, z5]) | ((with_reducible refine PureCall.step (awake_pure) ?_); simp -implicitDefEqProofs only [go_sem, Nat.reduceAdd, Nat.reduceLeDiff, Nat.reduceEqDiff, Nat.reduceBEq, Nat.reduceLT, z0, z5]) | (refine wpC_split rfl rfl (fun h => ?_) (fun h => ?_) <;> (try simp -implicitDefEqProofs only [go_sem, Nat.reduceAdd, Nat.reduceLeDiff, Nat.reduceEqDiff, Nat.reduceBEq, Nat.reduceLT, h, z0, z5])) | (refine plan_split rfl rfl (fun h => ?_) (fun h => ?_) <;> simp -implicitDefEqProofs only [go_sem, Nat.reduceAdd, Nat.reduceLeDiff, Nat.reduceEqDiff, Nat.reduceBEq, Nat.reduceLT, h, z0, z5]) | (refine planD_split rfl rfl (fun h => ?_) (fun h => ?_) <;> simp -implicitDefEqProofs only [go_sem, Nat.reduceAdd, Nat.reduceLeDiff, Nat.reduceEqDiff, Nat.reduceBEq, Nat.reduceLT, h, z0, z5]) | (refine go ?_; try simp -implicitDefEqProofs only [go_sem, Nat.reduceAdd, Nat.reduceLeDiff, Nat.reduceEqDiff, Nat.reduceBEq, Nat.reduceLT, z0, z5]) | ((with_reducible refine wpC_id ?_); simp -implicitDefEqProofs only [go_sem, Nat.reduceAdd, Nat.reduceLeDiff, Nat.reduceEqDiff, Nat.reduceBEq, Nat.reduceLT, z0, z5]) | ((with_reducible first | refine quiet_id ?_ | refine wrote_id ?_ | refine resQ_id ?_); simp -implicitDefEqProofs only [go_sem, Nat.reduceAdd, Nat.reduceLeDiff, Nat.reduceEqDiff, Nat.reduceBEq, Nat.reduceLT, z0, z5]) | fail)
  · cases hE : lexE s with
    | error e =>
      have t1 := Tokens_pure s
      rw [show lexP s = ([], e, 4) by rw [lexP, if_neg h12, hE]; rfl] at t1
      refine entry h_LawComment rfl ?_; simp -implicitDefEqProofs only [go_sem, Nat.reduceAdd, Nat.reduceLeDiff, Nat.reduceEqDiff, Nat.reduceBEq, Nat.reduceLT, c_LawComment]
      repeat' (first | ((with_reducible refine PureCall.step (t1) ?_); simp -implicitDefEqProofs only [go_sem, Nat.reduceAdd, Nat.reduceLeDiff, Nat.reduceEqDiff, Nat.reduceBEq, Nat.reduceLT, z0, z4]) | ((with_reducible refine PureCall.step (awake_pure) ?_); simp -implicitDefEqProofs only [go_sem, Nat.reduceAdd, Nat.reduceLeDiff, Nat.reduceEqDiff, Nat.reduceBEq, Nat.reduceLT, z0, z4]) | (refine wpC_split rfl rfl (fun h => ?_) (fun h => ?_) <;> (try simp -implicitDefEqProofs only [go_sem, Nat.reduceAdd, Nat.reduceLeDiff, Nat.reduceEqDiff, Nat.reduceBEq, Nat.reduceLT, h, z0, z4])) | (refine plan_split rfl rfl (fun h => ?_) (fun h => ?_) <;> simp -implicitDefEqProofs only [go_sem, Nat.reduceAdd, Nat.reduceLeDiff, Nat.reduceEqDiff, Nat.reduceBEq, Nat.reduceLT, h, z0, z4]) | (refine planD_split rfl rfl (fun h => ?_) (fun h => ?_) <;> simp -implicitDefEqProofs only [go_sem, Nat.reduceAdd, Nat.reduceLeDiff, Nat.reduceEqDiff, Nat.reduceBEq, Nat.reduceLT, h, z0, z4]) | (refine go ?_; try simp -implicitDefEqProofs only [go_sem, Nat.reduceAdd, Nat.reduceLeDiff, Nat.reduceEqDiff, Nat.reduceBEq, Nat.reduceLT, z0, z4]) | ((with_reducible refine wpC_id ?_); simp -implicitDefEqProofs only [go_sem, Nat.reduceAdd, Nat.reduceLeDiff, Nat.reduceEqDiff, Nat.reduceBEq, Nat.reduceLT, z0, z4]) | ((with_reducible first | refine quiet_id ?_ | refine wrote_id ?_ | refine resQ_id ?_); simp -implicitDefEqProofs only [go_sem, Nat.reduceAdd, Nat.reduceLeDiff, Nat.reduceEqDiff, Nat.reduceBEq, Nat.reduceLT, z0, z4]) | fail)
    | ok l =>
      have t1 := Tokens_pure s
      rw [show lexP s = (l, 0, 0) by rw [lexP, if_neg h12, hE]; rfl] at t1
      simp only at t1
      have hne : l ≠ [] := by
        obtain ⟨ts, h1, rfl⟩ := lexE_tokens.1 hE
        have := lexT_ne h1
        simpa using this
      have hlp : 0 < l.length := List.length_pos_iff.2 hne
      have hll : l.length ≤ s.length + 1 := by have := lexF_len s _ _ l (Nat.zero_le _) hE; omega
      have hl0 : iEq (rLen (tokRows l)) 0 = false := by rw [rLen_tok, iEq_false]; omega
      -- the index
      have hu : wInt .u64 (rLen (tokRows l)) = (l.length : Int) := by rw [rLen_tok]; exact wInt_u64_id (by omega) (by omega)
      have hrem : binA .rem (.int .u64 (wInt .u64 a)) (.int .u64 (l.length : Int)) = some (.int .u64 ((wInt .u64 a).tmod (l.length : Int))) := binA_rem (by omega)
      obtain ⟨w0, w1⟩ := wInt_u64 a
      obtain ⟨k, hk, hkl⟩ : ∃ k : Nat, (wInt .u64 a).tmod (l.length : Int) = (k : Int) ∧ k < l.length := by
        have h1 := Int.tmod_nonneg (b := (l.length : Int)) w0
        have h2 := Int.tmod_lt_of_pos (wInt .u64 a) (b := (l.length : Int)) (by omega)
        exact ⟨((wInt .u64 a).tmod (l.length : Int)).toNat, by omega, by omega⟩
      have hk64 : wInt .i64 (k : Int) = (k : Int) := wInt_i64_id (by omega) (by omega)
      obtain ⟨x, hx⟩ : ∃ x, l[k]? = some x := ⟨_, List.getElem?_eq_getElem hkl⟩
      obtain ⟨p, hp, hps⟩ : ∃ p : Nat, x.pos = p ∧ p ≤ s.length := by
        obtain ⟨ts, h1, rfl⟩ := lexE_tokens.1 hE
        rw [List.getElem?_map, Option.map_eq_some_iff] at hx
        obtain ⟨y, hy, rfl⟩ := hx
        exact ⟨s.length - y.2.2, rfl, by omega⟩
      have ix := iaddrA_tok hx
      have g0 : iLt x.pos 0 = false := by rw [hp, iLt_false]; omega
      have g1 : iLt (sLen s) x.pos = false := by rw [hp, sLen_eq, iLt_false]; omega
      have g2 : iLe 0 x.pos = true := by rw [hp, iLe_true]; omega
      have g3 : iLe x.pos (sLen s) = true := by rw [hp, sLen_eq, iLe_true]; omega
      refine entry h_LawComment rfl ?_; simp -implicitDefEqProofs only [go_sem, Nat.reduceAdd, Nat.reduceLeDiff, Nat.reduceEqDiff, Nat.reduceBEq, Nat.reduceLT, c_LawComment]
      by_cases hlong : 11991 < s.length + c.length
      · have hb : iLt 11991 ((s.length + c.length : Nat) : Int) = true := by rw [iLt_true]; omega
        repeat' (first | ((with_reducible refine PureCall.step (t1) ?_); simp -implicitDefEqProofs only [go_sem, Nat.reduceAdd, Nat.reduceLeDiff, Nat.reduceEqDiff, Nat.reduceBEq, Nat.reduceLT, z0, hsum, hb]) | ((with_reducible refine PureCall.step (awake_pure) ?_); simp -implicitDefEqProofs only [go_sem, Nat.reduceAdd, Nat.reduceLeDiff, Nat.reduceEqDiff, Nat.reduceBEq, Nat.reduceLT, z0, hsum, hb]) | (refine wpC_split rfl rfl (fun h => ?_) (fun h => ?_) <;> (try simp -implicitDefEqProofs only [go_sem, Nat.reduceAdd, Nat.reduceLeDiff, Nat.reduceEqDiff, Nat.reduceBEq, Nat.reduceLT, h, z0, hsum, hb])) | (refine plan_split rfl rfl (fun h => ?_) (fun h => ?_) <;> simp -implicitDefEqProofs only [go_sem, Nat.reduceAdd, Nat.reduceLeDiff, Nat.reduceEqDiff, Nat.reduceBEq, Nat.reduceLT, h, z0, hsum, hb]) | (refine planD_split rfl rfl (fun h => ?_) (fun h => ?_) <;> simp -implicitDefEqProofs only [go_sem, Nat.reduceAdd, Nat.reduceLeDiff, Nat.reduceEqDiff, Nat.reduceBEq, Nat.reduceLT, h, z0, hsum, hb]) | (refine go ?_; try simp -implicitDefEqProofs only [go_sem, Nat.reduceAdd, Nat.reduceLeDiff, Nat.reduceEqDiff, Nat.reduceBEq, Nat.reduceLT, z0, hsum, hb]) | ((with_reducible refine wpC_id ?_); simp -implicitDefEqProofs only [go_sem, Nat.reduceAdd, Nat.reduceLeDiff, Nat.reduceEqDiff, Nat.reduceBEq, Nat.reduceLT, z0, hsum, hb]) | ((with_reducible first | refine quiet_id ?_ | refine wrote_id ?_ | refine resQ_id ?_); simp -implicitDefEqProofs only [go_sem, Nat.reduceAdd, Nat.reduceLeDiff, Nat.reduceEqDiff, Nat.reduceBEq, Nat.reduceLT, z0, hsum, hb]) | fail)
      · have hb : iLt 11991 ((s.length + c.length : Nat) : Int) = false := by rw [iLt_false]; omega
        refine go ?_; simp -implicitDefEqProofs only [go_sem, Nat.reduceAdd, Nat.reduceLeDiff, Nat.reduceEqDiff, Nat.reduceBEq, Nat.reduceLT]
        refine PureCall.step t1 ?_; simp -implicitDefEqProofs only [go_sem, Nat.reduceAdd, Nat.reduceLeDiff, Nat.reduceEqDiff, Nat.reduceBEq, Nat.reduceLT, z0]
        (refine go ?_; simp -implicitDefEqProofs only [go_sem, Nat.reduceAdd, Nat.reduceLeDiff, Nat.reduceEqDiff, Nat.reduceBEq, Nat.reduceLT, z0, hsum, hb]); (refine go ?_; simp -implicitDefEqProofs only [go_sem, Nat.reduceAdd, Nat.reduceLeDiff, Nat.reduceEqDiff, Nat.reduceBEq, Nat.reduceLT, z0, hsum, hb])
        (refine go ?_; simp -implicitDefEqProofs only [go_sem, Nat.reduceAdd, Nat.reduceLeDiff, Nat.reduceEqDiff, Nat.reduceBEq, Nat.reduceLT, hl0]); (refine go ?_; simp -implicitDefEqProofs only [go_sem, Nat.reduceAdd, Nat.reduceLeDiff, Nat.reduceEqDiff, Nat.reduceBEq, Nat.reduceLT, hl0])
        (refine go ?_; simp -implicitDefEqProofs only [go_sem, Nat.reduceAdd, Nat.reduceLeDiff, Nat.reduceEqDiff, Nat.reduceBEq, Nat.reduceLT, hu, hrem, hk, hk64])
        refine AC.cut (fun st => (∀ y, 0 < k → l[k - 1]? = some y → y.text ≠ [39]) ∧ st = ⟨mk 169 [(0, .str s), (1, .int .i64 (k : Int)), (2, .str c), (7, .sl (tokRows l) .no)], H, []⟩) ?_ ?_
        · cases k with
          | zero =>
            have hk0 : iLt 0 ((0 : Nat) : Int) = false := by decide
            repeat' (first | ((with_reducible refine PureCall.step (awake_pure) ?_); simp -implicitDefEqProofs only [go_sem, Nat.reduceAdd, Nat.reduceLeDiff, Nat.reduceEqDiff, Nat.reduceBEq, Nat.reduceLT, ix, g0, g1, g2, g3, hk0]) | (refine wpC_split rfl rfl (fun h => ?_) (fun h => ?_) <;> (try simp -implicitDefEqProofs only [go_sem, Nat.reduceAdd, Nat.reduceLeDiff, Nat.reduceEqDiff, Nat.reduceBEq, Nat.reduceLT, h, ix, g0, g1, g2, g3, hk0])) | (refine plan_split rfl rfl (fun h => ?_) (fun h => ?_) <;> simp -implicitDefEqProofs only [go_sem, Nat.reduceAdd, Nat.reduceLeDiff, Nat.reduceEqDiff, Nat.reduceBEq, Nat.reduceLT, h, ix, g0, g1, g2, g3, hk0]) | (refine planD_split rfl rfl (fun h => ?_) (fun h => ?_) <;> simp -implicitDefEqProofs only [go_sem, Nat.reduceAdd, Nat.reduceLeDiff, Nat.reduceEqDiff, Nat.reduceBEq, Nat.reduceLT, h, ix, g0, g1, g2, g3, hk0]) | (refine go ?_; try simp -implicitDefEqProofs only [go_sem, Nat.reduceAdd, Nat.reduceLeDiff, Nat.reduceEqDiff, Nat.reduceBEq, Nat.reduceLT, ix, g0, g1, g2, g3, hk0]) | ((with_reducible refine wpC_id ?_); simp -implicitDefEqProofs only [go_sem, Nat.reduceAdd, Nat.reduceLeDiff, Nat.reduceEqDiff, Nat.reduceBEq, Nat.reduceLT, ix, g0, g1, g2, g3, hk0]) | ((with_reducible first | refine quiet_id ?_ | refine wrote_id ?_ | refine resQ_id ?_); simp -implicitDefEqProofs only [go_sem, Nat.reduceAdd, Nat.reduceLeDiff, Nat.reduceEqDiff, Nat.reduceBEq, Nat.reduceLT, ix, g0, g1, g2, g3, hk0]) | fail)
            intro y h0
            first | exact absurd h0 (by omega) | (intros; simp at h0) | (simp at h0)
          | succ k =>
            have hk0 : iLt 0 ((k + 1 : Nat) : Int) = true := by rw [iLt_true]; omega
            have hk1 : wSub .i64 ((k + 1 : Nat) : Int) 1 = (k : Int) := by rw [wSub_i64] <;> omega
            obtain ⟨y, hy⟩ : ∃ y, l[k]? = some y := ⟨_, List.getElem?_eq_getElem (by omega)⟩
            repeat' (first | ((with_reducible refine PureCall.step (awake_pure) ?_); simp -implicitDefEqProofs only [go_sem, Nat.reduceAdd, Nat.reduceLeDiff, Nat.reduceEqDiff, Nat.reduceBEq, Nat.reduceLT, ix, g0, g1, g2, g3, hk0, hk1, iaddrA_tok hy]) | (refine wpC_split rfl rfl (fun h => ?_) (fun h => ?_) <;> (try simp -implicitDefEqProofs only [go_sem, Nat.reduceAdd, Nat.reduceLeDiff, Nat.reduceEqDiff, Nat.reduceBEq, Nat.reduceLT, h, ix, g0, g1, g2, g3, hk0, hk1, iaddrA_tok hy])) | (refine plan_split rfl rfl (fun h => ?_) (fun h => ?_) <;> simp -implicitDefEqProofs only [go_sem, Nat.reduceAdd, Nat.reduceLeDiff, Nat.reduceEqDiff, Nat.reduceBEq, Nat.reduceLT, h, ix, g0, g1, g2, g3, hk0, hk1, iaddrA_tok hy]) | (refine planD_split rfl rfl (fun h => ?_) (fun h => ?_) <;> simp -implicitDefEqProofs only [go_sem, Nat.reduceAdd, Nat.reduceLeDiff, Nat.reduceEqDiff, Nat.reduceBEq, Nat.reduceLT, h, ix, g0, g1, g2, g3, hk0, hk1, iaddrA_tok hy]) | (refine go ?_; try simp -implicitDefEqProofs only [go_sem, Nat.reduceAdd, Nat.reduceLeDiff, Nat.reduceEqDiff, Nat.reduceBEq, Nat.reduceLT, ix, g0, g1, g2, g3, hk0, hk1, iaddrA_tok hy]) | ((with_reducible refine wpC_id ?_); simp -implicitDefEqProofs only [go_sem, Nat.reduceAdd, Nat.reduceLeDiff, Nat.reduceEqDiff, Nat.reduceBEq, Nat.reduceLT, ix, g0, g1, g2, g3, hk0, hk1, iaddrA_tok hy]) | ((with_reducible first | refine quiet_id ?_ | refine wrote_id ?_ | refine resQ_id ?_); simp -implicitDefEqProofs only [go_sem, Nat.reduceAdd, Nat.reduceLeDiff, Nat.reduceEqDiff, Nat.reduceBEq, Nat.reduceLT, ix, g0, g1, g2, g3, hk0, hk1, iaddrA_tok hy]) | fail)
            intro z _ hz e
            rw [show k + 1 - 1 = k by omega, hy] at hz
            cases hz
            rw [e, sEq_self] at h
            cases h
        · rintro _ ⟨hq, rfl⟩
          -- the line
          refine go ?_; simp -implicitDefEqProofs only [go_sem, Nat.reduceAdd, Nat.reduceLeDiff, Nat.reduceEqDiff, Nat.reduceBEq, Nat.reduceLT]
          refine AC.cut (fun st => st = ⟨mk 169 [(0, .str s), (1, .int .i64 (k : Int)), (2, .str c), (7, .sl (tokRows l) .no), (10, .str (c.filter notNl)), (11, .int .i64 (c.length : Int))], H, []⟩) ?_ ?_
          · (refine go ?_; simp -implicitDefEqProofs only [go_sem, Nat.reduceAdd, Nat.reduceLeDiff, Nat.reduceEqDiff, Nat.reduceBEq, Nat.reduceLT]); (refine go ?_; simp -implicitDefEqProofs only [go_sem, Nat.reduceAdd, Nat.reduceLeDiff, Nat.reduceEqDiff, Nat.reduceBEq, Nat.reduceLT])
            rw [wpC_loop]
            refine AC.loop (fun n st => ∃ i : Nat, i + n = c.length ∧ st = ⟨mk 169 [(0, .str s), (1, .int .i64 (k : Int)), (2, .str c), (7, .sl (tokRows l) .no), (10, .str ((c.take i).filter notNl)), (11, .int .i64 (i : Int))], H, []⟩) c.length ⟨0, by omega, rfl⟩ ?_
            rintro n _ ⟨i, hi, rfl⟩
            simp -implicitDefEqProofs only [go_sem, Nat.reduceAdd, Nat.reduceLeDiff, Nat.reduceEqDiff, Nat.reduceBEq, Nat.reduceLT, l_LawComment_0]
            refine go ?_; simp -implicitDefEqProofs only [go_sem, Nat.reduceAdd, Nat.reduceLeDiff, Nat.reduceEqDiff, Nat.reduceBEq, Nat.reduceLT]
            refine go ?_
            refine wpC_split rfl rfl (fun h => ?_) (fun h => ?_) <;> simp -implicitDefEqProofs only [go_sem, Nat.reduceAdd, Nat.reduceLeDiff, Nat.reduceEqDiff, Nat.reduceBEq, Nat.reduceLT]
            · have hlt := iLt_true.1 h
              rw [sLen_eq] at hlt
              obtain ⟨d, hd⟩ : ∃ d, c[i]? = some d := ⟨_, List.getElem?_eq_getElem (by omega)⟩
              have e : wAdd .i64 (i : Int) 1 = ((i + 1 : Nat) : Int) := by rw [wAdd_i64] <;> omega
              have sl1 : slSA c (some (.int .i64 (i : Int))) (some (.int .i64 ((i + 1 : Nat) : Int))) = some (.str [d]) := by
                rw [slSA_both (by omega) (by omega), take_one hd]
              have hfl : ((c.take i).filter notNl).length ≤ c.length := by
                have := List.length_filter_le notNl (c.take i)
                rw [List.length_take] at this; omega
              have cat : catK ((c.take i).filter notNl) [d] = some (.str ((c.take i).filter notNl ++ [d])) := catK_ok (by simp; omega)
              cases hn : notNl d with
              | true =>
                have hn' : bNot (iEq (uC d) 10) = true := hn
                repeat' (first | (refine wpC_split rfl rfl (fun h => ?_) (fun h => ?_) <;> (try simp -implicitDefEqProofs only [go_sem, Nat.reduceAdd, Nat.reduceLeDiff, Nat.reduceEqDiff, Nat.reduceBEq, Nat.reduceLT, h, ixK_at hd, e, sl1, cat, hn'])) | (refine plan_split rfl rfl (fun h => ?_) (fun h => ?_) <;> simp -implicitDefEqProofs only [go_sem, Nat.reduceAdd, Nat.reduceLeDiff, Nat.reduceEqDiff, Nat.reduceBEq, Nat.reduceLT, h, ixK_at hd, e, sl1, cat, hn']) | (refine planD_split rfl rfl (fun h => ?_) (fun h => ?_) <;> simp -implicitDefEqProofs only [go_sem, Nat.reduceAdd, Nat.reduceLeDiff, Nat.reduceEqDiff, Nat.reduceBEq, Nat.reduceLT, h, ixK_at hd, e, sl1, cat, hn']) | (refine go ?_; try simp -implicitDefEqProofs only [go_sem, Nat.reduceAdd, Nat.reduceLeDiff, Nat.reduceEqDiff, Nat.reduceBEq, Nat.reduceLT, ixK_at hd, e, sl1, cat, hn']) | ((with_reducible refine wpC_id ?_); simp -implicitDefEqProofs only [go_sem, Nat.reduceAdd, Nat.reduceLeDiff, Nat.reduceEqDiff, Nat.reduceBEq, Nat.reduceLT, ixK_at hd, e, sl1, cat, hn']) | ((with_reducible first | refine quiet_id ?_ | refine wrote_id ?_ | refine resQ_id ?_); simp -implicitDefEqProofs only [go_sem, Nat.reduceAdd, Nat.reduceLeDiff, Nat.reduceEqDiff, Nat.reduceBEq, Nat.reduceLT, ixK_at hd, e, sl1, cat, hn']) | fail)
                refine ⟨n - 1, by omega, i + 1, by omega, ?_⟩
                rw [take_snoc hd, List.filter_append, List.filter_cons, hn, if_pos rfl]
                rfl
              | false =>
                have hn' : bNot (iEq (uC d) 10) = false := hn
                repeat' (first | (refine wpC_split rfl rfl (fun h => ?_) (fun h => ?_) <;> (try simp -implicitDefEqProofs only [go_sem, Nat.reduceAdd, Nat.reduceLeDiff, Nat.reduceEqDiff, Nat.reduceBEq, Nat.reduceLT, h, ixK_at hd, e, sl1, cat, hn'])) | (refine plan_split rfl rfl (fun h => ?_) (fun h => ?_) <;> simp -implicitDefEqProofs only [go_sem, Nat.reduceAdd, Nat.reduceLeDiff, Nat.reduceEqDiff, Nat.reduceBEq, Nat.reduceLT, h, ixK_at hd, e, sl1, cat, hn']) | (refine planD_split rfl rfl (fun h => ?_) (fun h => ?_) <;> simp -implicitDefEqProofs only [go_sem, Nat.reduceAdd, Nat.reduceLeDiff, Nat.reduceEqDiff, Nat.reduceBEq, Nat.reduceLT, h, ixK_at hd, e, sl1, cat, hn']) | (refine go ?_; try simp -implicitDefEqProofs only [go_sem, Nat.reduceAdd, Nat.reduceLeDiff, Nat.reduceEqDiff, Nat.reduceBEq, Nat.reduceLT, ixK_at hd, e, sl1, cat, hn']) | ((with_reducible refine wpC_id ?_); simp -implicitDefEqProofs only [go_sem, Nat.reduceAdd, Nat.reduceLeDiff, Nat.reduceEqDiff, Nat.reduceBEq, Nat.reduceLT, ixK_at hd, e, sl1, cat, hn']) | ((with_reducible first | refine quiet_id ?_ | refine wrote_id ?_ | refine resQ_id ?_); simp -implicitDefEqProofs only [go_sem, Nat.reduceAdd, Nat.reduceLeDiff, Nat.reduceEqDiff, Nat.reduceBEq, Nat.reduceLT, ixK_at hd, e, sl1, cat, hn']) | fail)
                refine ⟨n - 1, by omega, i + 1, by omega, ?_⟩
                rw [take_snoc hd, List.filter_append, List.filter_cons, hn, if_neg (by simp), List.filter_nil, List.append_nil]
            · have hge := iLt_false.1 h
              rw [sLen_eq] at hge
              have : i = c.length := by omega
              subst this
              rw [List.take_length]
          · rintro _ rfl
            have hfl : (c.filter notNl).length ≤ c.length := List.length_filter_le notNl c
            have hfn : (c.filter notNl).all notNl = true := by
              rw [List.all_eq_true]; intro d hd; exact (List.mem_filter.1 hd).2
            obtain ⟨p', hp', _, hlex⟩ := lex_comment hE hfn hx hq
            obtain rfl : p' = p := by omega
            have cat1 : catK [9, 32, 45, 45, 32] (c.filter notNl) = some (.str (9 :: 32 :: 45 :: 45 :: 32 :: c.filter notNl)) := catK_ok (by simp; omega)
            have cat2 : catK (9 :: 32 :: 45 :: 45 :: 32 :: c.filter notNl) [10, 13] = some (.str (insL (c.filter notNl))) := by
              rw [catK_ok (by simp; omega)]; rfl
            have hil := insL_len (c.filter notNl)
            have cat3 : catK (s.take p') (insL (c.filter notNl)) = some (.str (s.take p' ++ insL (c.filter notNl))) := catK_ok (by rw [List.length_take]; omega)
            have cat4 : catK (s.take p' ++ insL (c.filter notNl)) (s.drop p') = some (.str (s.take p' ++ (insL (c.filter notNl) ++ s.drop p'))) := by
              rw [catK_ok (by rw [List.length_append, List.length_take, List.length_drop]; omega), List.append_assoc]
            have sl1 : slSA s none (some (.int .i64 x.pos)) = some (.str (s.take p')) := by rw [hp]; exact slSA_hi hps
            have sl2 : slSA s (some (.int .i64 x.pos)) none = some (.str (s.drop p')) := by rw [hp]; exact slSA_lo hps
            generalize hI : insL (c.filter notNl) = I at *
            have t2 := Tokens_pure (s.take p' ++ (I ++ s.drop p'))
            rw [show lexP (s.take p' ++ (I ++ s.drop p')) = (movedT k I.length l, 0, 0) by
              rw [lexP, if_neg (by rw [List.length_append, List.length_append, List.length_take, List.length_drop]; omega), hlex]; rfl] at t2
            simp only at t2
            have hsm := rSame_pure (O := lexC) l (movedT k I.length l) (by omega) (by rw [movedT_len]; omega) .no .no false
            rw [same_moved] at hsm
            repeat' (first | ((with_reducible refine PureCall.step (t2) ?_); simp -implicitDefEqProofs only [go_sem, Nat.reduceAdd, Nat.reduceLeDiff, Nat.reduceEqDiff, Nat.reduceBEq, Nat.reduceLT, cat1, cat2, cat3, cat4, ix, sl1, sl2, z0]) | ((with_reducible refine PureCall.step (hsm) ?_); simp -implicitDefEqProofs only [go_sem, Nat.reduceAdd, Nat.reduceLeDiff, Nat.reduceEqDiff, Nat.reduceBEq, Nat.reduceLT, cat1, cat2, cat3, cat4, ix, sl1, sl2, z0]) | (refine wpC_split rfl rfl (fun h => ?_) (fun h => ?_) <;> (try simp -implicitDefEqProofs only [go_sem, Nat.reduceAdd, Nat.reduceLeDiff, Nat.reduceEqDiff, Nat.reduceBEq, Nat.reduceLT, h, cat1, cat2, cat3, cat4, ix, sl1, sl2, z0])) | (refine plan_split rfl rfl (fun h => ?_) (fun h => ?_) <;> simp -implicitDefEqProofs only [go_sem, Nat.reduceAdd, Nat.reduceLeDiff, Nat.reduceEqDiff, Nat.reduceBEq, Nat.reduceLT, h, cat1, cat2, cat3, cat4, ix, sl1, sl2, z0]) | (refine planD_split rfl rfl (fun h => ?_) (fun h => ?_) <;> simp -implicitDefEqProofs only [go_sem, Nat.reduceAdd, Nat.reduceLeDiff, Nat.reduceEqDiff, Nat.reduceBEq, Nat.reduceLT, h, cat1, cat2, cat3, cat4, ix, sl1, sl2, z0]) | (refine go ?_; try simp -implicitDefEqProofs only [go_sem, Nat.reduceAdd, Nat.reduceLeDiff, Nat.reduceEqDiff, Nat.reduceBEq, Nat.reduceLT, cat1, cat2, cat3, cat4, ix, sl1, sl2, z0]) | ((with_reducible refine wpC_id ?_); simp -implicitDefEqProofs only [go_sem, Nat.reduceAdd, Nat.reduceLeDiff, Nat.reduceEqDiff, Nat.reduceBEq, Nat.reduceLT, cat1, cat2, cat3, cat4, ix, sl1, sl2, z0]) | ((with_reducible first | refine quiet_id ?_ | refine wrote_id ?_ | refine resQ_id ?_); simp -implicitDefEqProofs only [go_sem, Nat.reduceAdd, Nat.reduceLeDiff, Nat.reduceEqDiff, Nat.reduceBEq, Nat.reduceLT, cat1, cat2, cat3, cat4, ix, sl1, sl2, z0]) | fail)
            rw [wpC_loop]
            refine AC.loop (fun n st => ∃ i : Nat, i + n = l.length ∧ st = ⟨mk 169 [(1, .int .i64 (k : Int)), (7, .sl (tokRows l) .no), (12, .str I), (13, .sl (tokRows (movedT k I.length l)) .no), (144, .int .i64 (rLen (tokRows l))), (145, .int .i64 (i : Int))], H, []⟩) l.length ⟨0, by omega, rfl⟩ ?_
            rintro n _ ⟨i, hi, rfl⟩
            simp -implicitDefEqProofs only [go_sem, Nat.reduceAdd, Nat.reduceLeDiff, Nat.reduceEqDiff, Nat.reduceBEq, Nat.reduceLT, l_LawComment_1]
            refine go ?_; simp -implicitDefEqProofs only [go_sem, Nat.reduceAdd, Nat.reduceLeDiff, Nat.reduceEqDiff, Nat.reduceBEq, Nat.reduceLT]
            refine go ?_
            refine wpC_split rfl rfl (fun h => ?_) (fun h => ?_) <;> simp -implicitDefEqProofs only [go_sem, Nat.reduceAdd, Nat.reduceLeDiff, Nat.reduceEqDiff, Nat.reduceBEq, Nat.reduceLT]
            · have hlt := iLt_true.1 h
              rw [rLen_tok] at hlt
              obtain ⟨d, hd⟩ : ∃ d, l[i]? = some d := ⟨_, List.getElem?_eq_getElem (by omega)⟩
              have e : wAdd .i64 (i : Int) 1 = ((i + 1 : Nat) : Int) := by rw [wAdd_i64] <;> omega
              have hd2 := movedT_at (k := k) (n := I.length) hd
              obtain ⟨q, hq, hqs⟩ : ∃ q : Nat, d.pos = q ∧ q ≤ s.length := by
                obtain ⟨ts, h1, rfl⟩ := lexE_tokens.1 hE
                rw [List.getElem?_map, Option.map_eq_some_iff] at hd
                obtain ⟨y, hy, rfl⟩ := hd
                exact ⟨s.length - y.2.2, rfl, by omega⟩
              have e2 : wAdd .i64 d.pos (sLen I) = d.pos + (I.length : Int) := by rw [sLen_eq, wAdd_i64] <;> omega
              by_cases hik : i < k
              · rw [if_pos hik] at hd2
                have h3 : iLe (k : Int) (i : Int) = false := by rw [iLe_false]; omega
                repeat' (first | (refine wpC_split rfl rfl (fun h => ?_) (fun h => ?_) <;> (try simp -implicitDefEqProofs only [go_sem, Nat.reduceAdd, Nat.reduceLeDiff, Nat.reduceEqDiff, Nat.reduceBEq, Nat.reduceLT, h, iaddrA_tok hd, iaddrA_tok hd2, h3, e, e2])) | (refine plan_split rfl rfl (fun h => ?_) (fun h => ?_) <;> simp -implicitDefEqProofs only [go_sem, Nat.reduceAdd, Nat.reduceLeDiff, Nat.reduceEqDiff, Nat.reduceBEq, Nat.reduceLT, h, iaddrA_tok hd, iaddrA_tok hd2, h3, e, e2]) | (refine planD_split rfl rfl (fun h => ?_) (fun h => ?_) <;> simp -implicitDefEqProofs only [go_sem, Nat.reduceAdd, Nat.reduceLeDiff, Nat.reduceEqDiff, Nat.reduceBEq, Nat.reduceLT, h, iaddrA_tok hd, iaddrA_tok hd2, h3, e, e2]) | (refine go ?_; try simp -implicitDefEqProofs only [go_sem, Nat.reduceAdd, Nat.reduceLeDiff, Nat.reduceEqDiff, Nat.reduceBEq, Nat.reduceLT, iaddrA_tok hd, iaddrA_tok hd2, h3, e, e2]) | ((with_reducible refine wpC_id ?_); simp -implicitDefEqProofs only [go_sem, Nat.reduceAdd, Nat.reduceLeDiff, Nat.reduceEqDiff, Nat.reduceBEq, Nat.reduceLT, iaddrA_tok hd, iaddrA_tok hd2, h3, e, e2]) | ((with_reducible first | refine quiet_id ?_ | refine wrote_id ?_ | refine resQ_id ?_); simp -implicitDefEqProofs only [go_sem, Nat.reduceAdd, Nat.reduceLeDiff, Nat.reduceEqDiff, Nat.reduceBEq, Nat.reduceLT, iaddrA_tok hd, iaddrA_tok hd2, h3, e, e2]) | fail)
                exact ⟨n - 1, by omega, i + 1, by omega, rfl⟩
              · rw [if_neg hik] at hd2
                have h3 : iLe (k : Int) (i : Int) = true := by rw [iLe_true]; omega
                repeat' (first | (refine wpC_split rfl rfl (fun h => ?_) (fun h => ?_) <;> (try simp -implicitDefEqProofs only [go_sem, Nat.reduceAdd, Nat.reduceLeDiff, Nat.reduceEqDiff, Nat.reduceBEq, Nat.reduceLT, h, iaddrA_tok hd, iaddrA_tok hd2, h3, e, e2])) | (refine plan_split rfl rfl (fun h => ?_) (fun h => ?_) <;> simp -implicitDefEqProofs only [go_sem, Nat.reduceAdd, Nat.reduceLeDiff, Nat.reduceEqDiff, Nat.reduceBEq, Nat.reduceLT, h, iaddrA_tok hd, iaddrA_tok hd2, h3, e, e2]) | (refine planD_split rfl rfl (fun h => ?_) (fun h => ?_) <;> simp -implicitDefEqProofs only [go_sem, Nat.reduceAdd, Nat.reduceLeDiff, Nat.reduceEqDiff, Nat.reduceBEq, Nat.reduceLT, h, iaddrA_tok hd, iaddrA_tok hd2, h3, e, e2]) | (refine go ?_; try simp -implicitDefEqProofs only [go_sem, Nat.reduceAdd, Nat.reduceLeDiff, Nat.reduceEqDiff, Nat.reduceBEq, Nat.reduceLT, iaddrA_tok hd, iaddrA_tok hd2, h3, e, e2]) | ((with_reducible refine wpC_id ?_); simp -implicitDefEqProofs only [go_sem, Nat.reduceAdd, Nat.reduceLeDiff, Nat.reduceEqDiff, Nat.reduceBEq, Nat.reduceLT, iaddrA_tok hd, iaddrA_tok hd2, h3, e, e2]) | ((with_reducible first | refine quiet_id ?_ | refine wrote_id ?_ | refine resQ_id ?_); simp -implicitDefEqProofs only [go_sem, Nat.reduceAdd, Nat.reduceLeDiff, Nat.reduceEqDiff, Nat.reduceBEq, Nat.reduceLT, iaddrA_tok hd, iaddrA_tok hd2, h3, e, e2]) | fail)
                exact ⟨n - 1, by omega, i + 1, by omega, rfl⟩
            · repeat' (first | ((with_reducible refine PureCall.step (awake_pure) ?_); simp -implicitDefEqProofs only [go_sem, Nat.reduceAdd, Nat.reduceLeDiff, Nat.reduceEqDiff, Nat.reduceBEq, Nat.reduceLT]) | (refine wpC_split rfl rfl (fun h => ?_) (fun h => ?_) <;> (try simp -implicitDefEqProofs only [go_sem, Nat.reduceAdd, Nat.reduceLeDiff, Nat.reduceEqDiff, Nat.reduceBEq, Nat.reduceLT, h])) | (refine plan_split rfl rfl (fun h => ?_) (fun h => ?_) <;> simp -implicitDefEqProofs only [go_sem, Nat.reduceAdd, Nat.reduceLeDiff, Nat.reduceEqDiff, Nat.reduceBEq, Nat.reduceLT, h]) | (refine planD_split rfl rfl (fun h => ?_) (fun h => ?_) <;> simp -implicitDefEqProofs only [go_sem, Nat.reduceAdd, Nat.reduceLeDiff, Nat.reduceEqDiff, Nat.reduceBEq, Nat.reduceLT, h]) | (refine go ?_; try simp -implicitDefEqProofs only [go_sem, Nat.reduceAdd, Nat.reduceLeDiff, Nat.reduceEqDiff, Nat.reduceBEq, Nat.reduceLT]) | ((with_reducible refine wpC_id ?_); simp -implicitDefEqProofs only [go_sem, Nat.reduceAdd, Nat.reduceLeDiff, Nat.reduceEqDiff, Nat.reduceBEq, Nat.reduceLT]) | ((with_reducible first | refine quiet_id ?_ | refine wrote_id ?_ | refine resQ_id ?_); simp -implicitDefEqProofs only [go_sem, Nat.reduceAdd, Nat.reduceLeDiff, Nat.reduceEqDiff, Nat.reduceBEq, Nat.reduceLT]) | fail)

end Go.Proofs.YtkcljempplchkaaDoor

