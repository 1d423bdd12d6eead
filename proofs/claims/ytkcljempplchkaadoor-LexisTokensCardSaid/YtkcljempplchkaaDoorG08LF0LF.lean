/- The door's own heap meets the rows' condition. -/
import Derived.Test.YtkcljempplchkaaDoorG05L2L23
import Derived.Test.YtkcljempplchkaaDoorRows
import Derived.ProofKit
import Derived.LaidMore
import Derived.LaidHandle
import Derived.Stop.Joined
import Derived.Test.YtkcljempplchkaaDoorG06L24L25
import Derived.Test.YtkcljempplchkaaDoorG07E22E22
set_option maxRecDepth 100000
set_option linter.unusedVariables false
set_option linter.unusedSimpArgs false
namespace Go.Proofs.YtkcljempplchkaaDoor
open Go.RowKit Go.ChangeShapes Go.WideShapes

theorem own : ownKnob Tryd.prog.godebug = none := by kernel_rfl
theorem laidOut : laidOutB Tryd.prog = true := by kernel_rfl
abbrev laidL : List (String × DataW Unit) := Rows.lexisTokensRow.laid

theorem door_met (os : Os) (args : Array Value) : laidMetH Tryd.prog laidL ((World.doorLaid Tryd.prog 4000 os).forCall (fun _ _ => 0) ⟨#[], args, []⟩).memory :=
  laidMetH_of_parts3 (fuel := 8) (laidMet_of_run' 8 (by kernel_rfl) (by kernel_rfl)) (by kernel_rfl) (by kernel_rfl)


end Go.Proofs.YtkcljempplchkaaDoor

/- The frame of the laws' rows. -/
set_option maxRecDepth 100000
set_option linter.unusedVariables false
set_option linter.unusedSimpArgs false
namespace Go.Proofs.YtkcljempplchkaaDoor
open Go.Eng Go.RowKit Go.ChangeShapes Go.WideShapes

theorem laid_var {P : Program} {W : World} {name : String} {d : DataW Unit} {rest : List (String × DataW Unit)} {q : List MemPlace} (h : DataW.LaidVars P W ((name, d) :: rest) q) :
    (∃ g t cs fuel p, P.globalNamed name = some g ∧ (P.globals[g]?).map (·.type) = some t ∧ W.var? P name = some cs ∧ DataW.trod (fun _ => ()) P W 0 (fun _ => true) false fuel t cs.toList = some (d, p)) ∧ ∃ q', DataW.LaidVars P W rest q' := by
  obtain ⟨g, t, cs, fuel, p, q', h1, h2, h3, h4, h5, _⟩ := h
  exact ⟨⟨g, t, cs, fuel, p, h1, h2, h3, h4⟩, q', h5⟩

theorem laid_iface {P : Program} {W : World} {name : String} {n : String} {d : DataW Unit} {ms : _} {g : Nat} {t : TypeId} (hg : P.globalNamed name = some g) (hty : (P.globals[g]?).map (·.type) = some t) (ht : P.underlying t = some (.interface ms))
    (h : ∃ g t cs fuel p, P.globalNamed name = some g ∧ (P.globals[g]?).map (·.type) = some t ∧ W.var? P name = some cs ∧ DataW.trod (fun _ => ()) P W 0 (fun _ => true) false fuel t cs.toList = some (.iface n d, p)) : ∃ tp p, W.var? P name = some #[.iface tp p] := by
  obtain ⟨g', t', cs, fuel, p, h1, h2, h3, h4⟩ := h
  obtain rfl := Option.some.inj (hg.symm.trans h1)
  obtain rfl := Option.some.inj (hty.symm.trans h2)
  obtain ⟨l⟩ := cs
  cases fuel with
  | zero => simp [DataW.trod] at h4
  | succ fuel =>
    unfold DataW.trod at h4
    rw [ht] at h4
    split at h4 <;> first | (cases h4; done) | skip
    all_goals first
      | (rename_i u v e1 e2; cases e1; simp only at e2; subst e2; exact ⟨u, v, h3⟩)
      | (simp_all; done)

theorem laid_tab {P : Program} {W : World} {name : String} {k : IntKind} {zs : List Int} {g : Nat} {t e : TypeId} {n : Nat}
    (hg : P.globalNamed name = some g) (hty : (P.globals[g]?).map (·.type) = some t) (ht : P.underlying t = some (.array n e)) (he : P.underlying e = some (.int k)) (hce : P.cellsOf e = 1) (hct : P.cellsOf t = n)
    (h : ∃ g t cs fuel p, P.globalNamed name = some g ∧ (P.globals[g]?).map (·.type) = some t ∧ W.var? P name = some cs ∧ DataW.trod (fun _ => ()) P W 0 (fun _ => true) false fuel t cs.toList = some (Lib.tabData k zs, p)) : Lib.TabIs P W name k zs := by
  obtain ⟨g', t', cs, fuel, p, hg', ht', hvar, hd⟩ := h
  obtain rfl := Option.some.inj (hg.symm.trans hg')
  obtain rfl := Option.some.inj (hty.symm.trans ht')
  unfold Lib.TabIs
  rw [hvar, ← Lib.cells_of_tab ht he hce hct hd]

theorem of_laid {W : World} (h : laidMetH Tryd.prog laidL W) : lexL W.heap.size W := by
  rw [MakeChecks.laidMetH_plain _ _ _ (by kernel_rfl)] at h
  obtain ⟨ps, h, _, _⟩ := h
  obtain ⟨_, _, h⟩ := laid_var h
  obtain ⟨_, _, h⟩ := laid_var h
  obtain ⟨t1, _, h⟩ := laid_var h
  obtain ⟨t2, _, h⟩ := laid_var h
  obtain ⟨t3, _, h⟩ := laid_var h
  obtain ⟨_, _, h⟩ := laid_var h
  obtain ⟨t4, _, h⟩ := laid_var h
  have k1 : Lib.TabIs Tryd.prog W "internal/strconv.uint64pow10" .u64 Lib.pow10Tab := laid_tab (g := 5) (t := 134) (e := 115) (n := 20) (by kernel_rfl) (by kernel_rfl) (by kernel_rfl) (by kernel_rfl) (by kernel_rfl) (by kernel_rfl) t1
  refine ⟨?_, laid_tab (g := 0) (t := 81) (e := 5) (n := 256) (by kernel_rfl) (by kernel_rfl) (by kernel_rfl) (by kernel_rfl) (by kernel_rfl) (by kernel_rfl) t4, k1,
    laid_iface (g := 3) (t := 68) (by kernel_rfl) (by kernel_rfl) Tryd.underlying68 t3, laid_iface (g := 4) (t := 68) (by kernel_rfl) (by kernel_rfl) Tryd.underlying68 t2⟩
  have := World.var?_cell (by kernel_rfl : Tryd.prog.globalNamed "internal/strconv.uint64pow10" = some 5) k1 0
  have hc : W.cell? ⟨5, 0, none⟩ = some (.int .u64 1) := by rw [this]; rfl
  exact World.cell?_lt hc

/-- A call that answers 'true', and leaves what lay. -/
theorem law_calls {f : FuncId} {fn : Func} {args : Array Value} {avs : List AVal} {W : World} (hp : PureCall lexC f avs (.bool true)) (hf : Tryd.prog.funcs[f]? = some fn) (hn : (fn.name == "runtime.NumGoroutine") = false) (hb : fn.body.isNone = false)
    (hL : lexL W.heap.size W) (hr : Reps G0 W avs args.toList) : Calls Tryd.prog f args W fun e W' => e = .returned (.bool true) ∧ Below W.heap.size W W' := by
  have h := hp Hp.none W.heap.size W G0 W args.toList hL (wr_start W) hr
  have hrun : (callFunc f args).run Tryd.prog W = .ok (.enter f args) W := by
    simp only [callFunc, Sem.run_bind, run_program, Result.andThen_ok, hf, hn, hb]
    rfl
  rcases h with ⟨_, h⟩ | ⟨u, w', h1, _⟩
  · refine h.mono fun e w' hm => ?_
    cases e with
    | outgrown => exact hm.elim
    | panicked c => obtain ⟨v, u, H', G', _, _, ⟨hq, _⟩, _⟩ := hm; cases hq
    | returned u =>
      obtain ⟨v, H', G', hv, ⟨hq, _⟩, hw, _⟩ := hm
      cases hq
      rw [hv.bool_inv]
      exact ⟨rfl, hw.below⟩
  · rw [hrun] at h1; cases h1

theorem trodAll_stays {T : Type} {enc : TypeId × Value → T} {W W' : World} {sp' : Nat → Bool} : ∀ {ts : List TypeId} {vs : List Value} {ds : List (DataW T)} {ps : List MemPlace}, (∀ t ∈ ts, Tryd.prog.readableRec t = true ∧ t < Tryd.prog.types.size) →
    DataW.TrodAll enc Tryd.prog W 0 (fun _ => true) true ts vs ds ps → (∀ p ∈ ps, W.sameAt W' p) → (∀ p ∈ ps, sp' p.block = true) → DataW.TrodAll enc Tryd.prog W' 0 sp' true ts vs ds ps
  | [], _, _, _, _, h, _, _ => by
    obtain ⟨rfl, rfl, rfl⟩ := trodAll_nil h
    rfl
  | t :: ts, _, _, _, ht, h, hs, hp => by
    obtain ⟨v, vs1, d, ds1, a, b, rfl, rfl, rfl, h1, h2⟩ := trodAll_cons h
    refine ⟨a, b, WideElems.Trod_stays laidOut (ht t (by simp)).1 (ht t (by simp)).2 h1 (fun p hp => hs p (by simp [hp])) (fun x hx => hp x (by simp [hx])), trodAll_stays (fun t h => ht t (by simp [h])) h2 (fun p hp => hs p (by simp [hp])) (fun x hx => hp x (by simp [hx])), rfl⟩

theorem law_lifted {f : FuncId} {fn : Func} {s : ChangeSpec} (hf : Tryd.prog.funcs[f]? = some fn) (hni : Tryd.prog.inits.idxOf? f = none) (hn : (fn.name == "runtime.NumGoroutine") = false) (hb : fn.body.isNone = false)
    (hres : fn.resultTypes = #[4]) (hvars : s.vars = []) (hspec : ∀ (T : Type) (ds : List (DataW T)), ds.length = fn.params.size → s.fn T ds = { results := [.lit (.bool true)], args := ds })
    (hpt : ∀ t ∈ fn.params.toList, Tryd.prog.readableRec t = true ∧ t < Tryd.prog.types.size) (os : Os) (started : os.Started) (T : Type) (enc : TypeId × Value → T)
    (witness : ∃ (w : World) (tape : Tape) (i : Input), w.os = os ∧ (w.forCall tape i).Shaped Tryd.checked.prog ∧ i.vars = [] ∧ Input.okWide Tryd.checked.prog (w.forCall tape i) .any w.heap.size f i ∧
      ((s.pre enc Tryd.checked.prog fn [] false (w.forCall tape i).memory i.args ∧ laidMetH Tryd.prog laidL (w.forCall tape i).memory) ∧ sizedMet enc Tryd.checked.prog fn (OpenSpec.ofChange s) false (w.forCall tape i).memory i.args) ∧ ({} : Assume).holds Tryd.checked.prog (lone (Frame.enter Tryd.checked.prog f i.args .normal) [] (w.forCall tape i)))
    (hwalk : ∀ (W : World) (base : Nat) (args : Array Value) (ds : List (DataW T)) (ps : List MemPlace), (∀ (j : Nat) t v, fn.params[j]? = some t → args[j]? = some v → Value.okWide Tryd.prog W .any base t v) →
      DataW.TrodAll enc Tryd.prog W 0 (fun _ => true) true fn.params.toList args.toList ds ps → (DataW.weightsEach Tryd.prog fn.params.toList ds).all (· ≤ reachBytes) = true → ∃ avs, PureCall lexC f avs (.bool true) ∧ Reps G0 W avs args.toList) :
    ReturnsInHanded {} Tryd.checked os f .any (fun w args => (s.pre enc Tryd.prog fn [] false w args ∧ laidMetH Tryd.prog laidL w) ∧ sizedMet enc Tryd.prog fn (OpenSpec.ofChange s) false w args)
      (s.post enc Tryd.prog fn false true false false) := by
  refine returnsInHanded_of_change_and (C := Tryd.checked) (X := fun w _ => laidMetH Tryd.prog laidL w) (fun _ _ _ hh h => h.of_heap hh) own started hni hf witness ?_
  intro W base args ds gs before hval hW _ hweight hL _
  have hW' := hW
  obtain ⟨p, q, hA, hV, rfl, hfz, hnd⟩ := hW
  rw [hvars] at hV
  obtain ⟨rfl, rfl⟩ := trodVars_none hV
  have hvt : s.plain.varTypes Tryd.checked.prog = [] := by unfold DataSpec.varTypes; rw [show s.plain.vars = [] from hvars]; rfl
  rw [hvt, List.append_nil, List.append_nil] at hweight
  obtain ⟨avs, hp, hr⟩ := hwalk W base args ds p hval hA hweight
  have hlen : ds.length = fn.params.size := by
    have : ∀ {ts : List TypeId} {vs : List Value} {ds : List (DataW T)} {ps : List MemPlace}, DataW.TrodAll enc Tryd.prog W 0 (fun _ => true) true ts vs ds ps → ds.length = ts.length := by
      intro ts
      induction ts with
      | nil => intro vs ds ps h; obtain ⟨_, rfl, _⟩ := trodAll_nil h; rfl
      | cons t ts ih => intro vs ds ps h; obtain ⟨v, vs1, d, ds1, a, b, _, rfl, _, _, h2⟩ := trodAll_cons h; simp [ih h2]
    simpa using this hA
  refine (law_calls hp hf hn hb (of_laid hL) hr).mono fun e W' ⟨he, hbl⟩ => ?_
  subst he
  have e1 := hspec T ds hlen
  have hlt : ∀ x ∈ p, x.block < W.heap.size := fun x hx => hW'.lt x (by simp [hx])
  refine ⟨_, rfl, ds, [], p ++ [], [], p, [], hW', ?_, ?_, ?_, hbl.frame _, fun h => by cases h⟩
  · rw [List.append_nil, e1, hres]
    exact trodAll_mk1 (shut_bool Tryd.underlying4 true)
  · rw [List.append_nil, e1]
    exact trodAll_stays hpt hA (fun x hx => hbl.same (hlt x hx)) (fun x hx => by simpa using hlt x hx)
  · rw [List.append_nil, e1, hvars]
    rfl

/-- A law of one string. -/
theorem string_lifted {f : FuncId} {fn : Func} {s : ChangeSpec} (hf : Tryd.prog.funcs[f]? = some fn) (hni : Tryd.prog.inits.idxOf? f = none) (hn : (fn.name == "runtime.NumGoroutine") = false) (hb : fn.body.isNone = false)
    (hres : fn.resultTypes = #[4]) (hpar : fn.params = #[9]) (hvars : s.vars = []) (hspec : ∀ (T : Type) (d : DataW T), s.fn T [d] = { results := [.lit (.bool true)], args := [d] }) (os : Os) (started : os.Started) (T : Type) (enc : TypeId × Value → T)
    (hok : Input.okWideB Tryd.checked.prog ((World.doorLaid Tryd.prog 4000 os).forCall (fun _ _ => 0) ⟨#[], #[.string ⟨#[]⟩], []⟩) f ⟨#[], #[.string ⟨#[]⟩], []⟩ = true)
    (hpre : s.preB enc Tryd.checked.prog fn [] false ((World.doorLaid Tryd.prog 4000 os).forCall (fun _ _ => 0) ⟨#[], #[.string ⟨#[]⟩], []⟩).memory #[.string ⟨#[]⟩] 8 = true)
    (hsz : s.sizedB enc Tryd.checked.prog fn false ((World.doorLaid Tryd.prog 4000 os).forCall (fun _ _ => 0) ⟨#[], #[.string ⟨#[]⟩], []⟩).memory #[.string ⟨#[]⟩] 8 = true)
    (hp : ∀ l : List UInt8, l.length ≤ 140737488351232 → PureCall lexC f [.str l] (.bool true)) :
    ReturnsInHanded {} Tryd.checked os f .any (fun w args => (s.pre enc Tryd.prog fn [] false w args ∧ laidMetH Tryd.prog laidL w) ∧ sizedMet enc Tryd.prog fn (OpenSpec.ofChange s) false w args)
      (s.post enc Tryd.prog fn false true false false) := by
  refine law_lifted hf hni hn hb hres hvars (fun T ds h => ?_) (fun t ht => ?_) os started T enc
    (ChangeSpec.witness_shaped (enc := enc) (C := Tryd.checked) (os := os) (X := fun w _ => laidMetH Tryd.prog laidL w) false (World.doorLaid Tryd.prog 4000 os) #[.string ⟨#[]⟩] 8 rfl (World.shaped_of_RefB (by kernel_rfl) (by kernel_rfl)) hok hpre hsz (door_met os _)) ?_
  · rw [hpar] at h
    match ds, h with
    | [d], _ => exact hspec T d
  · rw [hpar] at ht
    have : t = 9 := by simpa using ht
    subst this
    exact ⟨by kernel_rfl, of_decide_eq_true (by kernel_rfl)⟩
  · intro W base args ds ps hval hA hw
    rw [hpar] at hA hval hw
    obtain ⟨v0, d0, rfl, rfl, h0⟩ := trodAll_one hA
    obtain ⟨l, rfl, rfl, rfl, _⟩ := ChangeMaps.open_string Tryd.underlying9 (hval 0 9 v0 rfl rfl) h0
    have hl : l.data.toList.length ≤ 140737488351232 := by
      simp only [DataW.weightsEach, DataW.weights, List.cons_append, List.nil_append, List.all_cons, Bool.and_eq_true, decide_eq_true_eq] at hw
      exact hw.1
    exact ⟨_, hp l.data.toList hl, reps1 (.str l.data.toList)⟩

/-- A law of a string and a number. -/
theorem strint_lifted {f : FuncId} {fn : Func} {s : ChangeSpec} (hf : Tryd.prog.funcs[f]? = some fn) (hni : Tryd.prog.inits.idxOf? f = none) (hn : (fn.name == "runtime.NumGoroutine") = false) (hb : fn.body.isNone = false)
    (hres : fn.resultTypes = #[4]) (hpar : fn.params = #[9, 3]) (hvars : s.vars = []) (hspec : ∀ (T : Type) (d e : DataW T), s.fn T [d, e] = { results := [.lit (.bool true)], args := [d, e] }) (os : Os) (started : os.Started) (T : Type) (enc : TypeId × Value → T)
    (hok : Input.okWideB Tryd.checked.prog ((World.doorLaid Tryd.prog 4000 os).forCall (fun _ _ => 0) ⟨#[], #[.string ⟨#[]⟩, .int .i64 0], []⟩) f ⟨#[], #[.string ⟨#[]⟩, .int .i64 0], []⟩ = true)
    (hpre : s.preB enc Tryd.checked.prog fn [] false ((World.doorLaid Tryd.prog 4000 os).forCall (fun _ _ => 0) ⟨#[], #[.string ⟨#[]⟩, .int .i64 0], []⟩).memory #[.string ⟨#[]⟩, .int .i64 0] 8 = true)
    (hsz : s.sizedB enc Tryd.checked.prog fn false ((World.doorLaid Tryd.prog 4000 os).forCall (fun _ _ => 0) ⟨#[], #[.string ⟨#[]⟩, .int .i64 0], []⟩).memory #[.string ⟨#[]⟩, .int .i64 0] 8 = true)
    (hp : ∀ (l : List UInt8) (n : Int), l.length ≤ 140737488351232 → PureCall lexC f [.str l, .int .i64 n] (.bool true)) :
    ReturnsInHanded {} Tryd.checked os f .any (fun w args => (s.pre enc Tryd.prog fn [] false w args ∧ laidMetH Tryd.prog laidL w) ∧ sizedMet enc Tryd.prog fn (OpenSpec.ofChange s) false w args)
      (s.post enc Tryd.prog fn false true false false) := by
  refine law_lifted hf hni hn hb hres hvars (fun T ds h => ?_) (fun t ht => ?_) os started T enc
    (ChangeSpec.witness_shaped (enc := enc) (C := Tryd.checked) (os := os) (X := fun w _ => laidMetH Tryd.prog laidL w) false (World.doorLaid Tryd.prog 4000 os) #[.string ⟨#[]⟩, .int .i64 0] 8 rfl (World.shaped_of_RefB (by kernel_rfl) (by kernel_rfl)) hok hpre hsz (door_met os _)) ?_
  · rw [hpar] at h
    match ds, h with
    | [d, e], _ => exact hspec T d e
  · rw [hpar] at ht
    have : t = 9 ∨ t = 3 := by simpa using ht
    rcases this with rfl | rfl <;> exact ⟨by kernel_rfl, of_decide_eq_true (by kernel_rfl)⟩
  · intro W base args ds ps hval hA hw
    rw [hpar] at hA hval hw
    obtain ⟨v0, v1, d0, d1, p0, p1, rfl, rfl, rfl, h0, h1⟩ := trodAll_two hA
    obtain ⟨l, rfl, rfl, rfl, _⟩ := ChangeMaps.open_string Tryd.underlying9 (hval 0 9 v0 rfl rfl) h0
    obtain ⟨n, rfl, rfl, rfl, _⟩ := open_int Tryd.underlying3 (hval 1 3 v1 rfl rfl) h1
    have hl : l.data.toList.length ≤ 140737488351232 := by
      simp only [DataW.weightsEach, DataW.weights, List.cons_append, List.nil_append, List.all_cons, Bool.and_eq_true, decide_eq_true_eq] at hw
      exact hw.1
    exact ⟨_, hp l.data.toList n hl, Reps.cons (.str l.data.toList) (reps1 (.int _ _))⟩

end Go.Proofs.YtkcljempplchkaaDoor

