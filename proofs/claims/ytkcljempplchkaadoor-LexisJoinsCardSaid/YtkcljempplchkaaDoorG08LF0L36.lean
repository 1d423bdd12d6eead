/- The door's own heap meets the rows' condition. -/
import Derived.Test.YtkcljempplchkaaDoorG05L2L23
import Derived.Test.YtkcljempplchkaaDoorRows
import Derived.ProofKit
import Derived.LaidMore
import Derived.LaidHandle
import Derived.Stop.Joined
import Derived.Test.YtkcljempplchkaaDoorG06L24L25
import Derived.Test.YtkcljempplchkaaDoorG07E22E22
import Derived.Test.YtkcljempplchkaaDoorG04E20E21
import Derived.Shelf.Strings.Search3
set_option maxRecDepth 100000
set_option linter.unusedVariables false
set_option linter.unusedSimpArgs false
namespace Go.Proofs.YtkcljempplchkaaDoor
open Go.RowKit Go.ChangeShapes Go.WideShapes

theorem own : ownKnob Tryd.prog.godebug = none := by kernel_rfl
theorem laidOut : laidOutB Tryd.prog = true := by kernel_rfl
abbrev laidL : List (String × DataW Unit) := Rows.lexisTokensRow.laid

theorem door_met (os : Os) (args : Array Value) : laidMetH Tryd.prog laidL ((World.doorLaid Tryd.prog 4000 os).forCall (fun _ _ => 0) ⟨#[], args, []⟩).memory :=
  laidMetH_of_parts3 (fuel := 8) (laidMet_of_run' 8 (by kernel_rfl) (by kernel_rfl)) (by kernel_rfl) (by kernel_rfl)


end Go.Proofs.YtkcljempplchkaaDoor

/- The frame of the laws' rows. -/
set_option maxRecDepth 100000
set_option linter.unusedVariables false
set_option linter.unusedSimpArgs false
namespace Go.Proofs.YtkcljempplchkaaDoor
open Go.Eng Go.RowKit Go.ChangeShapes Go.WideShapes

theorem laid_var {P : Program} {W : World} {name : String} {d : DataW Unit} {rest : List (String × DataW Unit)} {q : List MemPlace} (h : DataW.LaidVars P W ((name, d) :: rest) q) :
    (∃ g t cs fuel p, P.globalNamed name = some g ∧ (P.globals[g]?).map (·.type) = some t ∧ W.var? P name = some cs ∧ DataW.trod (fun _ => ()) P W 0 (fun _ => true) false fuel t cs.toList = some (d, p)) ∧ ∃ q', DataW.LaidVars P W rest q' := by
  obtain ⟨g, t, cs, fuel, p, q', h1, h2, h3, h4, h5, _⟩ := h
  exact ⟨⟨g, t, cs, fuel, p, h1, h2, h3, h4⟩, q', h5⟩

theorem laid_iface {P : Program} {W : World} {name : String} {n : String} {d : DataW Unit} {ms : _} {g : Nat} {t : TypeId} (hg : P.globalNamed name = some g) (hty : (P.globals[g]?).map (·.type) = some t) (ht : P.underlying t = some (.interface ms))
    (h : ∃ g t cs fuel p, P.globalNamed name = some g ∧ (P.globals[g]?).map (·.type) = some t ∧ W.var? P name = some cs ∧ DataW.trod (fun _ => ()) P W 0 (fun _ => true) false fuel t cs.toList = some (.iface n d, p)) : ∃ tp p, W.var? P name = some #[.iface tp p] := by
  obtain ⟨g', t', cs, fuel, p, h1, h2, h3, h4⟩ := h
  obtain rfl := Option.some.inj (hg.symm.trans h1)
  obtain rfl := Option.some.inj (hty.symm.trans h2)
  obtain ⟨l⟩ := cs
  cases fuel with
  | zero => simp [DataW.trod] at h4
  | succ fuel =>
    unfold DataW.trod at h4
    rw [ht] at h4
    split at h4 <;> first | (cases h4; done) | skip
    all_goals first
      | (rename_i u v e1 e2; cases e1; simp only at e2; subst e2; exact ⟨u, v, h3⟩)
      | (simp_all; done)

theorem laid_tab {P : Program} {W : World} {name : String} {k : IntKind} {zs : List Int} {g : Nat} {t e : TypeId} {n : Nat}
    (hg : P.globalNamed name = some g) (hty : (P.globals[g]?).map (·.type) = some t) (ht : P.underlying t = some (.array n e)) (he : P.underlying e = some (.int k)) (hce : P.cellsOf e = 1) (hct : P.cellsOf t = n)
    (h : ∃ g t cs fuel p, P.globalNamed name = some g ∧ (P.globals[g]?).map (·.type) = some t ∧ W.var? P name = some cs ∧ DataW.trod (fun _ => ()) P W 0 (fun _ => true) false fuel t cs.toList = some (Lib.tabData k zs, p)) : Lib.TabIs P W name k zs := by
  obtain ⟨g', t', cs, fuel, p, hg', ht', hvar, hd⟩ := h
  obtain rfl := Option.some.inj (hg.symm.trans hg')
  obtain rfl := Option.some.inj (hty.symm.trans ht')
  unfold Lib.TabIs
  rw [hvar, ← Lib.cells_of_tab ht he hce hct hd]

theorem of_laid {W : World} (h : laidMetH Tryd.prog laidL W) : lexL W.heap.size W := by
  rw [MakeChecks.laidMetH_plain _ _ _ (by kernel_rfl)] at h
  obtain ⟨ps, h, _, _⟩ := h
  obtain ⟨_, _, h⟩ := laid_var h
  obtain ⟨_, _, h⟩ := laid_var h
  obtain ⟨t1, _, h⟩ := laid_var h
  obtain ⟨t2, _, h⟩ := laid_var h
  obtain ⟨t3, _, h⟩ := laid_var h
  obtain ⟨_, _, h⟩ := laid_var h
  obtain ⟨t4, _, h⟩ := laid_var h
  have k1 : Lib.TabIs Tryd.prog W "internal/strconv.uint64pow10" .u64 Lib.pow10Tab := laid_tab (g := 5) (t := 134) (e := 115) (n := 20) (by kernel_rfl) (by kernel_rfl) (by kernel_rfl) (by kernel_rfl) (by kernel_rfl) (by kernel_rfl) t1
  refine ⟨?_, laid_tab (g := 0) (t := 81) (e := 5) (n := 256) (by kernel_rfl) (by kernel_rfl) (by kernel_rfl) (by kernel_rfl) (by kernel_rfl) (by kernel_rfl) t4, k1,
    laid_iface (g := 3) (t := 68) (by kernel_rfl) (by kernel_rfl) Tryd.underlying68 t3, laid_iface (g := 4) (t := 68) (by kernel_rfl) (by kernel_rfl) Tryd.underlying68 t2⟩
  have := World.var?_cell (by kernel_rfl : Tryd.prog.globalNamed "internal/strconv.uint64pow10" = some 5) k1 0
  have hc : W.cell? ⟨5, 0, none⟩ = some (.int .u64 1) := by rw [this]; rfl
  exact World.cell?_lt hc

/-- A call that answers 'true', and leaves what lay. -/
theorem law_calls {f : FuncId} {fn : Func} {args : Array Value} {avs : List AVal} {W : World} (hp : PureCall lexC f avs (.bool true)) (hf : Tryd.prog.funcs[f]? = some fn) (hn : (fn.name == "runtime.NumGoroutine") = false) (hb : fn.body.isNone = false)
    (hL : lexL W.heap.size W) (hr : Reps G0 W avs args.toList) : Calls Tryd.prog f args W fun e W' => e = .returned (.bool true) ∧ Below W.heap.size W W' := by
  have h := hp Hp.none W.heap.size W G0 W args.toList hL (wr_start W) hr
  have hrun : (callFunc f args).run Tryd.prog W = .ok (.enter f args) W := by
    simp only [callFunc, Sem.run_bind, run_program, Result.andThen_ok, hf, hn, hb]
    rfl
  rcases h with ⟨_, h⟩ | ⟨u, w', h1, _⟩
  · refine h.mono fun e w' hm => ?_
    cases e with
    | outgrown => exact hm.elim
    | panicked c => obtain ⟨v, u, H', G', _, _, ⟨hq, _⟩, _⟩ := hm; cases hq
    | returned u =>
      obtain ⟨v, H', G', hv, ⟨hq, _⟩, hw, _⟩ := hm
      cases hq
      rw [hv.bool_inv]
      exact ⟨rfl, hw.below⟩
  · rw [hrun] at h1; cases h1

theorem trodAll_stays {T : Type} {enc : TypeId × Value → T} {W W' : World} {sp' : Nat → Bool} : ∀ {ts : List TypeId} {vs : List Value} {ds : List (DataW T)} {ps : List MemPlace}, (∀ t ∈ ts, Tryd.prog.readableRec t = true ∧ t < Tryd.prog.types.size) →
    DataW.TrodAll enc Tryd.prog W 0 (fun _ => true) true ts vs ds ps → (∀ p ∈ ps, W.sameAt W' p) → (∀ p ∈ ps, sp' p.block = true) → DataW.TrodAll enc Tryd.prog W' 0 sp' true ts vs ds ps
  | [], _, _, _, _, h, _, _ => by
    obtain ⟨rfl, rfl, rfl⟩ := trodAll_nil h
    rfl
  | t :: ts, _, _, _, ht, h, hs, hp => by
    obtain ⟨v, vs1, d, ds1, a, b, rfl, rfl, rfl, h1, h2⟩ := trodAll_cons h
    refine ⟨a, b, WideElems.Trod_stays laidOut (ht t (by simp)).1 (ht t (by simp)).2 h1 (fun p hp => hs p (by simp [hp])) (fun x hx => hp x (by simp [hx])), trodAll_stays (fun t h => ht t (by simp [h])) h2 (fun p hp => hs p (by simp [hp])) (fun x hx => hp x (by simp [hx])), rfl⟩

theorem law_lifted {f : FuncId} {fn : Func} {s : ChangeSpec} (hf : Tryd.prog.funcs[f]? = some fn) (hni : Tryd.prog.inits.idxOf? f = none) (hn : (fn.name == "runtime.NumGoroutine") = false) (hb : fn.body.isNone = false)
    (hres : fn.resultTypes = #[4]) (hvars : s.vars = []) (hspec : ∀ (T : Type) (ds : List (DataW T)), ds.length = fn.params.size → s.fn T ds = { results := [.lit (.bool true)], args := ds })
    (hpt : ∀ t ∈ fn.params.toList, Tryd.prog.readableRec t = true ∧ t < Tryd.prog.types.size) (os : Os) (started : os.Started) (T : Type) (enc : TypeId × Value → T)
    (witness : ∃ (w : World) (tape : Tape) (i : Input), w.os = os ∧ (w.forCall tape i).Shaped Tryd.checked.prog ∧ i.vars = [] ∧ Input.okWide Tryd.checked.prog (w.forCall tape i) .any w.heap.size f i ∧
      ((s.pre enc Tryd.checked.prog fn [] false (w.forCall tape i).memory i.args ∧ laidMetH Tryd.prog laidL (w.forCall tape i).memory) ∧ sizedMet enc Tryd.checked.prog fn (OpenSpec.ofChange s) false (w.forCall tape i).memory i.args) ∧ ({} : Assume).holds Tryd.checked.prog (lone (Frame.enter Tryd.checked.prog f i.args .normal) [] (w.forCall tape i)))
    (hwalk : ∀ (W : World) (base : Nat) (args : Array Value) (ds : List (DataW T)) (ps : List MemPlace), (∀ (j : Nat) t v, fn.params[j]? = some t → args[j]? = some v → Value.okWide Tryd.prog W .any base t v) →
      DataW.TrodAll enc Tryd.prog W 0 (fun _ => true) true fn.params.toList args.toList ds ps → (DataW.weightsEach Tryd.prog fn.params.toList ds).all (· ≤ reachBytes) = true → ∃ avs, PureCall lexC f avs (.bool true) ∧ Reps G0 W avs args.toList) :
    ReturnsInHanded {} Tryd.checked os f .any (fun w args => (s.pre enc Tryd.prog fn [] false w args ∧ laidMetH Tryd.prog laidL w) ∧ sizedMet enc Tryd.prog fn (OpenSpec.ofChange s) false w args)
      (s.post enc Tryd.prog fn false true false false) := by
  refine returnsInHanded_of_change_and (C := Tryd.checked) (X := fun w _ => laidMetH Tryd.prog laidL w) (fun _ _ _ hh h => h.of_heap hh) own started hni hf witness ?_
  intro W base args ds gs before hval hW _ hweight hL _
  have hW' := hW
  obtain ⟨p, q, hA, hV, rfl, hfz, hnd⟩ := hW
  rw [hvars] at hV
  obtain ⟨rfl, rfl⟩ := trodVars_none hV
  have hvt : s.plain.varTypes Tryd.checked.prog = [] := by unfold DataSpec.varTypes; rw [show s.plain.vars = [] from hvars]; rfl
  rw [hvt, List.append_nil, List.append_nil] at hweight
  obtain ⟨avs, hp, hr⟩ := hwalk W base args ds p hval hA hweight
  have hlen : ds.length = fn.params.size := by
    have : ∀ {ts : List TypeId} {vs : List Value} {ds : List (DataW T)} {ps : List MemPlace}, DataW.TrodAll enc Tryd.prog W 0 (fun _ => true) true ts vs ds ps → ds.length = ts.length := by
      intro ts
      induction ts with
      | nil => intro vs ds ps h; obtain ⟨_, rfl, _⟩ := trodAll_nil h; rfl
      | cons t ts ih => intro vs ds ps h; obtain ⟨v, vs1, d, ds1, a, b, _, rfl, _, _, h2⟩ := trodAll_cons h; simp [ih h2]
    simpa using this hA
  refine (law_calls hp hf hn hb (of_laid hL) hr).mono fun e W' ⟨he, hbl⟩ => ?_
  subst he
  have e1 := hspec T ds hlen
  have hlt : ∀ x ∈ p, x.block < W.heap.size := fun x hx => hW'.lt x (by simp [hx])
  refine ⟨_, rfl, ds, [], p ++ [], [], p, [], hW', ?_, ?_, ?_, hbl.frame _, fun h => by cases h⟩
  · rw [List.append_nil, e1, hres]
    exact trodAll_mk1 (shut_bool Tryd.underlying4 true)
  · rw [List.append_nil, e1]
    exact trodAll_stays hpt hA (fun x hx => hbl.same (hlt x hx)) (fun x hx => by simpa using hlt x hx)
  · rw [List.append_nil, e1, hvars]
    rfl

/-- A law of one string. -/
theorem string_lifted {f : FuncId} {fn : Func} {s : ChangeSpec} (hf : Tryd.prog.funcs[f]? = some fn) (hni : Tryd.prog.inits.idxOf? f = none) (hn : (fn.name == "runtime.NumGoroutine") = false) (hb : fn.body.isNone = false)
    (hres : fn.resultTypes = #[4]) (hpar : fn.params = #[9]) (hvars : s.vars = []) (hspec : ∀ (T : Type) (d : DataW T), s.fn T [d] = { results := [.lit (.bool true)], args := [d] }) (os : Os) (started : os.Started) (T : Type) (enc : TypeId × Value → T)
    (hok : Input.okWideB Tryd.checked.prog ((World.doorLaid Tryd.prog 4000 os).forCall (fun _ _ => 0) ⟨#[], #[.string ⟨#[]⟩], []⟩) f ⟨#[], #[.string ⟨#[]⟩], []⟩ = true)
    (hpre : s.preB enc Tryd.checked.prog fn [] false ((World.doorLaid Tryd.prog 4000 os).forCall (fun _ _ => 0) ⟨#[], #[.string ⟨#[]⟩], []⟩).memory #[.string ⟨#[]⟩] 8 = true)
    (hsz : s.sizedB enc Tryd.checked.prog fn false ((World.doorLaid Tryd.prog 4000 os).forCall (fun _ _ => 0) ⟨#[], #[.string ⟨#[]⟩], []⟩).memory #[.string ⟨#[]⟩] 8 = true)
    (hp : ∀ l : List UInt8, l.length ≤ 140737488351232 → PureCall lexC f [.str l] (.bool true)) :
    ReturnsInHanded {} Tryd.checked os f .any (fun w args => (s.pre enc Tryd.prog fn [] false w args ∧ laidMetH Tryd.prog laidL w) ∧ sizedMet enc Tryd.prog fn (OpenSpec.ofChange s) false w args)
      (s.post enc Tryd.prog fn false true false false) := by
  refine law_lifted hf hni hn hb hres hvars (fun T ds h => ?_) (fun t ht => ?_) os started T enc
    (ChangeSpec.witness_shaped (enc := enc) (C := Tryd.checked) (os := os) (X := fun w _ => laidMetH Tryd.prog laidL w) false (World.doorLaid Tryd.prog 4000 os) #[.string ⟨#[]⟩] 8 rfl (World.shaped_of_RefB (by kernel_rfl) (by kernel_rfl)) hok hpre hsz (door_met os _)) ?_
  · rw [hpar] at h
    match ds, h with
    | [d], _ => exact hspec T d
  · rw [hpar] at ht
    have : t = 9 := by simpa using ht
    subst this
    exact ⟨by kernel_rfl, of_decide_eq_true (by kernel_rfl)⟩
  · intro W base args ds ps hval hA hw
    rw [hpar] at hA hval hw
    obtain ⟨v0, d0, rfl, rfl, h0⟩ := trodAll_one hA
    obtain ⟨l, rfl, rfl, rfl, _⟩ := ChangeMaps.open_string Tryd.underlying9 (hval 0 9 v0 rfl rfl) h0
    have hl : l.data.toList.length ≤ 140737488351232 := by
      simp only [DataW.weightsEach, DataW.weights, List.cons_append, List.nil_append, List.all_cons, Bool.and_eq_true, decide_eq_true_eq] at hw
      exact hw.1
    exact ⟨_, hp l.data.toList hl, reps1 (.str l.data.toList)⟩

/-- A law of a string and a number. -/
theorem strint_lifted {f : FuncId} {fn : Func} {s : ChangeSpec} (hf : Tryd.prog.funcs[f]? = some fn) (hni : Tryd.prog.inits.idxOf? f = none) (hn : (fn.name == "runtime.NumGoroutine") = false) (hb : fn.body.isNone = false)
    (hres : fn.resultTypes = #[4]) (hpar : fn.params = #[9, 3]) (hvars : s.vars = []) (hspec : ∀ (T : Type) (d e : DataW T), s.fn T [d, e] = { results := [.lit (.bool true)], args := [d, e] }) (os : Os) (started : os.Started) (T : Type) (enc : TypeId × Value → T)
    (hok : Input.okWideB Tryd.checked.prog ((World.doorLaid Tryd.prog 4000 os).forCall (fun _ _ => 0) ⟨#[], #[.string ⟨#[]⟩, .int .i64 0], []⟩) f ⟨#[], #[.string ⟨#[]⟩, .int .i64 0], []⟩ = true)
    (hpre : s.preB enc Tryd.checked.prog fn [] false ((World.doorLaid Tryd.prog 4000 os).forCall (fun _ _ => 0) ⟨#[], #[.string ⟨#[]⟩, .int .i64 0], []⟩).memory #[.string ⟨#[]⟩, .int .i64 0] 8 = true)
    (hsz : s.sizedB enc Tryd.checked.prog fn false ((World.doorLaid Tryd.prog 4000 os).forCall (fun _ _ => 0) ⟨#[], #[.string ⟨#[]⟩, .int .i64 0], []⟩).memory #[.string ⟨#[]⟩, .int .i64 0] 8 = true)
    (hp : ∀ (l : List UInt8) (n : Int), l.length ≤ 140737488351232 → PureCall lexC f [.str l, .int .i64 n] (.bool true)) :
    ReturnsInHanded {} Tryd.checked os f .any (fun w args => (s.pre enc Tryd.prog fn [] false w args ∧ laidMetH Tryd.prog laidL w) ∧ sizedMet enc Tryd.prog fn (OpenSpec.ofChange s) false w args)
      (s.post enc Tryd.prog fn false true false false) := by
  refine law_lifted hf hni hn hb hres hvars (fun T ds h => ?_) (fun t ht => ?_) os started T enc
    (ChangeSpec.witness_shaped (enc := enc) (C := Tryd.checked) (os := os) (X := fun w _ => laidMetH Tryd.prog laidL w) false (World.doorLaid Tryd.prog 4000 os) #[.string ⟨#[]⟩, .int .i64 0] 8 rfl (World.shaped_of_RefB (by kernel_rfl) (by kernel_rfl)) hok hpre hsz (door_met os _)) ?_
  · rw [hpar] at h
    match ds, h with
    | [d, e], _ => exact hspec T d e
  · rw [hpar] at ht
    have : t = 9 ∨ t = 3 := by simpa using ht
    rcases this with rfl | rfl <;> exact ⟨by kernel_rfl, of_decide_eq_true (by kernel_rfl)⟩
  · intro W base args ds ps hval hA hw
    rw [hpar] at hA hval hw
    obtain ⟨v0, v1, d0, d1, p0, p1, rfl, rfl, rfl, h0, h1⟩ := trodAll_two hA
    obtain ⟨l, rfl, rfl, rfl, _⟩ := ChangeMaps.open_string Tryd.underlying9 (hval 0 9 v0 rfl rfl) h0
    obtain ⟨n, rfl, rfl, rfl, _⟩ := open_int Tryd.underlying3 (hval 1 3 v1 rfl rfl) h1
    have hl : l.data.toList.length ≤ 140737488351232 := by
      simp only [DataW.weightsEach, DataW.weights, List.cons_append, List.nil_append, List.all_cons, Bool.and_eq_true, decide_eq_true_eq] at hw
      exact hw.1
    exact ⟨_, hp l.data.toList n hl, Reps.cons (.str l.data.toList) (reps1 (.int _ _))⟩

end Go.Proofs.YtkcljempplchkaaDoor

/- The frame of a law of a row of tokens. -/
set_option maxRecDepth 100000
set_option linter.unusedVariables false
set_option linter.unusedSimpArgs false
namespace Go.Proofs.YtkcljempplchkaaDoor
open Go.Eng Go.RowKit Go.ChangeShapes Go.WideShapes

section
variable {T : Type} {enc : TypeId × Value → T} {w : World} {base : Nat} {sp : Nat → Bool} {held : Bool}

theorem token_data {fuel : Nat} {cs : List Value} {x : DataW T × List MemPlace} (h : DataW.trod enc Tryd.prog w base sp held fuel 33 cs = some x) :
    ∃ a s b, x.1 = .agg [.lit (.int .i64 a), .lit (.string s), .lit (.int .i64 b)] := by
  obtain ⟨xs, n, rfl, rfl, hl, hxl, hrd⟩ := DataW.trod_struct Tryd.underlying33 h
  match xs, hxl with
  | [x0, x1, x2], _ =>
    have h0 : DataW.trod enc Tryd.prog w base sp held n 3 _ = some x0 := hrd 0 _ rfl
    have h1 : DataW.trod enc Tryd.prog w base sp held n 9 _ = some x1 := hrd 1 _ rfl
    have h2 : DataW.trod enc Tryd.prog w base sp held n 3 _ = some x2 := hrd 2 _ rfl
    obtain ⟨a, _, rfl, _⟩ := DataW.trod_int Tryd.underlying3 h0
    obtain ⟨s, _, rfl, _⟩ := DataW.trod_string Tryd.underlying9 h1
    obtain ⟨b, _, rfl, _⟩ := DataW.trod_int Tryd.underlying3 h2
    exact ⟨a, _, b, rfl⟩

theorem tokens_data : ∀ (es : List (DataW T)), (∀ d ∈ es, ∃ a s b, d = .agg [.lit (.int .i64 a), .lit (.string s), .lit (.int .i64 b)]) →
    ∃ l : List Token, avRows es = tokRows l ∧ l.length = es.length ∧ DataW.weightsAll Tryd.prog 33 es = l.map (fun t => t.text.length)
  | [], _ => ⟨[], rfl, rfl, by simp [DataW.weightsAll]⟩
  | d :: es, h => by
    obtain ⟨l, h1, h2, h3⟩ := tokens_data es fun d hd => h d (by simp [hd])
    obtain ⟨a, s, b, rfl⟩ := h d (by simp)
    refine ⟨⟨a, s, b⟩ :: l, ?_, by simp [h2], ?_⟩
    · rw [avRows, h1]
      simp [tokRows, tokRow, avCells, avCat]
    · rw [DataW.weightsAll, h3]
      simp [DataW.weights, DataW.weightsEach, Tryd.underlying33]

theorem toks_data {v : Value} {d : DataW T} {ps : List MemPlace} (h : DataW.Trod enc Tryd.prog w base sp held 22 v d ps) :
    ∃ l : List Token, avCells d = [.sl (tokRows l) .no] ∧ ((DataW.weights Tryd.prog 22 d).all (· ≤ reachBytes) = true → l.length * 32 ≤ reachBytes ∧ ∀ t ∈ l, t.text.length ≤ reachBytes) := by
  obtain ⟨fuel, h⟩ := h
  rcases DataW.trod_slice Tryd.underlying22 h with ⟨_, he⟩ | ⟨a, len, cap, elems, rest, n, rfl, hcs, he, _, hlc, _, hel, hread, _⟩
  · cases he
    exact ⟨[], by rw [avCells]; rfl, fun _ => ⟨by simp [reachBytes], fun t ht => by cases ht⟩⟩
  · cases he
    obtain ⟨l, h1, h2, h3⟩ := tokens_data (elems.map (·.1)) fun d hd => by
      obtain ⟨x, hx, rfl⟩ := List.mem_map.1 hd
      obtain ⟨i, hi⟩ := List.mem_iff_getElem?.1 hx
      have hr := hread i (by rw [← hel]; exact (List.getElem?_eq_some_iff.1 hi).1)
      rw [hi, Option.bind_eq_some_iff] at hr
      obtain ⟨csi, _, h2⟩ := hr
      exact token_data h2
    refine ⟨l, by rw [avCells, h1], fun hw => ?_⟩
    have hb : Tryd.prog.bytesOf 33 = 32 := by kernel_rfl
    simp only [DataW.weights, Tryd.underlying22, List.all_cons, List.all_append, Bool.and_eq_true, decide_eq_true_eq, hb, h3] at hw
    refine ⟨Nat.le_trans (Nat.mul_le_mul_right _ (by rw [h2]; simp)) hw.1, fun t ht => ?_⟩
    have := List.all_eq_true.1 hw.2.1 t.text.length (List.mem_map_of_mem ht)
    simpa using this
end

/-- A law of a row of tokens. -/
theorem toks_lifted {f : FuncId} {fn : Func} {s : ChangeSpec} (hf : Tryd.prog.funcs[f]? = some fn) (hni : Tryd.prog.inits.idxOf? f = none) (hn : (fn.name == "runtime.NumGoroutine") = false) (hb : fn.body.isNone = false)
    (hres : fn.resultTypes = #[4]) (hpar : fn.params = #[22]) (hvars : s.vars = []) (hspec : ∀ (T : Type) (d : DataW T), s.fn T [d] = { results := [.lit (.bool true)], args := [d] }) (os : Os) (started : os.Started) (T : Type) (enc : TypeId × Value → T)
    (hok : Input.okWideB Tryd.checked.prog ((World.doorLaid Tryd.prog 4000 os).forCall (fun _ _ => 0) ⟨#[], #[.slice none 0 0], []⟩) f ⟨#[], #[.slice none 0 0], []⟩ = true)
    (hpre : s.preB enc Tryd.checked.prog fn [] false ((World.doorLaid Tryd.prog 4000 os).forCall (fun _ _ => 0) ⟨#[], #[.slice none 0 0], []⟩).memory #[.slice none 0 0] 8 = true)
    (hsz : s.sizedB enc Tryd.checked.prog fn false ((World.doorLaid Tryd.prog 4000 os).forCall (fun _ _ => 0) ⟨#[], #[.slice none 0 0], []⟩).memory #[.slice none 0 0] 8 = true)
    (hp : ∀ l : List Token, l.length * 32 ≤ 140737488355328 → (∀ t ∈ l, t.text.length ≤ 281474976710656) → PureCall lexC f [.sl (tokRows l) .no] (.bool true)) :
    ReturnsInHanded {} Tryd.checked os f .any (fun w args => (s.pre enc Tryd.prog fn [] false w args ∧ laidMetH Tryd.prog laidL w) ∧ sizedMet enc Tryd.prog fn (OpenSpec.ofChange s) false w args)
      (s.post enc Tryd.prog fn false true false false) := by
  refine law_lifted hf hni hn hb hres hvars (fun T ds h => ?_) (fun t ht => ?_) os started T enc
    (ChangeSpec.witness_shaped (enc := enc) (C := Tryd.checked) (os := os) (X := fun w _ => laidMetH Tryd.prog laidL w) false (World.doorLaid Tryd.prog 4000 os) #[.slice none 0 0] 8 rfl (World.shaped_of_RefB (by kernel_rfl) (by kernel_rfl)) hok hpre hsz (door_met os _)) ?_
  · rw [hpar] at h
    match ds, h with
    | [d], _ => exact hspec T d
  · rw [hpar] at ht
    have : t = 22 := by simpa using ht
    subst this
    exact ⟨by kernel_rfl, of_decide_eq_true (by kernel_rfl)⟩
  · intro W base args ds ps hval hA hw
    rw [hpar] at hA hval hw
    obtain ⟨v0, d0, rfl, rfl, h0⟩ := trodAll_one hA
    obtain ⟨l, h1, h2⟩ := toks_data h0
    have hw' : (DataW.weights Tryd.prog 22 d0).all (· ≤ reachBytes) = true := by
      simpa [DataW.weightsEach] using hw
    obtain ⟨h3, h4⟩ := h2 hw'
    obtain ⟨fuel, h0'⟩ := h0
    have hr := trod_reps (S := [22, 33, 3, 9]) (fun t ht => by
      have : t = 22 ∨ t = 33 ∨ t = 3 ∨ t = 9 := by simpa using ht
      rcases this with rfl | rfl | rfl | rfl
      · exact (by kernel_rfl : okT Tryd.prog [22, 33, 3, 9] 22 = true)
      · exact (by kernel_rfl : okT Tryd.prog [22, 33, 3, 9] 33 = true)
      · exact (by kernel_rfl : okT Tryd.prog [22, 33, 3, 9] 3 = true)
      · exact (by kernel_rfl : okT Tryd.prog [22, 33, 3, 9] 9 = true)) fuel 22 _ _ (by simp) h0'
    rw [h1] at hr
    refine ⟨_, hp l (by unfold reachBytes at h3; omega) (fun t ht => by have := h4 t ht; unfold reachBytes at this; omega), ?_⟩
    obtain ⟨a, n, cap, rfl⟩ := okWide_slice Tryd.underlying22 (hval 0 22 v0 rfl rfl)
    exact hr

end Go.Proofs.YtkcljempplchkaaDoor

/- The strings.Builder's String and copyCheck, walked with the kit's tactics: the worlds behind them, exactly. -/
set_option maxRecDepth 100000
set_option linter.unusedVariables false
set_option linter.unusedSimpArgs false
set_option maxHeartbeats 1000000
namespace Go.Proofs
open Go.Shelf Go.RowKit

theorem Tryd.string_row (w : World) (b g cap n0 : Nat) (p : Value) (bt : TypeId) (cur : Array Value) (l : List UInt8) (h0 : l ≠ []) (hcap : l.length ≤ cap) (hl : l.length ≤ 9223372036854775807) (hn : l.length ≤ cur.size)
    (hb : w.heap[b]? = some (.cells #[p, .slice (some ⟨g, 0, none⟩) l.length cap] bt (0, 0))) (hg : w.heap[g]? = some (.cells cur 5 (0, 0))) (hc : ∀ j x, l[j]? = some x → w.cell? ⟨g, j, none⟩ = some (.int .u8 x.toNat)) :
    Calls Tryd.prog 49 #[.pointer (some ⟨b, 0, none⟩)] w fun e w' => e = .returned (.string ⟨l.toArray⟩) ∧ w' = w.drew.freeze ⟨g, 0, none⟩ l.length := by
  have hl0 : l.length ≠ 0 := by simpa using h0
  have c1 : w.drew.cell? ⟨b, 1, none⟩ = some (.slice (some ⟨g, 0, none⟩) l.length cap) := by
    have : w.drew.heap[b]? = some (.cells #[p, .slice (some ⟨g, 0, none⟩) l.length cap] bt (0, 0)) := hb
    rw [Lib.cell_of_heap this]; rfl
  have hSD : (Builtin.unsafeSliceData_ #[63] 79 #[.slice (some ⟨g, 0, none⟩) l.length cap]).run Tryd.prog w.drew = .ok (.pointer (some ⟨g, 0, none⟩)) w.drew :=
    Lib.run_unsafeSliceData_row _ _ _ _ _ _ (by omega)
  have hUS : (Builtin.unsafeString_ #[79, 3] 9 #[.pointer (some ⟨g, 0, none⟩), .int .i64 l.length]).run Tryd.prog w.drew = .ok (.string ⟨l.toArray⟩) (w.drew.freeze ⟨g, 0, none⟩ l.length) := by
    refine Lib.run_unsafeString_row w.drew 79 3 9 5 Tryd.underlying79 Tryd.Builder_Extra_169.cellsByte g cur.size (by have hg' : w.drew.heap[g]? = some (.cells cur 5 (0, 0)) := hg; simp [World.shape?, hg']) l h0 hn hl ?_
    intro j x hx
    have := hc j x hx
    rw [Addr.add_lit, Nat.zero_add]; exact this
  have mixed := Tryd.lays169.mixed
  go_enter Tryd.func49, Tryd.ntmps49
  go_wp2
  go_region_o
  all_goals (go_wp2; go_ret; exact ⟨rfl, rfl⟩)

theorem Tryd.string_none (w : World) (b : Nat) (p : Value) (bt : TypeId) (hb : w.heap[b]? = some (.cells #[p, .slice none 0 0] bt (0, 0))) :
    Calls Tryd.prog 49 #[.pointer (some ⟨b, 0, none⟩)] w fun e w' => e = .returned (.string .empty) ∧ w' = w.drew := by
  have hUS := fun (W : World) (q : Option Addr) => Lib.run_unsafeString_none (P := Tryd.prog) W 79 3 9 q
  have c1 : w.drew.cell? ⟨b, 1, none⟩ = some (.slice none 0 0) := by
    have : w.drew.heap[b]? = some (.cells #[p, .slice none 0 0] bt (0, 0)) := hb
    rw [Lib.cell_of_heap this]; rfl
  have hSD : (Builtin.unsafeSliceData_ #[63] 79 #[.slice none 0 0]).run Tryd.prog w.drew = .ok (.pointer none) w.drew := rfl
  have mixed := Tryd.lays169.mixed
  go_enter Tryd.func49, Tryd.ntmps49
  go_wp2
  go_region_o
  all_goals (go_wp2; go_ret; exact ⟨rfl, rfl⟩)

theorem Tryd.copyCheck_used (w : World) (b : Nat) (h0 : w.cell? ⟨b, 0, none⟩ = some (.pointer (some ⟨b, 0, none⟩))) :
    Calls Tryd.prog 69 #[.pointer (some ⟨b, 0, none⟩)] w fun e w' => e = .returned (.tuple #[]) ∧ w' = w := by
  obtain ⟨j, hj, _⟩ := Option.map_eq_some_iff.1 Tryd.Builder_Extra_169.sizeBuilder
  go_enter Tryd.func69, Tryd.ntmps69
  go_wp2
  rw [Lib.run_neq_ptr_same w _ Tryd.underlying62 hj]
  go_wp2
  go_end0
  exact ⟨rfl, rfl⟩

theorem Tryd.copyCheck_fresh (w : World) (b : Nat) (h0 : w.cell? ⟨b, 0, none⟩ = some (.pointer none)) (hsh : w.shape? b = some (65, 2)) (hfz : w.frozen? ⟨b, 0, none⟩ = false) :
    Calls Tryd.prog 69 #[.pointer (some ⟨b, 0, none⟩)] w fun e w' => e = .returned (.tuple #[]) ∧ w' = w.setCell ⟨b, 0, none⟩ (.pointer (some ⟨b, 0, none⟩)) := by
  obtain ⟨j, hj, hjs⟩ := Option.map_eq_some_iff.1 Tryd.Builder_Extra_169.sizeBuilder
  go_enter Tryd.func69, Tryd.ntmps69
  go_wp2
  rw [Lib.run_to_unsafe w ⟨b, 0, none⟩ Tryd.underlying62 Tryd.underlying84 hj (by rw [hjs]; decide) hsh (Nat.zero_lt_succ 1)]
  simp only [Result.andThen]
  rw [Oper.upon_value]
  go_wp2
  rw [run_callFunc_extern Tryd.func80 (by kernel_rfl) (by kernel_rfl) (by kernel_rfl) (e := Extern.AbiNoEscape.same) (by kernel_rfl)]
  rw [Lib.run_noEscape]
  simp only [Result.andThen]
  rw [Oper.upon_value]
  go_wp2
  rw [Lib.run_from_unsafe w ⟨b, 0, none⟩ Tryd.underlying84 Tryd.underlying62 hj hsh Tryd.Builder_Extra_169.liesBuilder]
  simp only [Result.andThen]
  rw [Oper.upon_value]
  go_wp2
  go_end0
  exact ⟨rfl, rfl⟩

end Go.Proofs

/- The strings.Builder in the engine: copyCheck, WriteByte, WriteString, String. -/
set_option maxRecDepth 100000
set_option linter.unusedVariables false
set_option linter.unusedSimpArgs false
namespace Go.Eng
open Go.RowKit (Below)

/-- A token's row is frozen, and the token given up. -/
theorem Wr.dropTok {base : Nat} {w0 : World} {H : Hp} {G : Gh} {w : World} (h : Wr base w0 H G w) {id b n sz : Nat} {o : Option TypeId} (hH : H id = some (.tok n sz o)) (hst : G.st id = .tok b n sz) (hf : G.fr b = some (n * sz)) (hb : base ≤ b) {c : Array Value} {ty : TypeId} {fz fz' : Nat × Nat}
    (hc : w.heap[b]? = some (.cells c ty fz)) (w' : World) (hw : w'.heap = w.heap.setIfInBounds b (.cells c ty fz')) (h1 : w'.os = w.os) (h2 : w'.tape = w.tape) (h3 : w'.output = w.output) :
    Wr base w0 (fun j => if j = id then none else H j) G w' ∧ GExt G w G w' ∧ Fr H G w (fun j => if j = id then none else H j) G w' := by
  have hlt : b < w.heap.size := (Array.getElem?_eq_some_iff.1 hc).1
  have hne : ∀ k, k ≠ b → w'.heap[k]? = w.heap[k]? := fun k hk => by rw [hw, Array.getElem?_setIfInBounds, if_neg (by omega)]
  have hcb : w'.heap[b]? = some (.cells c ty fz') := by rw [hw, Array.getElem?_setIfInBounds]; simp [hlt]
  have hsz : w'.heap.size = w.heap.size := by rw [hw]; simp
  have hd : ∀ i o, (fun j => if j = id then none else H j) i = some o → i ≠ id ∧ H i = some o := fun i o hi => by
    simp only at hi
    split at hi
    · cases hi
    · exact ⟨by assumption, hi⟩
  have hn : ∀ i, (fun j => if j = id then none else H j) i ≠ none → i ≠ id ∧ H i ≠ none := fun i hi => by
    cases hh : (fun j => if j = id then none else H j) i with
    | none => exact absurd hh hi
    | some o => obtain ⟨a, b⟩ := hd i o hh; exact ⟨a, by rw [b]; simp⟩
  have x : GExt G w G w' := {
    size := by rw [hsz]; exact Nat.le_refl _
    shape := fun k hk => by
      by_cases e : k = b
      · subst e; simp only [World.shape?, hcb, hc]
      · exact shape?_of_heap (hne k e)
    imm := fun k hk hfk => ⟨hfk, hne k (fun e => by rw [e, hf] at hfk; cases hfk)⟩
    own := fun k m hk hfk => ⟨fun n' hn' => by rw [hfk] at hn'; cases hn'; exact Nat.le_refl _, fun o ho => by
      by_cases e : k = b
      · subst e; simp only [World.cell?, hcb, hc]
      · exact cell?_of_heap (hne k e)⟩
    obj := fun _ _ h => h
    dead := fun _ h => h
    tok := fun id b m s h => .inr ⟨b, m, s, h, Nat.le_refl _, fun _ => ⟨rfl, rfl⟩⟩ }
  refine ⟨⟨h.below.trans ⟨h1, h2, h3, by rw [hsz]; exact Nat.le_refl _, fun k hk => hne k (by omega)⟩, by rw [hsz]; exact h.le, h.old, by rw [hsz]; exact h.new, fun i ob hi => ?_, fun i j k hi hj => ?_, h.fresh⟩, x, ⟨fun k hk hu => ⟨hne k fun e => ?_, rfl⟩, fun k hk hu i hi => hu i (hn i hi).2⟩⟩
  · obtain ⟨hi1, hi2⟩ := hd i ob hi
    refine (h.ob i ob hi2).mono x rfl fun k hk => ⟨rfl, hne k fun e => ?_⟩
    subst e
    exact hi1 (h.apart i id k (by rw [hi2]; simp) (by rw [hH]; simp) hk (by rw [hst]; rfl))
  · exact h.apart i j k (hn i hi).2 (hn j hj).2
  · exact hu id (by rw [hH]; simp) (by rw [hst, e]; rfl)

theorem freeze_heap {w : World} {b n : Nat} {c : Array Value} {ty : TypeId} (h : w.heap[b]? = some (.cells c ty (0, 0))) (hn : n ≠ 0) :
    (w.freeze ⟨b, 0, none⟩ n).heap = w.heap.setIfInBounds b (.cells c ty (0, 0 + n)) := by
  obtain ⟨hb, he⟩ := Array.getElem?_eq_some_iff.1 h
  unfold World.freeze
  rw [if_neg hn]
  apply Array.ext
  · simp
  · intro i h1 h2
    simp only [Array.getElem_modify]
    by_cases e : b = i
    · subst e
      simp [he]
    · rw [Array.getElem_setIfInBounds, if_neg e, if_neg e]

end Go.Eng

namespace Go.Proofs.YtkcljempplchkaaDoor
open Go.Eng

theorem reps_2 {G : Gh} {w : World} {a c : AVal} {vs : List Value} (h : Reps G w [a, c] vs) : ∃ u v, vs = [u, v] ∧ Rep G w a u ∧ Rep G w c v := by
  match vs, h with
  | [u, v], h => exact ⟨u, v, rfl, h.2 0 _ _ rfl rfl, h.2 1 _ _ rfl rfl⟩
  | [], h => have := h.1; simp at this
  | [_], h => have := h.1; simp at this
  | _ :: _ :: _ :: _, h => have := h.1; simp at this

theorem copyCheck_calls {O : Cfg} {H : Hp} {i : Nat} {p s : AVal} (hH : H i = some (.cells [p, s] (some 65))) (hp : p = .nilptr ∨ p = .ref i 0) {Q : ARet → Hp → Prop}
    (hQ : Q (.ret (.tup [])) (H.upd i (.cells [.ref i 0, s] (some 65)))) : ACalls O Tryd.prog 69 [.ref i 0] H Q := by
  refine lib_calls Tryd.func69 (by kernel_rfl) (by kernel_rfl) ?_
  intro base w0 G w vs hL hw hvs
  obtain ⟨u, rfl, hu⟩ := reps_one hvs
  obtain ⟨b, rfl, hst⟩ := hu.ref_inv
  obtain ⟨b', us, ty, g1, g2, g3, g4, g5, g6⟩ := hw.ob i _ hH
  rw [hst] at g1; cases g1
  obtain ⟨u0, u1, rfl, r0, r1⟩ := reps_2 g5
  obtain rfl := g6 65 rfl
  rcases hp with rfl | rfl
  · obtain rfl := r0.nilptr_inv
    refine (Tryd.copyCheck_fresh w b (by rw [Lib.cell_of_heap g4]; rfl) (by simp [World.shape?, g4]) (Lib.frozen_of_heap g4 0)).mono ?_
    rintro e w' ⟨rfl, rfl⟩
    obtain ⟨k1, k2⟩ := hw.setOb (ob' := .cells [.ref i 0, s] (some 65)) hH hst g3 g2 g4 (w.setCell ⟨b, 0, none⟩ (.pointer (some ⟨b, 0, none⟩))) (setCell_heap w b 0 _ _ _ _ g4) rfl rfl rfl
      ⟨rfl, by simp⟩ (fun w' hx hb => ⟨b, [.pointer (some ⟨b, 0, none⟩), u1], 65, hst, g2, g3, by simpa using hb, Reps.cons (.ref 0 (hx.obj _ _ hst)) (Reps.cons (r1.mono hx) Reps.nil), fun _ h => by cases h; rfl⟩)
    exact ⟨_, _, G, Rep.tup' Reps.nil, hQ, k1, k2, Fr.setOb hH (by rw [hst]; rfl) (setCell_heap w b 0 _ _ _ _ g4)⟩
  · obtain ⟨b2, rfl, hst2⟩ := r0.ref_inv
    rw [hst] at hst2; cases hst2
    refine (Tryd.copyCheck_used w b (by rw [Lib.cell_of_heap g4]; rfl)).mono ?_
    rintro e w' ⟨rfl, rfl⟩
    rw [Hp.upd_id H hH] at hQ
    exact ⟨_, _, G, Rep.tup' Reps.nil, hQ, hw, GExt.refl _ _, Fr.refl _ _ _⟩

theorem byteRows_len (l : List UInt8) : (byteRows l).length = l.length := by simp [byteRows]
theorem byteRows_flatten (l : List UInt8) : (byteRows l).flatten = l.map fun c => .int .u8 (c.toNat : Int) := by
  unfold byteRows
  induction l with
  | nil => rfl
  | cons x l ih => simp only [List.map_cons, List.flatten_cons, ih]; rfl

/-- String: the bytes that were written; the row is frozen, the token given up. -/
theorem bString_calls {O : Cfg} {H : Hp} {i : Nat} {p : AVal} {l : List UInt8} {t : Tok} {o : Option TypeId} (hH : H i = some (.cells [p, .sl (byteRows l) t] o)) (hl : l.length ≤ 9223372036854775807)
    (ht : (l = [] ∧ t = .nil) ∨ (l ≠ [] ∧ ∃ id, t = .own id 1 ∧ H id = some (.tok l.length 1 (some 5)))) {Q : ARet → Hp → Prop}
    (hQ : ∀ H', (∀ j ob, H j = some ob → t ≠ .own j 1 → H' j = some ob) → Q (.ret (.str l)) H') : ACalls O Tryd.prog 49 [.ref i 0] H Q := by
  refine lib_calls Tryd.func49 (by kernel_rfl) (by kernel_rfl) ?_
  intro base w0 G w vs hL hw hvs
  obtain ⟨u, rfl, hu⟩ := reps_one hvs
  obtain ⟨b, rfl, hst⟩ := hu.ref_inv
  obtain ⟨b', us, ty, g1, g2, g3, g4, g5, g6⟩ := hw.ob i _ hH
  rw [hst] at g1; cases g1
  obtain ⟨u0, u1, rfl, r0, r1⟩ := reps_2 g5
  rcases ht with ⟨rfl, rfl⟩ | ⟨hne, id, rfl, hid⟩
  · obtain ⟨_, rfl⟩ := r1.nil_inv
    refine (Tryd.string_none w b u0 ty g4).mono ?_
    rintro e w' ⟨rfl, rfl⟩
    obtain ⟨k1, k2⟩ := hw.drew
    exact ⟨_, _, G, .str [], hQ H (fun j ob h _ => h), k1, k2, Fr.drew⟩
  · obtain ⟨g, c, ty', k1, k2, k3, k4, k5, k6⟩ := hw.ob id _ hid
    obtain rfl := k6 5 rfl
    rcases r1.sl_inv with ⟨h0, _⟩ | ⟨b2, off, cap, sz, ws, rfl, hsz, hr, him, hb2, hcap, htk⟩ | ⟨h0, _⟩
    · exact absurd (by simpa [byteRows] using h0) hne
    · obtain ⟨he1, htk⟩ := htk
      simp only [k1] at htk
      obtain ⟨-, htk⟩ := htk
      rw [byteRows_len] at htk
      obtain ⟨e1, e2, e3, e'', N, e4, e5⟩ := htk rfl
      subst e1; subst e3
      have hN : N = c.size := by simp only [World.shape?, k4, Option.some.injEq, Prod.mk.injEq] at e4; exact e4.2.symm
      subst hN
      rw [byteRows_flatten] at hr
      rw [byteRows_len] at g4 hcap
      have hl0 : l.length ≠ 0 := by simpa using hne
      refine (Tryd.string_row w b g cap 0 u0 ty c l hne hcap hl (by omega) g4 k4 (fun j x hx => ?_)).mono ?_
      · have hjl : j < ws.length := by
          have := hr.1
          rw [List.length_map] at this
          have := (List.getElem?_eq_some_iff.1 hx).1
          omega
        have hwj : ws[j]? = some ws[j] := List.getElem?_eq_getElem hjl
        have h1 := (him j _ hwj).1
        rw [Nat.zero_add] at h1
        rw [h1]
        have h2 := hr.2 j _ _ (by rw [List.getElem?_map, hx]; rfl) hwj
        rw [h2.int_inv]
      · rintro e w' ⟨rfl, rfl⟩
        obtain ⟨d1, d2⟩ := hw.drew
        obtain ⟨q1, q2, q3⟩ := d1.dropTok hid k1 k3 k2 (w := w.drew) (by exact k4) (w.drew.freeze ⟨g, 0, none⟩ l.length) (freeze_heap (w := w.drew) (by exact k4) hl0) (by simp [World.freeze, hl0]) (by simp [World.freeze, hl0]) (by simp [World.freeze, hl0])
        refine ⟨_, _, G, .str l, hQ _ (fun j ob h hj => ?_), q1, d2.trans q2, Fr.drew.trans (Nat.le_refl _) q3⟩
        exact (if_neg (fun e => hj (by rw [e]))).trans h
    · exact absurd (by simpa [byteRows] using h0) hne

end Go.Proofs.YtkcljempplchkaaDoor

/- MADE BY PROGRAM: one more of the shelf's contracts (as LS: wip/lex/shelfcut.py): strings.Contains of one byte. -/
namespace Go.Proofs
open Go.Shelf
def Tryd.lays144_ren : Go.Shelf.Ren := ⟨fun | 144 => 79 | 143 => 66 | 219 => 78 | 217 => 71 | 225 => 87 | 224 => 88 | 267 => 89 | 266 => 81 | 314 => 98 | n => n, fun | 9 => 9 | 4 => 4 | 3 => 3 | 5 => 5 | 46 => 31 | 146 => 113 | 51 => 91 | n => n, fun | 1 => 1 | n => n⟩
theorem Tryd.lays144 : Go.Proofs.Lays.n144 Tryd.prog Tryd.lays144_ren := {
  mixed := by kernel_rfl
  f143 := Tryd.func66.trans (congrArg some (by kernel_rfl))
  f144 := Tryd.func79.trans (congrArg some (by kernel_rfl))
  f217 := Tryd.func71.trans (congrArg some (by kernel_rfl))
  f219 := Tryd.func78.trans (congrArg some (by kernel_rfl))
  f224 := Tryd.func88.trans (congrArg some (by kernel_rfl))
  f225 := Tryd.func87.trans (congrArg some (by kernel_rfl))
  f266 := Tryd.func81.trans (congrArg some (by kernel_rfl))
  f267 := Tryd.func89.trans (congrArg some (by kernel_rfl))
  f314 := Tryd.func98.trans (congrArg some (by kernel_rfl))
  t3 := Tryd.underlying3
  a3 := Tryd.isAgg3
  z3 := Tryd.sizeOf3
  v3 := Tryd.zeroValue3
  t4 := Tryd.underlying4
  a4 := Tryd.isAgg4
  z4 := Tryd.sizeOf4
  v4 := Tryd.zeroValue4
  t5 := Tryd.underlying5
  a5 := Tryd.isAgg5
  z5 := Tryd.sizeOf5
  v5 := Tryd.zeroValue5
  t9 := Tryd.underlying9
  a9 := Tryd.isAgg9
  z9 := Tryd.sizeOf9
  v9 := Tryd.zeroValue9
  t46 := Tryd.underlying31
  a46 := Tryd.isAgg31
  z46 := Tryd.sizeOf31
  v46 := Tryd.zeroValue31
  t51 := Tryd.underlying91
  a51 := Tryd.isAgg91
  z51 := Tryd.sizeOf91
  v51 := Tryd.zeroValue91
  t146 := Tryd.underlying113
  a146 := Tryd.isAgg113
  z146 := Tryd.sizeOf113
  v146 := Tryd.zeroValue113
  g1 := by kernel_rfl }
open Go.RowKit Go.Lib in
/-- strings.Contains: "Contains reports whether substr is within s.": AT A substr OF ONE BYTE c: IT RETURNS 'decide (0 ≤ Lib.indexByte s c)'; the world is as it was. (LAID: no walk: one application.) -/
theorem Tryd.strings_Contains_one (s : ByteArray) (c : UInt8) (w : World) :
    Calls Tryd.prog 79 #[.string s, .string ⟨#[c]⟩] w fun e w' => e = .returned (.bool (decide (0 ≤ Lib.indexByte s.data.toList c))) ∧ w' = w := Any.strings_Contains_one Tryd.lays144 s c w
end Go.Proofs

/- isSign, isToken: the tool's side of what a token is; the reference's is the same. -/
set_option maxRecDepth 100000
set_option linter.unusedVariables false
set_option linter.unusedSimpArgs false
namespace Go.Proofs.YtkcljempplchkaaDoor
open Go.Eng

theorem Contains_pure {O : Cfg} (s : List UInt8) (c : UInt8) : PureCall O f_sContains [.str s, .str [c]] (.bool (decide (0 ≤ Lib.indexByte s c))) := fun H => by
  refine lib_calls Tryd.func79 (by kernel_rfl) (by kernel_rfl) ?_
  intro base w0 G w vs hL hw hvs
  obtain ⟨u, v, rfl, hu, hv⟩ := reps_2 hvs
  rw [hu.str_inv, hv.str_inv]
  refine (Tryd.strings_Contains_one ⟨s.toArray⟩ c w).mono ?_
  rintro e w' ⟨rfl, rfl⟩
  exact ⟨_, H, G, .bool _, ⟨rfl, rfl⟩, hw, GExt.refl _ _, Fr.refl _ _ _⟩

abbrev signs8 : List UInt8 := [40, 41, 123, 125, 44, 59, 95, 39]
def isSign (s : List UInt8) : Bool := rruns.contains s || rbytes.contains s

theorem contains_signs8 (c : UInt8) : decide (0 ≤ Lib.indexByte signs8 c) = rbytes.contains [c] := by
  have key : ∀ n : Fin 256, decide (0 ≤ Lib.indexByte signs8 (UInt8.ofNat n.val)) = rbytes.contains [UInt8.ofNat n.val] := by decide +kernel
  have := key ⟨c.toNat, c.toNat_lt⟩
  simpa using this

theorem isSign_pure (s : List UInt8) : PureCall lexC f_isSign [.str s] (.bool (isSign s)) := fun H => by
  refine entry h_isSign rfl ?_; simp -implicitDefEqProofs only [go_sem, Nat.reduceAdd, Nat.reduceLeDiff, Nat.reduceEqDiff, Nat.reduceBEq, Nat.reduceLT, c_isSign]
  refine go ?_; simp -implicitDefEqProofs only [go_sem, Nat.reduceAdd, Nat.reduceLeDiff, Nat.reduceEqDiff, Nat.reduceBEq, Nat.reduceLT]
  refine PureCall.step (reserved_pure s) ?_
  rw [reserved_eq]
  cases h : rruns.contains s with
  | true =>
    simp -implicitDefEqProofs only [go_sem, Nat.reduceAdd, Nat.reduceLeDiff, Nat.reduceEqDiff, Nat.reduceBEq, Nat.reduceLT]
    repeat' (first | (refine wpC_split rfl rfl (fun h => ?_) (fun h => ?_) <;> (try simp -implicitDefEqProofs only [go_sem, Nat.reduceAdd, Nat.reduceLeDiff, Nat.reduceEqDiff, Nat.reduceBEq, Nat.reduceLT, h])) | (refine plan_split rfl rfl (fun h => ?_) (fun h => ?_) <;> simp -implicitDefEqProofs only [go_sem, Nat.reduceAdd, Nat.reduceLeDiff, Nat.reduceEqDiff, Nat.reduceBEq, Nat.reduceLT, h]) | (refine planD_split rfl rfl (fun h => ?_) (fun h => ?_) <;> simp -implicitDefEqProofs only [go_sem, Nat.reduceAdd, Nat.reduceLeDiff, Nat.reduceEqDiff, Nat.reduceBEq, Nat.reduceLT, h]) | (refine go ?_; try simp -implicitDefEqProofs only [go_sem, Nat.reduceAdd, Nat.reduceLeDiff, Nat.reduceEqDiff, Nat.reduceBEq, Nat.reduceLT]) | ((with_reducible refine wpC_id ?_); simp -implicitDefEqProofs only [go_sem, Nat.reduceAdd, Nat.reduceLeDiff, Nat.reduceEqDiff, Nat.reduceBEq, Nat.reduceLT]) | ((with_reducible first | refine quiet_id ?_ | refine wrote_id ?_ | refine resQ_id ?_); simp -implicitDefEqProofs only [go_sem, Nat.reduceAdd, Nat.reduceLeDiff, Nat.reduceEqDiff, Nat.reduceBEq, Nat.reduceLT]) | fail)
    have e : isSign s = true := by rw [isSign, h]; rfl
    rw [e]
  | false =>
    by_cases hl : s.length = 1
    · obtain ⟨c, rfl⟩ := List.length_eq_one_iff.1 hl
      have e1 : iEq (sLen [c]) 1 = true := by rw [sLen_eq, iEq_true]; rfl
      simp -implicitDefEqProofs only [go_sem, Nat.reduceAdd, Nat.reduceLeDiff, Nat.reduceEqDiff, Nat.reduceBEq, Nat.reduceLT, e1]
      repeat' (first | ((with_reducible refine PureCall.step (Contains_pure signs8 c) ?_); simp -implicitDefEqProofs only [go_sem, Nat.reduceAdd, Nat.reduceLeDiff, Nat.reduceEqDiff, Nat.reduceBEq, Nat.reduceLT, e1]) | (refine wpC_split rfl rfl (fun h => ?_) (fun h => ?_) <;> (try simp -implicitDefEqProofs only [go_sem, Nat.reduceAdd, Nat.reduceLeDiff, Nat.reduceEqDiff, Nat.reduceBEq, Nat.reduceLT, h, e1])) | (refine plan_split rfl rfl (fun h => ?_) (fun h => ?_) <;> simp -implicitDefEqProofs only [go_sem, Nat.reduceAdd, Nat.reduceLeDiff, Nat.reduceEqDiff, Nat.reduceBEq, Nat.reduceLT, h, e1]) | (refine planD_split rfl rfl (fun h => ?_) (fun h => ?_) <;> simp -implicitDefEqProofs only [go_sem, Nat.reduceAdd, Nat.reduceLeDiff, Nat.reduceEqDiff, Nat.reduceBEq, Nat.reduceLT, h, e1]) | (refine go ?_; try simp -implicitDefEqProofs only [go_sem, Nat.reduceAdd, Nat.reduceLeDiff, Nat.reduceEqDiff, Nat.reduceBEq, Nat.reduceLT, e1]) | ((with_reducible refine wpC_id ?_); simp -implicitDefEqProofs only [go_sem, Nat.reduceAdd, Nat.reduceLeDiff, Nat.reduceEqDiff, Nat.reduceBEq, Nat.reduceLT, e1]) | ((with_reducible first | refine quiet_id ?_ | refine wrote_id ?_ | refine resQ_id ?_); simp -implicitDefEqProofs only [go_sem, Nat.reduceAdd, Nat.reduceLeDiff, Nat.reduceEqDiff, Nat.reduceBEq, Nat.reduceLT, e1]) | fail)
      have e : isSign [c] = rbytes.contains [c] := by rw [isSign, h]; rfl
      rw [e, contains_signs8]
    · have e1 : iEq (sLen s) 1 = false := by rw [sLen_eq, iEq_false]; omega
      have e2 : rbytes.contains s = false := by
        rw [← Bool.not_eq_true]
        intro hh
        have : s ∈ rbytes := by simpa using hh
        simp [rbytes] at this
        rcases this with rfl | rfl | rfl | rfl | rfl | rfl | rfl | rfl <;> exact hl rfl
      simp -implicitDefEqProofs only [go_sem, Nat.reduceAdd, Nat.reduceLeDiff, Nat.reduceEqDiff, Nat.reduceBEq, Nat.reduceLT, e1]
      repeat' (first | (refine wpC_split rfl rfl (fun h => ?_) (fun h => ?_) <;> (try simp -implicitDefEqProofs only [go_sem, Nat.reduceAdd, Nat.reduceLeDiff, Nat.reduceEqDiff, Nat.reduceBEq, Nat.reduceLT, h, e1])) | (refine plan_split rfl rfl (fun h => ?_) (fun h => ?_) <;> simp -implicitDefEqProofs only [go_sem, Nat.reduceAdd, Nat.reduceLeDiff, Nat.reduceEqDiff, Nat.reduceBEq, Nat.reduceLT, h, e1]) | (refine planD_split rfl rfl (fun h => ?_) (fun h => ?_) <;> simp -implicitDefEqProofs only [go_sem, Nat.reduceAdd, Nat.reduceLeDiff, Nat.reduceEqDiff, Nat.reduceBEq, Nat.reduceLT, h, e1]) | (refine go ?_; try simp -implicitDefEqProofs only [go_sem, Nat.reduceAdd, Nat.reduceLeDiff, Nat.reduceEqDiff, Nat.reduceBEq, Nat.reduceLT, e1]) | ((with_reducible refine wpC_id ?_); simp -implicitDefEqProofs only [go_sem, Nat.reduceAdd, Nat.reduceLeDiff, Nat.reduceEqDiff, Nat.reduceBEq, Nat.reduceLT, e1]) | ((with_reducible first | refine quiet_id ?_ | refine wrote_id ?_ | refine resQ_id ?_); simp -implicitDefEqProofs only [go_sem, Nat.reduceAdd, Nat.reduceLeDiff, Nat.reduceEqDiff, Nat.reduceBEq, Nat.reduceLT, e1]) | fail)
      have e : isSign s = false := by rw [isSign, h, e2]; rfl
      rw [e]

theorem isToken_pure (t : Token) (hl : t.text.length ≤ 281474976710656) : PureCall lexC f_isToken [tokA t] (.bool (isKind t.kind t.text)) := by
  refine entryF h_isToken rfl fun H => ?_; simp -implicitDefEqProofs only [go_sem, Nat.reduceAdd, Nat.reduceLeDiff, Nat.reduceEqDiff, Nat.reduceBEq, Nat.reduceLT, c_isToken]
  refine ⟨rfl, fun id hid => ?_⟩
  simp -implicitDefEqProofs only [go_sem, Nat.reduceAdd, Nat.reduceLeDiff, Nat.reduceEqDiff, Nat.reduceBEq, Nat.reduceLT, tokA, tokRow]
  refine go ?_; simp -implicitDefEqProofs only [go_sem, Nat.reduceAdd, Nat.reduceLeDiff, Nat.reduceEqDiff, Nat.reduceBEq, Nat.reduceLT]
  refine go ?_; simp -implicitDefEqProofs only [go_sem, Nat.reduceAdd, Nat.reduceLeDiff, Nat.reduceEqDiff, Nat.reduceBEq, Nat.reduceLT]
  repeat' (first
    | (refine PureCall.step (IsSmall_pure _) ?_; simp -implicitDefEqProofs only [go_sem, Nat.reduceAdd, Nat.reduceLeDiff, Nat.reduceEqDiff, Nat.reduceBEq, Nat.reduceLT])
    | (refine PureCall.step (IsCapital_pure _) ?_; simp -implicitDefEqProofs only [go_sem, Nat.reduceAdd, Nat.reduceLeDiff, Nat.reduceEqDiff, Nat.reduceBEq, Nat.reduceLT])
    | (refine PureCall.step (IsOp_pure _) ?_; simp -implicitDefEqProofs only [go_sem, Nat.reduceAdd, Nat.reduceLeDiff, Nat.reduceEqDiff, Nat.reduceBEq, Nat.reduceLT])
    | (refine PureCall.step (number_pure _ hl) ?_; simp -implicitDefEqProofs only [go_sem, Nat.reduceAdd, Nat.reduceLeDiff, Nat.reduceEqDiff, Nat.reduceBEq, Nat.reduceLT])
    | (refine PureCall.step (isSign_pure _) ?_; simp -implicitDefEqProofs only [go_sem, Nat.reduceAdd, Nat.reduceLeDiff, Nat.reduceEqDiff, Nat.reduceBEq, Nat.reduceLT])
    | (refine PureCall.step (isWord_pure _) ?_; simp -implicitDefEqProofs only [go_sem, Nat.reduceAdd, Nat.reduceLeDiff, Nat.reduceEqDiff, Nat.reduceBEq, Nat.reduceLT])
    | (refine wpC_split rfl rfl (fun h => ?_) (fun h => ?_) <;> simp -implicitDefEqProofs only [go_sem, Nat.reduceAdd, Nat.reduceLeDiff, Nat.reduceEqDiff, Nat.reduceBEq, Nat.reduceLT])
    | (refine plan_split rfl rfl (fun h => ?_) (fun h => ?_) <;> simp -implicitDefEqProofs only [go_sem, Nat.reduceAdd, Nat.reduceLeDiff, Nat.reduceEqDiff, Nat.reduceBEq, Nat.reduceLT, h])
    | (refine planD_split rfl rfl (fun h => ?_) (fun h => ?_) <;> simp -implicitDefEqProofs only [go_sem, Nat.reduceAdd, Nat.reduceLeDiff, Nat.reduceEqDiff, Nat.reduceBEq, Nat.reduceLT, h])
    | (refine go ?_; try simp -implicitDefEqProofs only [go_sem, Nat.reduceAdd, Nat.reduceLeDiff, Nat.reduceEqDiff, Nat.reduceBEq, Nat.reduceLT]) | fail)
  all_goals
    refine ⟨_, rfl, ?_, le_upd hid⟩
    refine wk_of_eq (congrArg AVal.bool ?_)
    simp_all [isKind, IsSmall_eq, IsCapital_eq, IsOp_eq, number_eq, isSign, isWord]

end Go.Proofs.YtkcljempplchkaaDoor

/- Join of the reference: its plain function. -/
set_option maxRecDepth 100000
set_option linter.unusedVariables false
set_option linter.unusedSimpArgs false
namespace Go.Proofs.YtkcljempplchkaaDoor
open Go.Eng

/-- The texts, with blanks between them; none: a token is none. -/
def joinF (acc : List UInt8) (blank : Bool) : List Token → Option (List UInt8)
  | [] => some acc
  | t :: r => if isKind t.kind t.text = true then (if iEq t.kind 7 = true then joinF acc blank r else joinF ((if blank = true then acc ++ [32] else acc) ++ t.text) (bNot (sEq t.text [39])) r) else none

theorem isKind_len {k : Int} {s : List UInt8} (h : isKind k s = true) : s.length ≤ 19 := by
  unfold isKind at h
  have mem : ∀ {l : List (List UInt8)}, l.contains s = true → (∀ x ∈ l, x.length ≤ 19) → s.length ≤ 19 := fun hc hl => hl s (by simpa using hc)
  have l16 : iLe (sLen s) 16 = true → s.length ≤ 19 := fun h => by rw [iLe_true, sLen_eq] at h; omega
  split at h
  · simp only [rIsSmall, Bool.and_eq_true] at h; exact l16 h.1.1.1.2
  · split at h
    · simp only [rIsCapital, Bool.and_eq_true] at h; exact l16 h.1.1.2
    · split at h
      · simp only [rIsOp, Bool.and_eq_true] at h; exact l16 h.1.1.1.2
      · split at h
        · simp only [isNum, Bool.and_eq_true, numHead, Bool.not_eq_true', Bool.or_eq_false_iff] at h
          have := h.1.1.1.2
          rw [iLt_false, sLen_eq] at this
          omega
        · split at h
          · simp only [Bool.or_eq_true] at h
            rcases h with h | h
            · exact mem h (by decide)
            · exact mem h (by decide)
          · split at h
            · exact mem h (by decide)
            · simp only [Bool.and_eq_true] at h
              have := sEq_true.1 h.2
              subst this
              simp

theorem joinF_len : ∀ (l : List Token) (acc : List UInt8) (b : Bool) (s : List UInt8), joinF acc b l = some s → s.length ≤ acc.length + 20 * l.length
  | [], acc, b, s, h => by simp only [joinF, Option.some.injEq] at h; subst h; simp
  | t :: r, acc, b, s, h => by
    unfold joinF at h
    split at h
    · rename_i hk
      have := isKind_len hk
      split at h
      · have := joinF_len r _ _ _ h
        simp only [List.length_cons]; omega
      · have := joinF_len r _ _ _ h
        cases b <;> simp only [if_true, Bool.false_eq_true, if_false, List.length_append, List.length_cons, List.length_nil] at this ⊢ <;> omega
    · cases h

def joinR (o : Option (List UInt8)) : AVal := match o with
  | some s => .tup [.str s, .bool true]
  | none => .tup [.str [], .bool false]

theorem drop_tok {l : List Token} {i : Nat} {d : Token} (h : l[i]? = some d) : l.drop i = d :: l.drop (i + 1) := by
  obtain ⟨h1, h2⟩ := List.getElem?_eq_some_iff.1 h
  rw [List.drop_eq_getElem_cons h1, h2]

theorem rJoin_pure {O : Cfg} (l : List Token) (t : Tok) (hn : l.length * 32 ≤ 140737488355328) : PureCall O f_rJoin [.sl (tokRows l) t] (joinR (joinF [] false l)) := by
  refine entryF h_rJoin rfl fun H => ?_; simp -implicitDefEqProofs only [go_sem, Nat.reduceAdd, Nat.reduceLeDiff, Nat.reduceEqDiff, Nat.reduceBEq, Nat.reduceLT, c_rJoin]
  (refine go ?_; simp -implicitDefEqProofs only [go_sem, Nat.reduceAdd, Nat.reduceLeDiff, Nat.reduceEqDiff, Nat.reduceBEq, Nat.reduceLT]); (refine go ?_; simp -implicitDefEqProofs only [go_sem, Nat.reduceAdd, Nat.reduceLeDiff, Nat.reduceEqDiff, Nat.reduceBEq, Nat.reduceLT])
  refine AC.cut (fun st => ∃ acc b H', H.le H' ∧ joinF [] false l = some acc ∧ st = ⟨mk 32 [(4, .str acc), (5, .bool b), (8, .sl (tokRows l) t), (9, .int .i64 (rLen (tokRows l))), (10, .int .i64 (l.length : Int))], H', []⟩) ?_ ?_
  · refine go ?_; simp -implicitDefEqProofs only [go_sem, Nat.reduceAdd, Nat.reduceLeDiff, Nat.reduceEqDiff, Nat.reduceBEq, Nat.reduceLT]
    refine go ?_; simp -implicitDefEqProofs only [go_sem, Nat.reduceAdd, Nat.reduceLeDiff, Nat.reduceEqDiff, Nat.reduceBEq, Nat.reduceLT]
    rw [wpC_loop]
    refine AC.loop (fun n st => ∃ (j : Nat) (acc : List UInt8) (b : Bool) (H' : Hp), j + n = l.length ∧ H.le H' ∧ acc.length ≤ 20 * j ∧ joinF [] false l = joinF acc b (l.drop j) ∧
      st = ⟨mk 32 [(4, .str acc), (5, .bool b), (8, .sl (tokRows l) t), (9, .int .i64 (rLen (tokRows l))), (10, .int .i64 (j : Int))], H', []⟩) l.length ⟨0, [], false, H, by omega, fun _ _ h => h, by simp, rfl, rfl⟩ ?_
    rintro n _ ⟨j, acc, b, H', hj, hH, hacc, hJ, rfl⟩
    simp -implicitDefEqProofs only [go_sem, Nat.reduceAdd, Nat.reduceLeDiff, Nat.reduceEqDiff, Nat.reduceBEq, Nat.reduceLT, l_rJoin_0]
    refine go ?_; simp -implicitDefEqProofs only [go_sem, Nat.reduceAdd, Nat.reduceLeDiff, Nat.reduceEqDiff, Nat.reduceBEq, Nat.reduceLT]
    refine go ?_
    refine wpC_split rfl rfl (fun h => ?_) (fun h => ?_) <;> simp -implicitDefEqProofs only [go_sem, Nat.reduceAdd, Nat.reduceLeDiff, Nat.reduceEqDiff, Nat.reduceBEq, Nat.reduceLT]
    · have hlt := iLt_true.1 h
      rw [rLen_tok] at hlt
      obtain ⟨d, hd⟩ : ∃ d, l[j]? = some d := ⟨_, List.getElem?_eq_getElem (by omega)⟩
      have e : wAdd .i64 (j : Int) 1 = ((j + 1 : Nat) : Int) := by rw [wAdd_i64] <;> omega
      rw [drop_tok hd] at hJ
      refine go ?_; simp -implicitDefEqProofs only [go_sem, Nat.reduceAdd, Nat.reduceLeDiff, Nat.reduceEqDiff, Nat.reduceBEq, Nat.reduceLT, iaddrA_tok hd]
      intro id hid
      simp -implicitDefEqProofs only [go_sem, Nat.reduceAdd, Nat.reduceLeDiff, Nat.reduceEqDiff, Nat.reduceBEq, Nat.reduceLT]
      refine go ?_; simp -implicitDefEqProofs only [go_sem, Nat.reduceAdd, Nat.reduceLeDiff, Nat.reduceEqDiff, Nat.reduceBEq, Nat.reduceLT]
      refine PureCall.step (rIs_pure' _ _ _) ?_
      simp -implicitDefEqProofs only [go_sem, Nat.reduceAdd, Nat.reduceLeDiff, Nat.reduceEqDiff, Nat.reduceBEq, Nat.reduceLT]
      have hle : H.le (H'.upd id (.cells [.int .i64 d.kind, .str d.text, .int .i64 d.pos])) := fun i o hi => le_upd hid i o (hH i o hi)
      cases hk : isKind d.kind d.text with
      | false =>
        have eJ : joinF [] false l = none := by rw [hJ, joinF, hk]; rfl
        repeat' (first | (refine wpC_split rfl rfl (fun h => ?_) (fun h => ?_) <;> (try simp -implicitDefEqProofs only [go_sem, Nat.reduceAdd, Nat.reduceLeDiff, Nat.reduceEqDiff, Nat.reduceBEq, Nat.reduceLT, h])) | (refine plan_split rfl rfl (fun h => ?_) (fun h => ?_) <;> simp -implicitDefEqProofs only [go_sem, Nat.reduceAdd, Nat.reduceLeDiff, Nat.reduceEqDiff, Nat.reduceBEq, Nat.reduceLT, h]) | (refine planD_split rfl rfl (fun h => ?_) (fun h => ?_) <;> simp -implicitDefEqProofs only [go_sem, Nat.reduceAdd, Nat.reduceLeDiff, Nat.reduceEqDiff, Nat.reduceBEq, Nat.reduceLT, h]) | (refine go ?_; try simp -implicitDefEqProofs only [go_sem, Nat.reduceAdd, Nat.reduceLeDiff, Nat.reduceEqDiff, Nat.reduceBEq, Nat.reduceLT]) | ((with_reducible refine wpC_id ?_); simp -implicitDefEqProofs only [go_sem, Nat.reduceAdd, Nat.reduceLeDiff, Nat.reduceEqDiff, Nat.reduceBEq, Nat.reduceLT]) | ((with_reducible first | refine quiet_id ?_ | refine wrote_id ?_ | refine resQ_id ?_); simp -implicitDefEqProofs only [go_sem, Nat.reduceAdd, Nat.reduceLeDiff, Nat.reduceEqDiff, Nat.reduceBEq, Nat.reduceLT]) | fail)
        rw [eJ]
        exact ⟨_, rfl, .refl _, hle⟩
      | true =>
        have hdl := isKind_len hk
        by_cases h7 : iEq d.kind 7 = true
        · repeat' (first | (refine wpC_split rfl rfl (fun h => ?_) (fun h => ?_) <;> (try simp -implicitDefEqProofs only [go_sem, Nat.reduceAdd, Nat.reduceLeDiff, Nat.reduceEqDiff, Nat.reduceBEq, Nat.reduceLT, h, h7, e])) | (refine plan_split rfl rfl (fun h => ?_) (fun h => ?_) <;> simp -implicitDefEqProofs only [go_sem, Nat.reduceAdd, Nat.reduceLeDiff, Nat.reduceEqDiff, Nat.reduceBEq, Nat.reduceLT, h, h7, e]) | (refine planD_split rfl rfl (fun h => ?_) (fun h => ?_) <;> simp -implicitDefEqProofs only [go_sem, Nat.reduceAdd, Nat.reduceLeDiff, Nat.reduceEqDiff, Nat.reduceBEq, Nat.reduceLT, h, h7, e]) | (refine go ?_; try simp -implicitDefEqProofs only [go_sem, Nat.reduceAdd, Nat.reduceLeDiff, Nat.reduceEqDiff, Nat.reduceBEq, Nat.reduceLT, h7, e]) | ((with_reducible refine wpC_id ?_); simp -implicitDefEqProofs only [go_sem, Nat.reduceAdd, Nat.reduceLeDiff, Nat.reduceEqDiff, Nat.reduceBEq, Nat.reduceLT, h7, e]) | ((with_reducible first | refine quiet_id ?_ | refine wrote_id ?_ | refine resQ_id ?_); simp -implicitDefEqProofs only [go_sem, Nat.reduceAdd, Nat.reduceLeDiff, Nat.reduceEqDiff, Nat.reduceBEq, Nat.reduceLT, h7, e]) | fail)
          exact ⟨n - 1, by omega, j + 1, acc, b, _, by omega, hle, by omega, by rw [hJ, joinF, if_pos hk, if_pos h7], rfl⟩
        · rw [Bool.not_eq_true] at h7
          have c1 : catK acc [32] = some (.str (acc ++ [32])) := catK_ok (by simp; omega)
          have c2 : catK (acc ++ [32]) d.text = some (.str (acc ++ ([32] ++ d.text))) := by rw [catK_ok (by simp; omega), List.append_assoc]
          have c3 : catK acc d.text = some (.str (acc ++ d.text)) := catK_ok (by omega)
          cases b with
          | true =>
            repeat' (first | (refine wpC_split rfl rfl (fun h => ?_) (fun h => ?_) <;> (try simp -implicitDefEqProofs only [go_sem, Nat.reduceAdd, Nat.reduceLeDiff, Nat.reduceEqDiff, Nat.reduceBEq, Nat.reduceLT, h, h7, e, c1, c2])) | (refine plan_split rfl rfl (fun h => ?_) (fun h => ?_) <;> simp -implicitDefEqProofs only [go_sem, Nat.reduceAdd, Nat.reduceLeDiff, Nat.reduceEqDiff, Nat.reduceBEq, Nat.reduceLT, h, h7, e, c1, c2]) | (refine planD_split rfl rfl (fun h => ?_) (fun h => ?_) <;> simp -implicitDefEqProofs only [go_sem, Nat.reduceAdd, Nat.reduceLeDiff, Nat.reduceEqDiff, Nat.reduceBEq, Nat.reduceLT, h, h7, e, c1, c2]) | (refine go ?_; try simp -implicitDefEqProofs only [go_sem, Nat.reduceAdd, Nat.reduceLeDiff, Nat.reduceEqDiff, Nat.reduceBEq, Nat.reduceLT, h7, e, c1, c2]) | ((with_reducible refine wpC_id ?_); simp -implicitDefEqProofs only [go_sem, Nat.reduceAdd, Nat.reduceLeDiff, Nat.reduceEqDiff, Nat.reduceBEq, Nat.reduceLT, h7, e, c1, c2]) | ((with_reducible first | refine quiet_id ?_ | refine wrote_id ?_ | refine resQ_id ?_); simp -implicitDefEqProofs only [go_sem, Nat.reduceAdd, Nat.reduceLeDiff, Nat.reduceEqDiff, Nat.reduceBEq, Nat.reduceLT, h7, e, c1, c2]) | fail)
            exact ⟨n - 1, by omega, j + 1, acc ++ ([32] ++ d.text), _, _, by omega, hle, by simp; omega, by rw [hJ, joinF, if_pos hk, if_neg (by simp [h7]), if_pos rfl, List.append_assoc], rfl⟩
          | false =>
            repeat' (first | (refine wpC_split rfl rfl (fun h => ?_) (fun h => ?_) <;> (try simp -implicitDefEqProofs only [go_sem, Nat.reduceAdd, Nat.reduceLeDiff, Nat.reduceEqDiff, Nat.reduceBEq, Nat.reduceLT, h, h7, e, c3])) | (refine plan_split rfl rfl (fun h => ?_) (fun h => ?_) <;> simp -implicitDefEqProofs only [go_sem, Nat.reduceAdd, Nat.reduceLeDiff, Nat.reduceEqDiff, Nat.reduceBEq, Nat.reduceLT, h, h7, e, c3]) | (refine planD_split rfl rfl (fun h => ?_) (fun h => ?_) <;> simp -implicitDefEqProofs only [go_sem, Nat.reduceAdd, Nat.reduceLeDiff, Nat.reduceEqDiff, Nat.reduceBEq, Nat.reduceLT, h, h7, e, c3]) | (refine go ?_; try simp -implicitDefEqProofs only [go_sem, Nat.reduceAdd, Nat.reduceLeDiff, Nat.reduceEqDiff, Nat.reduceBEq, Nat.reduceLT, h7, e, c3]) | ((with_reducible refine wpC_id ?_); simp -implicitDefEqProofs only [go_sem, Nat.reduceAdd, Nat.reduceLeDiff, Nat.reduceEqDiff, Nat.reduceBEq, Nat.reduceLT, h7, e, c3]) | ((with_reducible first | refine quiet_id ?_ | refine wrote_id ?_ | refine resQ_id ?_); simp -implicitDefEqProofs only [go_sem, Nat.reduceAdd, Nat.reduceLeDiff, Nat.reduceEqDiff, Nat.reduceBEq, Nat.reduceLT, h7, e, c3]) | fail)
            exact ⟨n - 1, by omega, j + 1, acc ++ d.text, _, _, by omega, hle, by simp; omega, by rw [hJ, joinF, if_pos hk, if_neg (by simp [h7]), if_neg (by simp)], rfl⟩
    · have hge := iLt_false.1 h
      rw [rLen_tok] at hge
      have : j = l.length := by omega
      subst this
      rw [List.drop_length] at hJ
      repeat' (first | (refine wpC_split rfl rfl (fun h => ?_) (fun h => ?_) <;> (try simp -implicitDefEqProofs only [go_sem, Nat.reduceAdd, Nat.reduceLeDiff, Nat.reduceEqDiff, Nat.reduceBEq, Nat.reduceLT, h])) | (refine plan_split rfl rfl (fun h => ?_) (fun h => ?_) <;> simp -implicitDefEqProofs only [go_sem, Nat.reduceAdd, Nat.reduceLeDiff, Nat.reduceEqDiff, Nat.reduceBEq, Nat.reduceLT, h]) | (refine planD_split rfl rfl (fun h => ?_) (fun h => ?_) <;> simp -implicitDefEqProofs only [go_sem, Nat.reduceAdd, Nat.reduceLeDiff, Nat.reduceEqDiff, Nat.reduceBEq, Nat.reduceLT, h]) | (refine go ?_; try simp -implicitDefEqProofs only [go_sem, Nat.reduceAdd, Nat.reduceLeDiff, Nat.reduceEqDiff, Nat.reduceBEq, Nat.reduceLT]) | ((with_reducible refine wpC_id ?_); simp -implicitDefEqProofs only [go_sem, Nat.reduceAdd, Nat.reduceLeDiff, Nat.reduceEqDiff, Nat.reduceBEq, Nat.reduceLT]) | ((with_reducible first | refine quiet_id ?_ | refine wrote_id ?_ | refine resQ_id ?_); simp -implicitDefEqProofs only [go_sem, Nat.reduceAdd, Nat.reduceLeDiff, Nat.reduceEqDiff, Nat.reduceBEq, Nat.reduceLT]) | fail)
      exact ⟨acc, b, H', hH, hJ, rfl⟩
  · rintro _ ⟨acc, b, H', hH, hJ, rfl⟩
    rw [hJ]
    repeat' (first | (refine wpC_split rfl rfl (fun h => ?_) (fun h => ?_) <;> (try simp -implicitDefEqProofs only [go_sem, Nat.reduceAdd, Nat.reduceLeDiff, Nat.reduceEqDiff, Nat.reduceBEq, Nat.reduceLT, h])) | (refine plan_split rfl rfl (fun h => ?_) (fun h => ?_) <;> simp -implicitDefEqProofs only [go_sem, Nat.reduceAdd, Nat.reduceLeDiff, Nat.reduceEqDiff, Nat.reduceBEq, Nat.reduceLT, h]) | (refine planD_split rfl rfl (fun h => ?_) (fun h => ?_) <;> simp -implicitDefEqProofs only [go_sem, Nat.reduceAdd, Nat.reduceLeDiff, Nat.reduceEqDiff, Nat.reduceBEq, Nat.reduceLT, h]) | (refine go ?_; try simp -implicitDefEqProofs only [go_sem, Nat.reduceAdd, Nat.reduceLeDiff, Nat.reduceEqDiff, Nat.reduceBEq, Nat.reduceLT]) | ((with_reducible refine wpC_id ?_); simp -implicitDefEqProofs only [go_sem, Nat.reduceAdd, Nat.reduceLeDiff, Nat.reduceEqDiff, Nat.reduceBEq, Nat.reduceLT]) | ((with_reducible first | refine quiet_id ?_ | refine wrote_id ?_ | refine resQ_id ?_); simp -implicitDefEqProofs only [go_sem, Nat.reduceAdd, Nat.reduceLeDiff, Nat.reduceEqDiff, Nat.reduceBEq, Nat.reduceLT]) | fail)
    exact ⟨_, rfl, .refl _, hH⟩

end Go.Proofs.YtkcljempplchkaaDoor

/- The strings.Builder's WriteByte and WriteString. -/
set_option maxRecDepth 100000
set_option linter.unusedVariables false
set_option linter.unusedSimpArgs false
namespace Go.Proofs.YtkcljempplchkaaDoor
open Go.Eng

/-- The object i is a builder that holds these bytes; H0: the store when the call that made it began. -/
structure BInv (H0 H : Hp) (i : Nat) (l : List UInt8) (p : AVal) (t : Tok) : Prop where
  ob : H i = some (.cells [p, .sl (byteRows l) t] (some 65))
  ptr : p = .nilptr ∨ p = .ref i 0
  tok : (l = [] ∧ t = .nil) ∨ (l ≠ [] ∧ ∃ id, t = .own id 1 ∧ H id = some (.tok l.length 1 (some 5)) ∧ H0 id = none)
  le : H0.le H
  new : H0 i = none

def Bld (H0 H : Hp) (i : Nat) (l : List UInt8) : Prop := ∃ p t, BInv H0 H i l p t

/-- Other objects are kept. -/
def Keeps (H H' : Hp) : Prop := ∀ j cs, H j = some (.cells cs none) → H' j = some (.cells cs none)

theorem Keeps.trans {H H' H'' : Hp} (h : Keeps H H') (k : Keeps H' H'') : Keeps H H'' := fun j cs hj => k j cs (h j cs hj)

theorem BInv.check {H0 H : Hp} {i : Nat} {l : List UInt8} {p : AVal} {t : Tok} (h : BInv H0 H i l p t) : BInv H0 (H.upd i (.cells [.ref i 0, .sl (byteRows l) t] (some 65))) i l (.ref i 0) t ∧ Keeps H (H.upd i (.cells [.ref i 0, .sl (byteRows l) t] (some 65))) := by
  refine ⟨⟨Hp.upd_same _ _ _, .inr rfl, ?_, fun j o hj => ?_, h.new⟩, fun j cs hj => ?_⟩
  · rcases h.tok with h1 | ⟨h1, id, h2, h3, h4⟩
    · exact .inl h1
    · refine .inr ⟨h1, id, h2, ?_, h4⟩
      rw [Hp.upd_ne]; exact h3
      intro e; subst e; rw [h.ob] at h3; cases h3
  · rw [Hp.upd_ne]; exact h.le j o hj
    intro e; subst e; rw [h.new] at hj; cases hj
  · rw [Hp.upd_ne]; exact hj
    intro e; subst e; rw [h.ob] at hj; cases hj

theorem byteRows_app (l m : List UInt8) : byteRows (l ++ m) = byteRows l ++ byteRows m := by simp [byteRows]

theorem BInv.app {H0 H : Hp} {i : Nat} {l m : List UInt8} {p : AVal} {t u : Tok} {ds : List ADef} {R : Res} (h : BInv H0 H i l p t) (hm : m ≠ []) (hb : l.length + m.length ≤ 140737488355328)
    (k : ∀ t' H', BInv H0 (H'.upd i (.cells [p, .sl (byteRows (l ++ m)) t'] (some 65))) i (l ++ m) p t' → Keeps H (H'.upd i (.cells [p, .sl (byteRows (l ++ m)) t'] (some 65))) → H' i = some (.cells [p, .sl (byteRows l) t] (some 65)) → R (.sl (byteRows l ++ byteRows m) t') H' ds) :
    appP 1 1 5 (.sl (byteRows l) t) (.sl (byteRows m) u) H ds R := by
  have hne : (byteRows m).isEmpty = false := by cases m with | nil => exact absurd rfl hm | cons x m => rfl
  have one : ∀ l : List UInt8, ∀ r ∈ byteRows l, r.length = 1 := fun l r hr => by
    obtain ⟨c, _, rfl⟩ := List.mem_map.1 hr; rfl
  have hall : (byteRows m).flatten.all AVal.one = true := by
    rw [byteRows_flatten, List.all_eq_true]
    intro x hx
    obtain ⟨c, _, rfl⟩ := List.mem_map.1 hx
    rfl
  have hlm : l ++ m ≠ [] := by simp [hm]
  have hlen : (byteRows l).length + (byteRows m).length = (l ++ m).length := by rw [byteRows_len, byteRows_len, List.length_append]
  have fin : ∀ id, (H id = none ∨ ∃ n s o, H id = some (.tok n s o)) → H0 id = none → R (.sl (byteRows l ++ byteRows m) (.own id 1)) (H.upd id (.tok (l ++ m).length 1 (some 5))) ds := by
    intro id hid h0
    have hni : i ≠ id := fun e => by
      subst e
      rw [h.ob] at hid
      rcases hid with hid | ⟨n, s, o, hid⟩ <;> cases hid
    refine k (.own id 1) _ ⟨Hp.upd_same _ _ _, h.ptr, .inr ⟨hlm, id, rfl, ?_, h0⟩, fun j o hj => ?_, h.new⟩ (fun j cs hj => ?_) ?_
    · rw [Hp.upd_ne _ _ (Ne.symm hni), Hp.upd_same]
    · rw [Hp.upd_ne, Hp.upd_ne]
      · exact h.le j o hj
      · intro e; subst e; rw [h0] at hj; cases hj
      · intro e; subst e; rw [h.new] at hj; cases hj
    · rw [Hp.upd_ne, Hp.upd_ne]
      · exact hj
      · intro e; subst e; rw [hj] at hid; rcases hid with hid | ⟨n, s, o, hid⟩ <;> cases hid
      · intro e; subst e; rw [h.ob] at hj; cases hj
    · rw [Hp.upd_ne _ _ hni]; exact h.ob
  unfold appP
  simp only [hne, Bool.false_eq_true, if_false]
  refine ⟨one l, one m, by rw [hlen, List.length_append]; omega, ?_⟩
  rcases h.tok with ⟨_, rfl⟩ | ⟨h1, id, rfl, h3, h4⟩
  · intro id hid
    rw [hlen]
    exact fin id (.inl hid) (none_of_le h.le hid)
  · refine ⟨rfl, hall, some 5, by rw [byteRows_len]; exact h3, ?_⟩
    rw [hlen, tkO_same]
    exact fin id (.inr ⟨_, _, _, h3⟩) h4

theorem WriteByte_calls {H0 H : Hp} {i : Nat} {l : List UInt8} {c : UInt8} (h : Bld H0 H i l) (hb : l.length + 1 ≤ 140737488355328) {Q : ARet → Hp → Prop}
    (hQ : ∀ H', Bld H0 H' i (l ++ [c]) → Keeps H H' → Q (.ret .nilif) H') : ACalls lexC Tryd.prog f_bWriteByte [.ref i 0, .int .u8 (uC c)] H Q := by
  obtain ⟨p, t, h⟩ := h
  refine entry h_bWriteByte rfl ?_; simp -implicitDefEqProofs only [go_sem, Nat.reduceAdd, Nat.reduceLeDiff, Nat.reduceEqDiff, Nat.reduceBEq, Nat.reduceLT, c_bWriteByte]
  refine go ?_; simp -implicitDefEqProofs only [go_sem, Nat.reduceAdd, Nat.reduceLeDiff, Nat.reduceEqDiff, Nat.reduceBEq, Nat.reduceLT]
  refine copyCheck_calls h.ob h.ptr ?_
  obtain ⟨h1, k1⟩ := h.check
  generalize H.upd i (.cells [.ref i 0, .sl (byteRows l) t] (some 65)) = H1 at h1 k1
  simp -implicitDefEqProofs only [go_sem, Nat.reduceAdd, Nat.reduceLeDiff, Nat.reduceEqDiff, Nat.reduceBEq, Nat.reduceLT]
  refine go ?_; simp -implicitDefEqProofs only [go_sem, Nat.reduceAdd, Nat.reduceLeDiff, Nat.reduceEqDiff, Nat.reduceBEq, Nat.reduceLT, h1.ob]
  refine h1.app (m := [c]) (by simp) (by simpa using hb) fun t' H2 h2 k2 h3 => ?_
  simp -implicitDefEqProofs only [go_sem, Nat.reduceAdd, Nat.reduceLeDiff, Nat.reduceEqDiff, Nat.reduceBEq, Nat.reduceLT, h3]
  refine go ?_; simp -implicitDefEqProofs only [go_sem, Nat.reduceAdd, Nat.reduceLeDiff, Nat.reduceEqDiff, Nat.reduceBEq, Nat.reduceLT]
  refine go ?_; simp -implicitDefEqProofs only [go_sem, Nat.reduceAdd, Nat.reduceLeDiff, Nat.reduceEqDiff, Nat.reduceBEq, Nat.reduceLT]
  rw [← byteRows_app]
  exact hQ _ ⟨_, _, h2⟩ (k1.trans k2)

theorem WriteString_calls {H0 H : Hp} {i : Nat} {l s : List UInt8} (h : Bld H0 H i l) (hs : s ≠ []) (hb : l.length + s.length ≤ 140737488355328) {Q : ARet → Hp → Prop}
    (hQ : ∀ H', Bld H0 H' i (l ++ s) → Keeps H H' → Q (.ret (.tup [.int .i64 (sLen s), .nilif])) H') : ACalls lexC Tryd.prog f_bWriteString [.ref i 0, .str s] H Q := by
  obtain ⟨p, t, h⟩ := h
  refine entry h_bWriteString rfl ?_; simp -implicitDefEqProofs only [go_sem, Nat.reduceAdd, Nat.reduceLeDiff, Nat.reduceEqDiff, Nat.reduceBEq, Nat.reduceLT, c_bWriteString]
  refine go ?_; simp -implicitDefEqProofs only [go_sem, Nat.reduceAdd, Nat.reduceLeDiff, Nat.reduceEqDiff, Nat.reduceBEq, Nat.reduceLT]
  refine copyCheck_calls h.ob h.ptr ?_
  obtain ⟨h1, k1⟩ := h.check
  generalize H.upd i (.cells [.ref i 0, .sl (byteRows l) t] (some 65)) = H1 at h1 k1
  simp -implicitDefEqProofs only [go_sem, Nat.reduceAdd, Nat.reduceLeDiff, Nat.reduceEqDiff, Nat.reduceBEq, Nat.reduceLT]
  refine go ?_; simp -implicitDefEqProofs only [go_sem, Nat.reduceAdd, Nat.reduceLeDiff, Nat.reduceEqDiff, Nat.reduceBEq, Nat.reduceLT, h1.ob]
  refine h1.app (m := s) (u := .no) hs hb fun t' H2 h2 k2 h3 => ?_
  simp -implicitDefEqProofs only [go_sem, Nat.reduceAdd, Nat.reduceLeDiff, Nat.reduceEqDiff, Nat.reduceBEq, Nat.reduceLT, h3]
  refine go ?_; simp -implicitDefEqProofs only [go_sem, Nat.reduceAdd, Nat.reduceLeDiff, Nat.reduceEqDiff, Nat.reduceBEq, Nat.reduceLT]
  refine go ?_; simp -implicitDefEqProofs only [go_sem, Nat.reduceAdd, Nat.reduceLeDiff, Nat.reduceEqDiff, Nat.reduceBEq, Nat.reduceLT]
  rw [← byteRows_app]
  exact hQ _ ⟨_, _, h2⟩ (k1.trans k2)

end Go.Proofs.YtkcljempplchkaaDoor

/- Join. -/
set_option maxRecDepth 100000
set_option linter.unusedVariables false
set_option linter.unusedSimpArgs false
namespace Go.Proofs.YtkcljempplchkaaDoor
open Go.Eng

theorem Bld.new {H0 H : Hp} {i : Nat} {l : List UInt8} (h : Bld H0 H i l) {j : Nat} (hj : H j = none) (o : Ob) : Bld H0 (H.upd j o) i l := by
  obtain ⟨p, t, h⟩ := h
  refine ⟨p, t, upd_old h.ob hj, h.ptr, ?_, fun k ob hk => le_upd hj k ob (h.le k ob hk), h.new⟩
  rcases h.tok with h1 | ⟨h1, id, h2, h3, h4⟩
  · exact .inl h1
  · exact .inr ⟨h1, id, h2, upd_old h3 hj, h4⟩

theorem Bld.start {H : Hp} {i : Nat} (hi : H i = none) : Bld H (H.upd i (.cells [.nilptr, .sl [] .nil] (some 65))) i [] :=
  ⟨_, _, Hp.upd_same _ _ _, .inl rfl, .inl ⟨rfl, rfl⟩, le_upd hi, hi⟩

theorem Bld.le {H0 H : Hp} {i : Nat} {l : List UInt8} (h : Bld H0 H i l) : H0.le H := by
  obtain ⟨p, t, h⟩ := h
  exact h.le

theorem String_calls {O : Cfg} {H0 H : Hp} {i : Nat} {l : List UInt8} (h : Bld H0 H i l) (hl : l.length ≤ 9223372036854775807) {Q : ARet → Hp → Prop} (hQ : ∀ H', H0.le H' → Q (.ret (.str l)) H') : ACalls O Tryd.prog 49 [.ref i 0] H Q := by
  obtain ⟨p, t, h⟩ := h
  refine bString_calls h.ob hl ?_ fun H' hk => hQ H' fun j o hj => hk j o (h.le j o hj) fun e => ?_
  · rcases h.tok with h1 | ⟨h1, id, h2, h3, h4⟩
    · exact .inl h1
    · exact .inr ⟨h1, id, h2, h3⟩
  · rcases h.tok with ⟨_, h1⟩ | ⟨h1, id, h2, h3, h4⟩
    · rw [h1] at e; cases e
    · rw [h2] at e; cases e
      rw [h4] at hj; cases hj

theorem isToken_pure' (k : Int) (text : List UInt8) (pos : Int) (hl : text.length ≤ 281474976710656) : PureCall lexC f_isToken [.agg [.int .i64 k, .str text, .int .i64 pos]] (.bool (isKind k text)) := isToken_pure ⟨k, text, pos⟩ hl

theorem isKind_tick {k : Int} {s : List UInt8} (h : isKind k s = true) (h7 : iEq k 7 = false) : (iEq k 5 && sEq s [39]) = sEq s [39] := by
  cases hs : sEq s [39] with
  | false => simp
  | true =>
    have := sEq_true.1 hs
    subst this
    rw [Bool.and_true]
    unfold isKind at h
    have a1 : rIsSmall [39] = false := by decide
    have a2 : rIsCapital [39] = false := by decide
    have a3 : rIsOp [39] = false := by decide
    have a4 : isNum [39] = false := by decide
    have a6 : words.contains [39] = false := by decide
    rw [a1, a2, a3, a4, a6, h7] at h
    split at h
    · cases h
    · split at h
      · cases h
      · split at h
        · cases h
        · split at h
          · cases h
          · split at h
            · assumption
            · split at h <;> cases h

def joinT (o : Option (List UInt8)) : AVal := match o with
  | some s => .tup [.str s, .int .i64 0]
  | none => .tup [.str [], .int .i64 2]

theorem text_ne {k : Int} {s : List UInt8} (h : isKind k s = true) (h7 : iEq k 7 = false) : s ≠ [] := by
  rintro rfl
  unfold isKind at h
  have a1 : rIsSmall [] = false := by decide
  have a2 : rIsCapital [] = false := by decide
  have a3 : rIsOp [] = false := by decide
  have a4 : isNum [] = false := by decide
  have a5 : (rruns.contains ([] : List UInt8) || rbytes.contains ([] : List UInt8)) = false := by decide
  have a6 : words.contains ([] : List UInt8) = false := by decide
  rw [a1, a2, a3, a4, a5, a6, h7] at h
  repeat' (first | split at h | cases h)

theorem bNot_bNot (b : Bool) : bNot (bNot b) = b := by cases b <;> rfl

theorem Join_pure (l : List Token) (t : Tok) (hn : l.length * 32 ≤ 140737488355328) (hl : ∀ d ∈ l, d.text.length ≤ 281474976710656) : PureCall lexC f_Join [.sl (tokRows l) t] (joinT (joinF [] false l)) := by
  refine entryF h_Join rfl fun H => ?_; simp -implicitDefEqProofs only [go_sem, Nat.reduceAdd, Nat.reduceLeDiff, Nat.reduceEqDiff, Nat.reduceBEq, Nat.reduceLT, c_Join]
  refine go ?_; simp -implicitDefEqProofs only [go_sem, Nat.reduceAdd, Nat.reduceLeDiff, Nat.reduceEqDiff, Nat.reduceBEq, Nat.reduceLT]
  intro bi hbi
  simp -implicitDefEqProofs only [go_sem, Nat.reduceAdd, Nat.reduceLeDiff, Nat.reduceEqDiff, Nat.reduceBEq, Nat.reduceLT]
  refine go ?_; simp -implicitDefEqProofs only [go_sem, Nat.reduceAdd, Nat.reduceLeDiff, Nat.reduceEqDiff, Nat.reduceBEq, Nat.reduceLT]
  refine AC.cut (fun st => ∃ acc b H', Bld H H' bi acc ∧ acc.length ≤ 20 * l.length ∧ joinF [] false l = some acc ∧ st = ⟨mk 36 [(4, .ref bi 0), (5, .bool b), (8, .sl (tokRows l) t), (9, .int .i64 (rLen (tokRows l))), (10, .int .i64 (l.length : Int))], H', []⟩) ?_ ?_
  · refine go ?_; simp -implicitDefEqProofs only [go_sem, Nat.reduceAdd, Nat.reduceLeDiff, Nat.reduceEqDiff, Nat.reduceBEq, Nat.reduceLT]
    refine go ?_; simp -implicitDefEqProofs only [go_sem, Nat.reduceAdd, Nat.reduceLeDiff, Nat.reduceEqDiff, Nat.reduceBEq, Nat.reduceLT]
    rw [wpC_loop]
    refine AC.loop (fun n st => ∃ (j : Nat) (acc : List UInt8) (b : Bool) (H' : Hp), j + n = l.length ∧ Bld H H' bi acc ∧ acc.length ≤ 20 * j ∧ joinF [] false l = joinF acc b (l.drop j) ∧
      st = ⟨mk 36 [(4, .ref bi 0), (5, .bool (bNot b)), (8, .sl (tokRows l) t), (9, .int .i64 (rLen (tokRows l))), (10, .int .i64 (j : Int))], H', []⟩) l.length ⟨0, [], false, _, by omega, Bld.start hbi, by simp, rfl, rfl⟩ ?_
    rintro n _ ⟨j, acc, b, H', hj, hH, hacc, hJ, rfl⟩
    simp -implicitDefEqProofs only [go_sem, Nat.reduceAdd, Nat.reduceLeDiff, Nat.reduceEqDiff, Nat.reduceBEq, Nat.reduceLT, l_Join_0]
    refine go ?_; simp -implicitDefEqProofs only [go_sem, Nat.reduceAdd, Nat.reduceLeDiff, Nat.reduceEqDiff, Nat.reduceBEq, Nat.reduceLT]
    refine go ?_
    refine wpC_split rfl rfl (fun h => ?_) (fun h => ?_) <;> simp -implicitDefEqProofs only [go_sem, Nat.reduceAdd, Nat.reduceLeDiff, Nat.reduceEqDiff, Nat.reduceBEq, Nat.reduceLT]
    · have hlt := iLt_true.1 h
      rw [rLen_tok] at hlt
      obtain ⟨d, hd⟩ : ∃ d, l[j]? = some d := ⟨_, List.getElem?_eq_getElem (by omega)⟩
      have e : wAdd .i64 (j : Int) 1 = ((j + 1 : Nat) : Int) := by rw [wAdd_i64] <;> omega
      rw [drop_tok hd] at hJ
      refine go ?_; simp -implicitDefEqProofs only [go_sem, Nat.reduceAdd, Nat.reduceLeDiff, Nat.reduceEqDiff, Nat.reduceBEq, Nat.reduceLT, iaddrA_tok hd]
      intro id hid
      simp -implicitDefEqProofs only [go_sem, Nat.reduceAdd, Nat.reduceLeDiff, Nat.reduceEqDiff, Nat.reduceBEq, Nat.reduceLT]
      have hB := hH.new hid (.cells [.int .i64 d.kind, .str d.text, .int .i64 d.pos])
      have hb := Hp.upd_same H' id (.cells [.int .i64 d.kind, .str d.text, .int .i64 d.pos])
      generalize H'.upd id (.cells [.int .i64 d.kind, .str d.text, .int .i64 d.pos]) = H2 at hB hb
      refine go ?_; simp -implicitDefEqProofs only [go_sem, Nat.reduceAdd, Nat.reduceLeDiff, Nat.reduceEqDiff, Nat.reduceBEq, Nat.reduceLT, hb]
      refine PureCall.step (isToken_pure' _ _ _ (hl d (List.mem_of_getElem? hd))) ?_
      simp -implicitDefEqProofs only [go_sem, Nat.reduceAdd, Nat.reduceLeDiff, Nat.reduceEqDiff, Nat.reduceBEq, Nat.reduceLT]
      cases hk : isKind d.kind d.text with
      | false =>
        have eJ : joinF [] false l = none := by rw [hJ, joinF, hk]; rfl
        repeat' (first | (refine wpC_split rfl rfl (fun h => ?_) (fun h => ?_) <;> (try simp -implicitDefEqProofs only [go_sem, Nat.reduceAdd, Nat.reduceLeDiff, Nat.reduceEqDiff, Nat.reduceBEq, Nat.reduceLT, h])) | (refine plan_split rfl rfl (fun h => ?_) (fun h => ?_) <;> simp -implicitDefEqProofs only [go_sem, Nat.reduceAdd, Nat.reduceLeDiff, Nat.reduceEqDiff, Nat.reduceBEq, Nat.reduceLT, h]) | (refine planD_split rfl rfl (fun h => ?_) (fun h => ?_) <;> simp -implicitDefEqProofs only [go_sem, Nat.reduceAdd, Nat.reduceLeDiff, Nat.reduceEqDiff, Nat.reduceBEq, Nat.reduceLT, h]) | (refine go ?_; try simp -implicitDefEqProofs only [go_sem, Nat.reduceAdd, Nat.reduceLeDiff, Nat.reduceEqDiff, Nat.reduceBEq, Nat.reduceLT]) | ((with_reducible refine wpC_id ?_); simp -implicitDefEqProofs only [go_sem, Nat.reduceAdd, Nat.reduceLeDiff, Nat.reduceEqDiff, Nat.reduceBEq, Nat.reduceLT]) | ((with_reducible first | refine quiet_id ?_ | refine wrote_id ?_ | refine resQ_id ?_); simp -implicitDefEqProofs only [go_sem, Nat.reduceAdd, Nat.reduceLeDiff, Nat.reduceEqDiff, Nat.reduceBEq, Nat.reduceLT]) | fail)
        rw [eJ]
        exact ⟨_, rfl, .refl _, hB.le⟩
      | true =>
        have hdl := isKind_len hk
        by_cases h7 : iEq d.kind 7 = true
        · repeat' (first | (refine wpC_split rfl rfl (fun h => ?_) (fun h => ?_) <;> (try simp -implicitDefEqProofs only [go_sem, Nat.reduceAdd, Nat.reduceLeDiff, Nat.reduceEqDiff, Nat.reduceBEq, Nat.reduceLT, h, hb, h7, e])) | (refine plan_split rfl rfl (fun h => ?_) (fun h => ?_) <;> simp -implicitDefEqProofs only [go_sem, Nat.reduceAdd, Nat.reduceLeDiff, Nat.reduceEqDiff, Nat.reduceBEq, Nat.reduceLT, h, hb, h7, e]) | (refine planD_split rfl rfl (fun h => ?_) (fun h => ?_) <;> simp -implicitDefEqProofs only [go_sem, Nat.reduceAdd, Nat.reduceLeDiff, Nat.reduceEqDiff, Nat.reduceBEq, Nat.reduceLT, h, hb, h7, e]) | (refine go ?_; try simp -implicitDefEqProofs only [go_sem, Nat.reduceAdd, Nat.reduceLeDiff, Nat.reduceEqDiff, Nat.reduceBEq, Nat.reduceLT, hb, h7, e]) | ((with_reducible refine wpC_id ?_); simp -implicitDefEqProofs only [go_sem, Nat.reduceAdd, Nat.reduceLeDiff, Nat.reduceEqDiff, Nat.reduceBEq, Nat.reduceLT, hb, h7, e]) | ((with_reducible first | refine quiet_id ?_ | refine wrote_id ?_ | refine resQ_id ?_); simp -implicitDefEqProofs only [go_sem, Nat.reduceAdd, Nat.reduceLeDiff, Nat.reduceEqDiff, Nat.reduceBEq, Nat.reduceLT, hb, h7, e]) | fail)
          exact ⟨n - 1, by omega, j + 1, acc, b, _, by omega, hB, by omega, by rw [hJ, joinF, if_pos hk, if_pos h7], rfl⟩
        · rw [Bool.not_eq_true] at h7
          have hne := text_ne hk h7
          have htk := isKind_tick hk h7
          cases b with
          | true =>
            repeat' (first | (refine wpC_split rfl rfl (fun h => ?_) (fun h => ?_) <;> (try simp -implicitDefEqProofs only [go_sem, Nat.reduceAdd, Nat.reduceLeDiff, Nat.reduceEqDiff, Nat.reduceBEq, Nat.reduceLT, h, hb, h7, e])) | (refine plan_split rfl rfl (fun h => ?_) (fun h => ?_) <;> simp -implicitDefEqProofs only [go_sem, Nat.reduceAdd, Nat.reduceLeDiff, Nat.reduceEqDiff, Nat.reduceBEq, Nat.reduceLT, h, hb, h7, e]) | (refine planD_split rfl rfl (fun h => ?_) (fun h => ?_) <;> simp -implicitDefEqProofs only [go_sem, Nat.reduceAdd, Nat.reduceLeDiff, Nat.reduceEqDiff, Nat.reduceBEq, Nat.reduceLT, h, hb, h7, e]) | (refine go ?_; try simp -implicitDefEqProofs only [go_sem, Nat.reduceAdd, Nat.reduceLeDiff, Nat.reduceEqDiff, Nat.reduceBEq, Nat.reduceLT, hb, h7, e]) | ((with_reducible refine wpC_id ?_); simp -implicitDefEqProofs only [go_sem, Nat.reduceAdd, Nat.reduceLeDiff, Nat.reduceEqDiff, Nat.reduceBEq, Nat.reduceLT, hb, h7, e]) | ((with_reducible first | refine quiet_id ?_ | refine wrote_id ?_ | refine resQ_id ?_); simp -implicitDefEqProofs only [go_sem, Nat.reduceAdd, Nat.reduceLeDiff, Nat.reduceEqDiff, Nat.reduceBEq, Nat.reduceLT, hb, h7, e]) | fail)
            refine WriteByte_calls (c := 32) hB (by omega) fun H3 hB3 k3 => ?_
            have hb3 := k3 id _ hb
            simp -implicitDefEqProofs only [go_sem, Nat.reduceAdd, Nat.reduceLeDiff, Nat.reduceEqDiff, Nat.reduceBEq, Nat.reduceLT]
            refine go ?_; simp -implicitDefEqProofs only [go_sem, Nat.reduceAdd, Nat.reduceLeDiff, Nat.reduceEqDiff, Nat.reduceBEq, Nat.reduceLT, hb3]
            refine WriteString_calls hB3 hne (by simp; omega) fun H4 hB4 k4 => ?_
            have hb4 := k4 id _ hb3
            simp -implicitDefEqProofs only [go_sem, Nat.reduceAdd, Nat.reduceLeDiff, Nat.reduceEqDiff, Nat.reduceBEq, Nat.reduceLT]
            cases h5 : iEq d.kind 5 with
            | true =>
              repeat' (first | (refine wpC_split rfl rfl (fun h => ?_) (fun h => ?_) <;> (try simp -implicitDefEqProofs only [go_sem, Nat.reduceAdd, Nat.reduceLeDiff, Nat.reduceEqDiff, Nat.reduceBEq, Nat.reduceLT, h, hb4, e, h5])) | (refine plan_split rfl rfl (fun h => ?_) (fun h => ?_) <;> simp -implicitDefEqProofs only [go_sem, Nat.reduceAdd, Nat.reduceLeDiff, Nat.reduceEqDiff, Nat.reduceBEq, Nat.reduceLT, h, hb4, e, h5]) | (refine planD_split rfl rfl (fun h => ?_) (fun h => ?_) <;> simp -implicitDefEqProofs only [go_sem, Nat.reduceAdd, Nat.reduceLeDiff, Nat.reduceEqDiff, Nat.reduceBEq, Nat.reduceLT, h, hb4, e, h5]) | (refine go ?_; try simp -implicitDefEqProofs only [go_sem, Nat.reduceAdd, Nat.reduceLeDiff, Nat.reduceEqDiff, Nat.reduceBEq, Nat.reduceLT, hb4, e, h5]) | ((with_reducible refine wpC_id ?_); simp -implicitDefEqProofs only [go_sem, Nat.reduceAdd, Nat.reduceLeDiff, Nat.reduceEqDiff, Nat.reduceBEq, Nat.reduceLT, hb4, e, h5]) | ((with_reducible first | refine quiet_id ?_ | refine wrote_id ?_ | refine resQ_id ?_); simp -implicitDefEqProofs only [go_sem, Nat.reduceAdd, Nat.reduceLeDiff, Nat.reduceEqDiff, Nat.reduceBEq, Nat.reduceLT, hb4, e, h5]) | fail)
              exact ⟨n - 1, by omega, j + 1, acc ++ [32] ++ d.text, bNot (sEq d.text [39]), H4, by omega, hB4, by simp; omega, by rw [hJ, joinF, if_pos hk, if_neg (by simp [h7]), if_pos rfl], by rw [bNot_bNot]⟩
            | false =>
              rw [h5, Bool.false_and] at htk
              repeat' (first | (refine wpC_split rfl rfl (fun h => ?_) (fun h => ?_) <;> (try simp -implicitDefEqProofs only [go_sem, Nat.reduceAdd, Nat.reduceLeDiff, Nat.reduceEqDiff, Nat.reduceBEq, Nat.reduceLT, h, hb4, e, h5])) | (refine plan_split rfl rfl (fun h => ?_) (fun h => ?_) <;> simp -implicitDefEqProofs only [go_sem, Nat.reduceAdd, Nat.reduceLeDiff, Nat.reduceEqDiff, Nat.reduceBEq, Nat.reduceLT, h, hb4, e, h5]) | (refine planD_split rfl rfl (fun h => ?_) (fun h => ?_) <;> simp -implicitDefEqProofs only [go_sem, Nat.reduceAdd, Nat.reduceLeDiff, Nat.reduceEqDiff, Nat.reduceBEq, Nat.reduceLT, h, hb4, e, h5]) | (refine go ?_; try simp -implicitDefEqProofs only [go_sem, Nat.reduceAdd, Nat.reduceLeDiff, Nat.reduceEqDiff, Nat.reduceBEq, Nat.reduceLT, hb4, e, h5]) | ((with_reducible refine wpC_id ?_); simp -implicitDefEqProofs only [go_sem, Nat.reduceAdd, Nat.reduceLeDiff, Nat.reduceEqDiff, Nat.reduceBEq, Nat.reduceLT, hb4, e, h5]) | ((with_reducible first | refine quiet_id ?_ | refine wrote_id ?_ | refine resQ_id ?_); simp -implicitDefEqProofs only [go_sem, Nat.reduceAdd, Nat.reduceLeDiff, Nat.reduceEqDiff, Nat.reduceBEq, Nat.reduceLT, hb4, e, h5]) | fail)
              exact ⟨n - 1, by omega, j + 1, acc ++ [32] ++ d.text, bNot (sEq d.text [39]), H4, by omega, hB4, by simp; omega, by rw [hJ, joinF, if_pos hk, if_neg (by simp [h7]), if_pos rfl], by rw [bNot_bNot, ← htk]⟩
          | false =>
            repeat' (first | (refine wpC_split rfl rfl (fun h => ?_) (fun h => ?_) <;> (try simp -implicitDefEqProofs only [go_sem, Nat.reduceAdd, Nat.reduceLeDiff, Nat.reduceEqDiff, Nat.reduceBEq, Nat.reduceLT, h, hb, h7, e])) | (refine plan_split rfl rfl (fun h => ?_) (fun h => ?_) <;> simp -implicitDefEqProofs only [go_sem, Nat.reduceAdd, Nat.reduceLeDiff, Nat.reduceEqDiff, Nat.reduceBEq, Nat.reduceLT, h, hb, h7, e]) | (refine planD_split rfl rfl (fun h => ?_) (fun h => ?_) <;> simp -implicitDefEqProofs only [go_sem, Nat.reduceAdd, Nat.reduceLeDiff, Nat.reduceEqDiff, Nat.reduceBEq, Nat.reduceLT, h, hb, h7, e]) | (refine go ?_; try simp -implicitDefEqProofs only [go_sem, Nat.reduceAdd, Nat.reduceLeDiff, Nat.reduceEqDiff, Nat.reduceBEq, Nat.reduceLT, hb, h7, e]) | ((with_reducible refine wpC_id ?_); simp -implicitDefEqProofs only [go_sem, Nat.reduceAdd, Nat.reduceLeDiff, Nat.reduceEqDiff, Nat.reduceBEq, Nat.reduceLT, hb, h7, e]) | ((with_reducible first | refine quiet_id ?_ | refine wrote_id ?_ | refine resQ_id ?_); simp -implicitDefEqProofs only [go_sem, Nat.reduceAdd, Nat.reduceLeDiff, Nat.reduceEqDiff, Nat.reduceBEq, Nat.reduceLT, hb, h7, e]) | fail)
            refine WriteString_calls hB hne (by omega) fun H4 hB4 k4 => ?_
            have hb4 := k4 id _ hb
            simp -implicitDefEqProofs only [go_sem, Nat.reduceAdd, Nat.reduceLeDiff, Nat.reduceEqDiff, Nat.reduceBEq, Nat.reduceLT]
            cases h5 : iEq d.kind 5 with
            | true =>
              repeat' (first | (refine wpC_split rfl rfl (fun h => ?_) (fun h => ?_) <;> (try simp -implicitDefEqProofs only [go_sem, Nat.reduceAdd, Nat.reduceLeDiff, Nat.reduceEqDiff, Nat.reduceBEq, Nat.reduceLT, h, hb4, e, h5])) | (refine plan_split rfl rfl (fun h => ?_) (fun h => ?_) <;> simp -implicitDefEqProofs only [go_sem, Nat.reduceAdd, Nat.reduceLeDiff, Nat.reduceEqDiff, Nat.reduceBEq, Nat.reduceLT, h, hb4, e, h5]) | (refine planD_split rfl rfl (fun h => ?_) (fun h => ?_) <;> simp -implicitDefEqProofs only [go_sem, Nat.reduceAdd, Nat.reduceLeDiff, Nat.reduceEqDiff, Nat.reduceBEq, Nat.reduceLT, h, hb4, e, h5]) | (refine go ?_; try simp -implicitDefEqProofs only [go_sem, Nat.reduceAdd, Nat.reduceLeDiff, Nat.reduceEqDiff, Nat.reduceBEq, Nat.reduceLT, hb4, e, h5]) | ((with_reducible refine wpC_id ?_); simp -implicitDefEqProofs only [go_sem, Nat.reduceAdd, Nat.reduceLeDiff, Nat.reduceEqDiff, Nat.reduceBEq, Nat.reduceLT, hb4, e, h5]) | ((with_reducible first | refine quiet_id ?_ | refine wrote_id ?_ | refine resQ_id ?_); simp -implicitDefEqProofs only [go_sem, Nat.reduceAdd, Nat.reduceLeDiff, Nat.reduceEqDiff, Nat.reduceBEq, Nat.reduceLT, hb4, e, h5]) | fail)
              exact ⟨n - 1, by omega, j + 1, acc ++ d.text, bNot (sEq d.text [39]), H4, by omega, hB4, by simp; omega, by rw [hJ, joinF, if_pos hk, if_neg (by simp [h7]), if_neg (by simp)], by rw [bNot_bNot]⟩
            | false =>
              rw [h5, Bool.false_and] at htk
              repeat' (first | (refine wpC_split rfl rfl (fun h => ?_) (fun h => ?_) <;> (try simp -implicitDefEqProofs only [go_sem, Nat.reduceAdd, Nat.reduceLeDiff, Nat.reduceEqDiff, Nat.reduceBEq, Nat.reduceLT, h, hb4, e, h5])) | (refine plan_split rfl rfl (fun h => ?_) (fun h => ?_) <;> simp -implicitDefEqProofs only [go_sem, Nat.reduceAdd, Nat.reduceLeDiff, Nat.reduceEqDiff, Nat.reduceBEq, Nat.reduceLT, h, hb4, e, h5]) | (refine planD_split rfl rfl (fun h => ?_) (fun h => ?_) <;> simp -implicitDefEqProofs only [go_sem, Nat.reduceAdd, Nat.reduceLeDiff, Nat.reduceEqDiff, Nat.reduceBEq, Nat.reduceLT, h, hb4, e, h5]) | (refine go ?_; try simp -implicitDefEqProofs only [go_sem, Nat.reduceAdd, Nat.reduceLeDiff, Nat.reduceEqDiff, Nat.reduceBEq, Nat.reduceLT, hb4, e, h5]) | ((with_reducible refine wpC_id ?_); simp -implicitDefEqProofs only [go_sem, Nat.reduceAdd, Nat.reduceLeDiff, Nat.reduceEqDiff, Nat.reduceBEq, Nat.reduceLT, hb4, e, h5]) | ((with_reducible first | refine quiet_id ?_ | refine wrote_id ?_ | refine resQ_id ?_); simp -implicitDefEqProofs only [go_sem, Nat.reduceAdd, Nat.reduceLeDiff, Nat.reduceEqDiff, Nat.reduceBEq, Nat.reduceLT, hb4, e, h5]) | fail)
              exact ⟨n - 1, by omega, j + 1, acc ++ d.text, bNot (sEq d.text [39]), H4, by omega, hB4, by simp; omega, by rw [hJ, joinF, if_pos hk, if_neg (by simp [h7]), if_neg (by simp)], by rw [bNot_bNot, ← htk]⟩
    · have hge := iLt_false.1 h
      rw [rLen_tok] at hge
      have : j = l.length := by omega
      subst this
      rw [List.drop_length] at hJ
      repeat' (first | (refine wpC_split rfl rfl (fun h => ?_) (fun h => ?_) <;> (try simp -implicitDefEqProofs only [go_sem, Nat.reduceAdd, Nat.reduceLeDiff, Nat.reduceEqDiff, Nat.reduceBEq, Nat.reduceLT, h])) | (refine plan_split rfl rfl (fun h => ?_) (fun h => ?_) <;> simp -implicitDefEqProofs only [go_sem, Nat.reduceAdd, Nat.reduceLeDiff, Nat.reduceEqDiff, Nat.reduceBEq, Nat.reduceLT, h]) | (refine planD_split rfl rfl (fun h => ?_) (fun h => ?_) <;> simp -implicitDefEqProofs only [go_sem, Nat.reduceAdd, Nat.reduceLeDiff, Nat.reduceEqDiff, Nat.reduceBEq, Nat.reduceLT, h]) | (refine go ?_; try simp -implicitDefEqProofs only [go_sem, Nat.reduceAdd, Nat.reduceLeDiff, Nat.reduceEqDiff, Nat.reduceBEq, Nat.reduceLT]) | ((with_reducible refine wpC_id ?_); simp -implicitDefEqProofs only [go_sem, Nat.reduceAdd, Nat.reduceLeDiff, Nat.reduceEqDiff, Nat.reduceBEq, Nat.reduceLT]) | ((with_reducible first | refine quiet_id ?_ | refine wrote_id ?_ | refine resQ_id ?_); simp -implicitDefEqProofs only [go_sem, Nat.reduceAdd, Nat.reduceLeDiff, Nat.reduceEqDiff, Nat.reduceBEq, Nat.reduceLT]) | fail)
      exact ⟨acc, _, H', hH, hacc, hJ, rfl⟩
  · rintro _ ⟨acc, b, H', hH, hacc, hJ, rfl⟩
    rw [hJ]
    repeat' (first | (refine wpC_split rfl rfl (fun h => ?_) (fun h => ?_) <;> (try simp -implicitDefEqProofs only [go_sem, Nat.reduceAdd, Nat.reduceLeDiff, Nat.reduceEqDiff, Nat.reduceBEq, Nat.reduceLT, h])) | (refine plan_split rfl rfl (fun h => ?_) (fun h => ?_) <;> simp -implicitDefEqProofs only [go_sem, Nat.reduceAdd, Nat.reduceLeDiff, Nat.reduceEqDiff, Nat.reduceBEq, Nat.reduceLT, h]) | (refine planD_split rfl rfl (fun h => ?_) (fun h => ?_) <;> simp -implicitDefEqProofs only [go_sem, Nat.reduceAdd, Nat.reduceLeDiff, Nat.reduceEqDiff, Nat.reduceBEq, Nat.reduceLT, h]) | (refine go ?_; try simp -implicitDefEqProofs only [go_sem, Nat.reduceAdd, Nat.reduceLeDiff, Nat.reduceEqDiff, Nat.reduceBEq, Nat.reduceLT]) | ((with_reducible refine wpC_id ?_); simp -implicitDefEqProofs only [go_sem, Nat.reduceAdd, Nat.reduceLeDiff, Nat.reduceEqDiff, Nat.reduceBEq, Nat.reduceLT]) | ((with_reducible first | refine quiet_id ?_ | refine wrote_id ?_ | refine resQ_id ?_); simp -implicitDefEqProofs only [go_sem, Nat.reduceAdd, Nat.reduceLeDiff, Nat.reduceEqDiff, Nat.reduceBEq, Nat.reduceLT]) | fail)
    refine String_calls hH (by omega) fun H2 hle => ?_
    simp -implicitDefEqProofs only [go_sem, Nat.reduceAdd, Nat.reduceLeDiff, Nat.reduceEqDiff, Nat.reduceBEq, Nat.reduceLT]
    repeat' (first | (refine wpC_split rfl rfl (fun h => ?_) (fun h => ?_) <;> (try simp -implicitDefEqProofs only [go_sem, Nat.reduceAdd, Nat.reduceLeDiff, Nat.reduceEqDiff, Nat.reduceBEq, Nat.reduceLT, h])) | (refine plan_split rfl rfl (fun h => ?_) (fun h => ?_) <;> simp -implicitDefEqProofs only [go_sem, Nat.reduceAdd, Nat.reduceLeDiff, Nat.reduceEqDiff, Nat.reduceBEq, Nat.reduceLT, h]) | (refine planD_split rfl rfl (fun h => ?_) (fun h => ?_) <;> simp -implicitDefEqProofs only [go_sem, Nat.reduceAdd, Nat.reduceLeDiff, Nat.reduceEqDiff, Nat.reduceBEq, Nat.reduceLT, h]) | (refine go ?_; try simp -implicitDefEqProofs only [go_sem, Nat.reduceAdd, Nat.reduceLeDiff, Nat.reduceEqDiff, Nat.reduceBEq, Nat.reduceLT]) | ((with_reducible refine wpC_id ?_); simp -implicitDefEqProofs only [go_sem, Nat.reduceAdd, Nat.reduceLeDiff, Nat.reduceEqDiff, Nat.reduceBEq, Nat.reduceLT]) | ((with_reducible first | refine quiet_id ?_ | refine wrote_id ?_ | refine resQ_id ?_); simp -implicitDefEqProofs only [go_sem, Nat.reduceAdd, Nat.reduceLeDiff, Nat.reduceEqDiff, Nat.reduceBEq, Nat.reduceLT]) | fail)
    exact ⟨_, rfl, .refl _, hle⟩

end Go.Proofs.YtkcljempplchkaaDoor

/- LexisJoins: the law answers true. -/
set_option maxRecDepth 100000
set_option linter.unusedVariables false
set_option linter.unusedSimpArgs false
namespace Go.Proofs.YtkcljempplchkaaDoor
open Go.Eng

theorem LawJoins_pure (l : List Token) (hn : l.length * 32 ≤ 140737488355328) (hl : ∀ d ∈ l, d.text.length ≤ 281474976710656) : PureCall lexC f_LawJoins [.sl (tokRows l) .no] (.bool true) := by
  have step : ∀ (t : Tok) {ds : List ADef} {R : Res} (H : Hp), (∀ t H', H.le H' → R (.sl (tokRows l) t) H' ds) → appP 3 32 33 (.sl [] .full) (.sl (tokRows l) .no) H ds R := by
    intro t ds R H h
    by_cases hne : l = []
    · subst hne
      unfold appP
      exact h .full H (fun _ _ h => h)
    · refine appP_full (by cases l with | nil => exact absurd rfl hne | cons x l => simp [tokRows]) (by simp) (tokRows_sz _) (by rw [tokRows_len]; simp; omega) fun id hid => ?_
      exact h _ _ (le_upd hid)
  have z1 : iEq 0 2 = false := by decide
  have z2 : iEq 2 0 = false := by decide
  have z3 : bEq true true = true := rfl
  have z4 : bEq false false = true := rfl
  have z5 : sEq [] [] = true := by decide
  have h2 := fun t => Join_pure l t hn hl
  have h3 := fun t => rJoin_pure (O := lexC) l t hn
  cases hJ : joinF [] false l with
  | some s =>
    rw [hJ] at h2 h3
    simp only [joinT, joinR] at h2 h3
    refine entryF h_LawJoins rfl fun H => ?_; simp -implicitDefEqProofs only [go_sem, Nat.reduceAdd, Nat.reduceLeDiff, Nat.reduceEqDiff, Nat.reduceBEq, Nat.reduceLT, c_LawJoins]
    refine go ?_; simp -implicitDefEqProofs only [go_sem, Nat.reduceAdd, Nat.reduceLeDiff, Nat.reduceEqDiff, Nat.reduceBEq, Nat.reduceLT]
    refine step .no H fun t H' hle => ?_
    simp -implicitDefEqProofs only [go_sem, Nat.reduceAdd, Nat.reduceLeDiff, Nat.reduceEqDiff, Nat.reduceBEq, Nat.reduceLT]
    refine PureCall.step (h2 t) ?_
    simp -implicitDefEqProofs only [go_sem, Nat.reduceAdd, Nat.reduceLeDiff, Nat.reduceEqDiff, Nat.reduceBEq, Nat.reduceLT]
    repeat' (first | ((with_reducible refine PureCall.step (h3 .no) ?_); simp -implicitDefEqProofs only [go_sem, Nat.reduceAdd, Nat.reduceLeDiff, Nat.reduceEqDiff, Nat.reduceBEq, Nat.reduceLT, z1, z2, z3, z4, sEq_self]) | ((with_reducible refine PureCall.step (awake_pure) ?_); simp -implicitDefEqProofs only [go_sem, Nat.reduceAdd, Nat.reduceLeDiff, Nat.reduceEqDiff, Nat.reduceBEq, Nat.reduceLT, z1, z2, z3, z4, sEq_self]) | (refine wpC_split rfl rfl (fun h => ?_) (fun h => ?_) <;> (try simp -implicitDefEqProofs only [go_sem, Nat.reduceAdd, Nat.reduceLeDiff, Nat.reduceEqDiff, Nat.reduceBEq, Nat.reduceLT, h, z1, z2, z3, z4, sEq_self])) | (refine plan_split rfl rfl (fun h => ?_) (fun h => ?_) <;> simp -implicitDefEqProofs only [go_sem, Nat.reduceAdd, Nat.reduceLeDiff, Nat.reduceEqDiff, Nat.reduceBEq, Nat.reduceLT, h, z1, z2, z3, z4, sEq_self]) | (refine planD_split rfl rfl (fun h => ?_) (fun h => ?_) <;> simp -implicitDefEqProofs only [go_sem, Nat.reduceAdd, Nat.reduceLeDiff, Nat.reduceEqDiff, Nat.reduceBEq, Nat.reduceLT, h, z1, z2, z3, z4, sEq_self]) | (refine go ?_; try simp -implicitDefEqProofs only [go_sem, Nat.reduceAdd, Nat.reduceLeDiff, Nat.reduceEqDiff, Nat.reduceBEq, Nat.reduceLT, z1, z2, z3, z4, sEq_self]) | ((with_reducible refine wpC_id ?_); simp -implicitDefEqProofs only [go_sem, Nat.reduceAdd, Nat.reduceLeDiff, Nat.reduceEqDiff, Nat.reduceBEq, Nat.reduceLT, z1, z2, z3, z4, sEq_self]) | ((with_reducible first | refine quiet_id ?_ | refine wrote_id ?_ | refine resQ_id ?_); simp -implicitDefEqProofs only [go_sem, Nat.reduceAdd, Nat.reduceLeDiff, Nat.reduceEqDiff, Nat.reduceBEq, Nat.reduceLT, z1, z2, z3, z4, sEq_self]) | fail)
    exact ⟨_, rfl, .refl _, hle⟩
  | none =>
    rw [hJ] at h2 h3
    simp only [joinT, joinR] at h2 h3
    refine entryF h_LawJoins rfl fun H => ?_; simp -implicitDefEqProofs only [go_sem, Nat.reduceAdd, Nat.reduceLeDiff, Nat.reduceEqDiff, Nat.reduceBEq, Nat.reduceLT, c_LawJoins]
    refine go ?_; simp -implicitDefEqProofs only [go_sem, Nat.reduceAdd, Nat.reduceLeDiff, Nat.reduceEqDiff, Nat.reduceBEq, Nat.reduceLT]
    refine step .no H fun t H' hle => ?_
    simp -implicitDefEqProofs only [go_sem, Nat.reduceAdd, Nat.reduceLeDiff, Nat.reduceEqDiff, Nat.reduceBEq, Nat.reduceLT]
    refine PureCall.step (h2 t) ?_
    simp -implicitDefEqProofs only [go_sem, Nat.reduceAdd, Nat.reduceLeDiff, Nat.reduceEqDiff, Nat.reduceBEq, Nat.reduceLT]
    repeat' (first | ((with_reducible refine PureCall.step (h3 .no) ?_); simp -implicitDefEqProofs only [go_sem, Nat.reduceAdd, Nat.reduceLeDiff, Nat.reduceEqDiff, Nat.reduceBEq, Nat.reduceLT, z1, z2, z3, z4, z5]) | ((with_reducible refine PureCall.step (awake_pure) ?_); simp -implicitDefEqProofs only [go_sem, Nat.reduceAdd, Nat.reduceLeDiff, Nat.reduceEqDiff, Nat.reduceBEq, Nat.reduceLT, z1, z2, z3, z4, z5]) | (refine wpC_split rfl rfl (fun h => ?_) (fun h => ?_) <;> (try simp -implicitDefEqProofs only [go_sem, Nat.reduceAdd, Nat.reduceLeDiff, Nat.reduceEqDiff, Nat.reduceBEq, Nat.reduceLT, h, z1, z2, z3, z4, z5])) | (refine plan_split rfl rfl (fun h => ?_) (fun h => ?_) <;> simp -implicitDefEqProofs only [go_sem, Nat.reduceAdd, Nat.reduceLeDiff, Nat.reduceEqDiff, Nat.reduceBEq, Nat.reduceLT, h, z1, z2, z3, z4, z5]) | (refine planD_split rfl rfl (fun h => ?_) (fun h => ?_) <;> simp -implicitDefEqProofs only [go_sem, Nat.reduceAdd, Nat.reduceLeDiff, Nat.reduceEqDiff, Nat.reduceBEq, Nat.reduceLT, h, z1, z2, z3, z4, z5]) | (refine go ?_; try simp -implicitDefEqProofs only [go_sem, Nat.reduceAdd, Nat.reduceLeDiff, Nat.reduceEqDiff, Nat.reduceBEq, Nat.reduceLT, z1, z2, z3, z4, z5]) | ((with_reducible refine wpC_id ?_); simp -implicitDefEqProofs only [go_sem, Nat.reduceAdd, Nat.reduceLeDiff, Nat.reduceEqDiff, Nat.reduceBEq, Nat.reduceLT, z1, z2, z3, z4, z5]) | ((with_reducible first | refine quiet_id ?_ | refine wrote_id ?_ | refine resQ_id ?_); simp -implicitDefEqProofs only [go_sem, Nat.reduceAdd, Nat.reduceLeDiff, Nat.reduceEqDiff, Nat.reduceBEq, Nat.reduceLT, z1, z2, z3, z4, z5]) | fail)
    exact ⟨_, rfl, .refl _, hle⟩

end Go.Proofs.YtkcljempplchkaaDoor

