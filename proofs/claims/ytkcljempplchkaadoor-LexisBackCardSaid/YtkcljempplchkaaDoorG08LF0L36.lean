/- The door's own heap meets the rows' condition. -/
import Derived.Test.YtkcljempplchkaaDoorG05L2L23
import Derived.Test.YtkcljempplchkaaDoorRows
import Derived.ProofKit
import Derived.LaidMore
import Derived.LaidHandle
import Derived.Stop.Joined
import Derived.Test.YtkcljempplchkaaDoorG06L24L25
import Derived.Test.YtkcljempplchkaaDoorG07E22E22
import Derived.Test.YtkcljempplchkaaDoorG04E20E21
import Derived.Shelf.Strings.Search3
set_option maxRecDepth 100000
set_option linter.unusedVariables false
set_option linter.unusedSimpArgs false
namespace Go.Proofs.YtkcljempplchkaaDoor
open Go.RowKit Go.ChangeShapes Go.WideShapes

theorem own : ownKnob Tryd.prog.godebug = none := by kernel_rfl
theorem laidOut : laidOutB Tryd.prog = true := by kernel_rfl
abbrev laidL : List (String × DataW Unit) := Rows.lexisTokensRow.laid

theorem door_met (os : Os) (args : Array Value) : laidMetH Tryd.prog laidL ((World.doorLaid Tryd.prog 4000 os).forCall (fun _ _ => 0) ⟨#[], args, []⟩).memory :=
  laidMetH_of_parts3 (fuel := 8) (laidMet_of_run' 8 (by kernel_rfl) (by kernel_rfl)) (by kernel_rfl) (by kernel_rfl)


end Go.Proofs.YtkcljempplchkaaDoor

/- The frame of the laws' rows. -/
set_option maxRecDepth 100000
set_option linter.unusedVariables false
set_option linter.unusedSimpArgs false
namespace Go.Proofs.YtkcljempplchkaaDoor
open Go.Eng Go.RowKit Go.ChangeShapes Go.WideShapes

theorem laid_var {P : Program} {W : World} {name : String} {d : DataW Unit} {rest : List (String × DataW Unit)} {q : List MemPlace} (h : DataW.LaidVars P W ((name, d) :: rest) q) :
    (∃ g t cs fuel p, P.globalNamed name = some g ∧ (P.globals[g]?).map (·.type) = some t ∧ W.var? P name = some cs ∧ DataW.trod (fun _ => ()) P W 0 (fun _ => true) false fuel t cs.toList = some (d, p)) ∧ ∃ q', DataW.LaidVars P W rest q' := by
  obtain ⟨g, t, cs, fuel, p, q', h1, h2, h3, h4, h5, _⟩ := h
  exact ⟨⟨g, t, cs, fuel, p, h1, h2, h3, h4⟩, q', h5⟩

theorem laid_iface {P : Program} {W : World} {name : String} {n : String} {d : DataW Unit} {ms : _} {g : Nat} {t : TypeId} (hg : P.globalNamed name = some g) (hty : (P.globals[g]?).map (·.type) = some t) (ht : P.underlying t = some (.interface ms))
    (h : ∃ g t cs fuel p, P.globalNamed name = some g ∧ (P.globals[g]?).map (·.type) = some t ∧ W.var? P name = some cs ∧ DataW.trod (fun _ => ()) P W 0 (fun _ => true) false fuel t cs.toList = some (.iface n d, p)) : ∃ tp p, W.var? P name = some #[.iface tp p] := by
  obtain ⟨g', t', cs, fuel, p, h1, h2, h3, h4⟩ := h
  obtain rfl := Option.some.inj (hg.symm.trans h1)
  obtain rfl := Option.some.inj (hty.symm.trans h2)
  obtain ⟨l⟩ := cs
  cases fuel with
  | zero => simp [DataW.trod] at h4
  | succ fuel =>
    unfold DataW.trod at h4
    rw [ht] at h4
    split at h4 <;> first | (cases h4; done) | skip
    all_goals first
      | (rename_i u v e1 e2; cases e1; simp only at e2; subst e2; exact ⟨u, v, h3⟩)
      | (simp_all; done)

theorem laid_tab {P : Program} {W : World} {name : String} {k : IntKind} {zs : List Int} {g : Nat} {t e : TypeId} {n : Nat}
    (hg : P.globalNamed name = some g) (hty : (P.globals[g]?).map (·.type) = some t) (ht : P.underlying t = some (.array n e)) (he : P.underlying e = some (.int k)) (hce : P.cellsOf e = 1) (hct : P.cellsOf t = n)
    (h : ∃ g t cs fuel p, P.globalNamed name = some g ∧ (P.globals[g]?).map (·.type) = some t ∧ W.var? P name = some cs ∧ DataW.trod (fun _ => ()) P W 0 (fun _ => true) false fuel t cs.toList = some (Lib.tabData k zs, p)) : Lib.TabIs P W name k zs := by
  obtain ⟨g', t', cs, fuel, p, hg', ht', hvar, hd⟩ := h
  obtain rfl := Option.some.inj (hg.symm.trans hg')
  obtain rfl := Option.some.inj (hty.symm.trans ht')
  unfold Lib.TabIs
  rw [hvar, ← Lib.cells_of_tab ht he hce hct hd]

theorem of_laid {W : World} (h : laidMetH Tryd.prog laidL W) : lexL W.heap.size W := by
  rw [MakeChecks.laidMetH_plain _ _ _ (by kernel_rfl)] at h
  obtain ⟨ps, h, _, _⟩ := h
  obtain ⟨_, _, h⟩ := laid_var h
  obtain ⟨_, _, h⟩ := laid_var h
  obtain ⟨t1, _, h⟩ := laid_var h
  obtain ⟨t2, _, h⟩ := laid_var h
  obtain ⟨t3, _, h⟩ := laid_var h
  obtain ⟨_, _, h⟩ := laid_var h
  obtain ⟨t4, _, h⟩ := laid_var h
  have k1 : Lib.TabIs Tryd.prog W "internal/strconv.uint64pow10" .u64 Lib.pow10Tab := laid_tab (g := 5) (t := 134) (e := 115) (n := 20) (by kernel_rfl) (by kernel_rfl) (by kernel_rfl) (by kernel_rfl) (by kernel_rfl) (by kernel_rfl) t1
  refine ⟨?_, laid_tab (g := 0) (t := 81) (e := 5) (n := 256) (by kernel_rfl) (by kernel_rfl) (by kernel_rfl) (by kernel_rfl) (by kernel_rfl) (by kernel_rfl) t4, k1,
    laid_iface (g := 3) (t := 68) (by kernel_rfl) (by kernel_rfl) Tryd.underlying68 t3, laid_iface (g := 4) (t := 68) (by kernel_rfl) (by kernel_rfl) Tryd.underlying68 t2⟩
  have := World.var?_cell (by kernel_rfl : Tryd.prog.globalNamed "internal/strconv.uint64pow10" = some 5) k1 0
  have hc : W.cell? ⟨5, 0, none⟩ = some (.int .u64 1) := by rw [this]; rfl
  exact World.cell?_lt hc

/-- A call that answers 'true', and leaves what lay. -/
theorem law_calls {f : FuncId} {fn : Func} {args : Array Value} {avs : List AVal} {W : World} (hp : PureCall lexC f avs (.bool true)) (hf : Tryd.prog.funcs[f]? = some fn) (hn : (fn.name == "runtime.NumGoroutine") = false) (hb : fn.body.isNone = false)
    (hL : lexL W.heap.size W) (hr : Reps G0 W avs args.toList) : Calls Tryd.prog f args W fun e W' => e = .returned (.bool true) ∧ Below W.heap.size W W' := by
  have h := hp Hp.none W.heap.size W G0 W args.toList hL (wr_start W) hr
  have hrun : (callFunc f args).run Tryd.prog W = .ok (.enter f args) W := by
    simp only [callFunc, Sem.run_bind, run_program, Result.andThen_ok, hf, hn, hb]
    rfl
  rcases h with ⟨_, h⟩ | ⟨u, w', h1, _⟩
  · refine h.mono fun e w' hm => ?_
    cases e with
    | outgrown => exact hm.elim
    | panicked c => obtain ⟨v, u, H', G', _, _, ⟨hq, _⟩, _⟩ := hm; cases hq
    | returned u =>
      obtain ⟨v, H', G', hv, ⟨hq, _⟩, hw, _⟩ := hm
      cases hq
      rw [hv.bool_inv]
      exact ⟨rfl, hw.below⟩
  · rw [hrun] at h1; cases h1

theorem trodAll_stays {T : Type} {enc : TypeId × Value → T} {W W' : World} {sp' : Nat → Bool} : ∀ {ts : List TypeId} {vs : List Value} {ds : List (DataW T)} {ps : List MemPlace}, (∀ t ∈ ts, Tryd.prog.readableRec t = true ∧ t < Tryd.prog.types.size) →
    DataW.TrodAll enc Tryd.prog W 0 (fun _ => true) true ts vs ds ps → (∀ p ∈ ps, W.sameAt W' p) → (∀ p ∈ ps, sp' p.block = true) → DataW.TrodAll enc Tryd.prog W' 0 sp' true ts vs ds ps
  | [], _, _, _, _, h, _, _ => by
    obtain ⟨rfl, rfl, rfl⟩ := trodAll_nil h
    rfl
  | t :: ts, _, _, _, ht, h, hs, hp => by
    obtain ⟨v, vs1, d, ds1, a, b, rfl, rfl, rfl, h1, h2⟩ := trodAll_cons h
    refine ⟨a, b, WideElems.Trod_stays laidOut (ht t (by simp)).1 (ht t (by simp)).2 h1 (fun p hp => hs p (by simp [hp])) (fun x hx => hp x (by simp [hx])), trodAll_stays (fun t h => ht t (by simp [h])) h2 (fun p hp => hs p (by simp [hp])) (fun x hx => hp x (by simp [hx])), rfl⟩

theorem law_lifted {f : FuncId} {fn : Func} {s : ChangeSpec} (hf : Tryd.prog.funcs[f]? = some fn) (hni : Tryd.prog.inits.idxOf? f = none) (hn : (fn.name == "runtime.NumGoroutine") = false) (hb : fn.body.isNone = false)
    (hres : fn.resultTypes = #[4]) (hvars : s.vars = []) (hspec : ∀ (T : Type) (ds : List (DataW T)), ds.length = fn.params.size → s.fn T ds = { results := [.lit (.bool true)], args := ds })
    (hpt : ∀ t ∈ fn.params.toList, Tryd.prog.readableRec t = true ∧ t < Tryd.prog.types.size) (os : Os) (started : os.Started) (T : Type) (enc : TypeId × Value → T)
    (witness : ∃ (w : World) (tape : Tape) (i : Input), w.os = os ∧ (w.forCall tape i).Shaped Tryd.checked.prog ∧ i.vars = [] ∧ Input.okWide Tryd.checked.prog (w.forCall tape i) .any w.heap.size f i ∧
      ((s.pre enc Tryd.checked.prog fn [] false (w.forCall tape i).memory i.args ∧ laidMetH Tryd.prog laidL (w.forCall tape i).memory) ∧ sizedMet enc Tryd.checked.prog fn (OpenSpec.ofChange s) false (w.forCall tape i).memory i.args) ∧ ({} : Assume).holds Tryd.checked.prog (lone (Frame.enter Tryd.checked.prog f i.args .normal) [] (w.forCall tape i)))
    (hwalk : ∀ (W : World) (base : Nat) (args : Array Value) (ds : List (DataW T)) (ps : List MemPlace), (∀ (j : Nat) t v, fn.params[j]? = some t → args[j]? = some v → Value.okWide Tryd.prog W .any base t v) →
      DataW.TrodAll enc Tryd.prog W 0 (fun _ => true) true fn.params.toList args.toList ds ps → (DataW.weightsEach Tryd.prog fn.params.toList ds).all (· ≤ reachBytes) = true → ∃ avs, PureCall lexC f avs (.bool true) ∧ Reps G0 W avs args.toList) :
    ReturnsInHanded {} Tryd.checked os f .any (fun w args => (s.pre enc Tryd.prog fn [] false w args ∧ laidMetH Tryd.prog laidL w) ∧ sizedMet enc Tryd.prog fn (OpenSpec.ofChange s) false w args)
      (s.post enc Tryd.prog fn false true false false) := by
  refine returnsInHanded_of_change_and (C := Tryd.checked) (X := fun w _ => laidMetH Tryd.prog laidL w) (fun _ _ _ hh h => h.of_heap hh) own started hni hf witness ?_
  intro W base args ds gs before hval hW _ hweight hL _
  have hW' := hW
  obtain ⟨p, q, hA, hV, rfl, hfz, hnd⟩ := hW
  rw [hvars] at hV
  obtain ⟨rfl, rfl⟩ := trodVars_none hV
  have hvt : s.plain.varTypes Tryd.checked.prog = [] := by unfold DataSpec.varTypes; rw [show s.plain.vars = [] from hvars]; rfl
  rw [hvt, List.append_nil, List.append_nil] at hweight
  obtain ⟨avs, hp, hr⟩ := hwalk W base args ds p hval hA hweight
  have hlen : ds.length = fn.params.size := by
    have : ∀ {ts : List TypeId} {vs : List Value} {ds : List (DataW T)} {ps : List MemPlace}, DataW.TrodAll enc Tryd.prog W 0 (fun _ => true) true ts vs ds ps → ds.length = ts.length := by
      intro ts
      induction ts with
      | nil => intro vs ds ps h; obtain ⟨_, rfl, _⟩ := trodAll_nil h; rfl
      | cons t ts ih => intro vs ds ps h; obtain ⟨v, vs1, d, ds1, a, b, _, rfl, _, _, h2⟩ := trodAll_cons h; simp [ih h2]
    simpa using this hA
  refine (law_calls hp hf hn hb (of_laid hL) hr).mono fun e W' ⟨he, hbl⟩ => ?_
  subst he
  have e1 := hspec T ds hlen
  have hlt : ∀ x ∈ p, x.block < W.heap.size := fun x hx => hW'.lt x (by simp [hx])
  refine ⟨_, rfl, ds, [], p ++ [], [], p, [], hW', ?_, ?_, ?_, hbl.frame _, fun h => by cases h⟩
  · rw [List.append_nil, e1, hres]
    exact trodAll_mk1 (shut_bool Tryd.underlying4 true)
  · rw [List.append_nil, e1]
    exact trodAll_stays hpt hA (fun x hx => hbl.same (hlt x hx)) (fun x hx => by simpa using hlt x hx)
  · rw [List.append_nil, e1, hvars]
    rfl

/-- A law of one string. -/
theorem string_lifted {f : FuncId} {fn : Func} {s : ChangeSpec} (hf : Tryd.prog.funcs[f]? = some fn) (hni : Tryd.prog.inits.idxOf? f = none) (hn : (fn.name == "runtime.NumGoroutine") = false) (hb : fn.body.isNone = false)
    (hres : fn.resultTypes = #[4]) (hpar : fn.params = #[9]) (hvars : s.vars = []) (hspec : ∀ (T : Type) (d : DataW T), s.fn T [d] = { results := [.lit (.bool true)], args := [d] }) (os : Os) (started : os.Started) (T : Type) (enc : TypeId × Value → T)
    (hok : Input.okWideB Tryd.checked.prog ((World.doorLaid Tryd.prog 4000 os).forCall (fun _ _ => 0) ⟨#[], #[.string ⟨#[]⟩], []⟩) f ⟨#[], #[.string ⟨#[]⟩], []⟩ = true)
    (hpre : s.preB enc Tryd.checked.prog fn [] false ((World.doorLaid Tryd.prog 4000 os).forCall (fun _ _ => 0) ⟨#[], #[.string ⟨#[]⟩], []⟩).memory #[.string ⟨#[]⟩] 8 = true)
    (hsz : s.sizedB enc Tryd.checked.prog fn false ((World.doorLaid Tryd.prog 4000 os).forCall (fun _ _ => 0) ⟨#[], #[.string ⟨#[]⟩], []⟩).memory #[.string ⟨#[]⟩] 8 = true)
    (hp : ∀ l : List UInt8, l.length ≤ 140737488351232 → PureCall lexC f [.str l] (.bool true)) :
    ReturnsInHanded {} Tryd.checked os f .any (fun w args => (s.pre enc Tryd.prog fn [] false w args ∧ laidMetH Tryd.prog laidL w) ∧ sizedMet enc Tryd.prog fn (OpenSpec.ofChange s) false w args)
      (s.post enc Tryd.prog fn false true false false) := by
  refine law_lifted hf hni hn hb hres hvars (fun T ds h => ?_) (fun t ht => ?_) os started T enc
    (ChangeSpec.witness_shaped (enc := enc) (C := Tryd.checked) (os := os) (X := fun w _ => laidMetH Tryd.prog laidL w) false (World.doorLaid Tryd.prog 4000 os) #[.string ⟨#[]⟩] 8 rfl (World.shaped_of_RefB (by kernel_rfl) (by kernel_rfl)) hok hpre hsz (door_met os _)) ?_
  · rw [hpar] at h
    match ds, h with
    | [d], _ => exact hspec T d
  · rw [hpar] at ht
    have : t = 9 := by simpa using ht
    subst this
    exact ⟨by kernel_rfl, of_decide_eq_true (by kernel_rfl)⟩
  · intro W base args ds ps hval hA hw
    rw [hpar] at hA hval hw
    obtain ⟨v0, d0, rfl, rfl, h0⟩ := trodAll_one hA
    obtain ⟨l, rfl, rfl, rfl, _⟩ := ChangeMaps.open_string Tryd.underlying9 (hval 0 9 v0 rfl rfl) h0
    have hl : l.data.toList.length ≤ 140737488351232 := by
      simp only [DataW.weightsEach, DataW.weights, List.cons_append, List.nil_append, List.all_cons, Bool.and_eq_true, decide_eq_true_eq] at hw
      exact hw.1
    exact ⟨_, hp l.data.toList hl, reps1 (.str l.data.toList)⟩

/-- A law of a string and a number. -/
theorem strint_lifted {f : FuncId} {fn : Func} {s : ChangeSpec} (hf : Tryd.prog.funcs[f]? = some fn) (hni : Tryd.prog.inits.idxOf? f = none) (hn : (fn.name == "runtime.NumGoroutine") = false) (hb : fn.body.isNone = false)
    (hres : fn.resultTypes = #[4]) (hpar : fn.params = #[9, 3]) (hvars : s.vars = []) (hspec : ∀ (T : Type) (d e : DataW T), s.fn T [d, e] = { results := [.lit (.bool true)], args := [d, e] }) (os : Os) (started : os.Started) (T : Type) (enc : TypeId × Value → T)
    (hok : Input.okWideB Tryd.checked.prog ((World.doorLaid Tryd.prog 4000 os).forCall (fun _ _ => 0) ⟨#[], #[.string ⟨#[]⟩, .int .i64 0], []⟩) f ⟨#[], #[.string ⟨#[]⟩, .int .i64 0], []⟩ = true)
    (hpre : s.preB enc Tryd.checked.prog fn [] false ((World.doorLaid Tryd.prog 4000 os).forCall (fun _ _ => 0) ⟨#[], #[.string ⟨#[]⟩, .int .i64 0], []⟩).memory #[.string ⟨#[]⟩, .int .i64 0] 8 = true)
    (hsz : s.sizedB enc Tryd.checked.prog fn false ((World.doorLaid Tryd.prog 4000 os).forCall (fun _ _ => 0) ⟨#[], #[.string ⟨#[]⟩, .int .i64 0], []⟩).memory #[.string ⟨#[]⟩, .int .i64 0] 8 = true)
    (hp : ∀ (l : List UInt8) (n : Int), l.length ≤ 140737488351232 → PureCall lexC f [.str l, .int .i64 n] (.bool true)) :
    ReturnsInHanded {} Tryd.checked os f .any (fun w args => (s.pre enc Tryd.prog fn [] false w args ∧ laidMetH Tryd.prog laidL w) ∧ sizedMet enc Tryd.prog fn (OpenSpec.ofChange s) false w args)
      (s.post enc Tryd.prog fn false true false false) := by
  refine law_lifted hf hni hn hb hres hvars (fun T ds h => ?_) (fun t ht => ?_) os started T enc
    (ChangeSpec.witness_shaped (enc := enc) (C := Tryd.checked) (os := os) (X := fun w _ => laidMetH Tryd.prog laidL w) false (World.doorLaid Tryd.prog 4000 os) #[.string ⟨#[]⟩, .int .i64 0] 8 rfl (World.shaped_of_RefB (by kernel_rfl) (by kernel_rfl)) hok hpre hsz (door_met os _)) ?_
  · rw [hpar] at h
    match ds, h with
    | [d, e], _ => exact hspec T d e
  · rw [hpar] at ht
    have : t = 9 ∨ t = 3 := by simpa using ht
    rcases this with rfl | rfl <;> exact ⟨by kernel_rfl, of_decide_eq_true (by kernel_rfl)⟩
  · intro W base args ds ps hval hA hw
    rw [hpar] at hA hval hw
    obtain ⟨v0, v1, d0, d1, p0, p1, rfl, rfl, rfl, h0, h1⟩ := trodAll_two hA
    obtain ⟨l, rfl, rfl, rfl, _⟩ := ChangeMaps.open_string Tryd.underlying9 (hval 0 9 v0 rfl rfl) h0
    obtain ⟨n, rfl, rfl, rfl, _⟩ := open_int Tryd.underlying3 (hval 1 3 v1 rfl rfl) h1
    have hl : l.data.toList.length ≤ 140737488351232 := by
      simp only [DataW.weightsEach, DataW.weights, List.cons_append, List.nil_append, List.all_cons, Bool.and_eq_true, decide_eq_true_eq] at hw
      exact hw.1
    exact ⟨_, hp l.data.toList n hl, Reps.cons (.str l.data.toList) (reps1 (.int _ _))⟩

end Go.Proofs.YtkcljempplchkaaDoor

/- Lexing, suffix by suffix. -/
set_option maxRecDepth 100000
set_option linter.unusedVariables false
set_option linter.unusedSimpArgs false
namespace Go.Proofs.YtkcljempplchkaaDoor
open Go.Eng

theorem takeWhile_span (p : UInt8 → Bool) : ∀ l : List UInt8, l.take (spanN p l) = l.takeWhile p ∧ l.drop (spanN p l) = l.dropWhile p
  | [] => ⟨rfl, rfl⟩
  | c :: l => by
    obtain ⟨h1, h2⟩ := takeWhile_span p l
    rw [spanN, List.takeWhile_cons, List.dropWhile_cons]
    split
    · rw [List.take_succ_cons, List.drop_succ_cons, h1, h2]; exact ⟨rfl, rfl⟩
    · exact ⟨rfl, rfl⟩

/-- What stands behind blanks and comments. -/
def blS : Nat → List UInt8 → List UInt8
  | 0, l => l
  | _ + 1, [] => []
  | f + 1, c :: l => if isBlank c = true then blS f l else if pfx [45, 45] (c :: l) = true then blS f ((c :: l).dropWhile notNl) else c :: l
def bl (l : List UInt8) : List UInt8 := blS l.length l

theorem drop_cons {s : List UInt8} {i : Nat} {c : UInt8} (h : s[i]? = some c) : s.drop i = c :: s.drop (i + 1) := by
  have hi := (List.getElem?_eq_some_iff.1 h).1
  rw [List.drop_eq_getElem_cons hi]
  rw [List.getElem?_eq_getElem hi] at h
  cases h; rfl

theorem blk_drop (s : List UInt8) : ∀ (f i : Nat), s.drop (blk s f i) = blS f (s.drop i)
  | 0, i => rfl
  | f + 1, i => by
    unfold blk
    cases hs : s[i]? with
    | none =>
      simp only
      rw [List.getElem?_eq_none_iff] at hs
      rw [List.drop_eq_nil_of_le hs]; rfl
    | some c =>
      simp only
      rw [drop_cons hs, blS, ← drop_cons hs]
      split
      · exact blk_drop s f (i + 1)
      · split
        · obtain ⟨_, hd⟩ := takeWhile_span notNl (s.drop i)
          rw [← hd, spanN_index]
          split
          · rw [List.drop_of_length_le (Nat.le_refl _)]
            rw [List.drop_of_length_le (Nat.le_refl _)]
            cases f <;> rfl
          · rw [List.drop_drop, ← blk_drop s f]
        · rfl
theorem dropWhile_len (p : UInt8 → Bool) (l : List UInt8) : (l.dropWhile p).length ≤ l.length := by
  obtain ⟨_, h⟩ := takeWhile_span p l
  rw [← h, List.length_drop]; omega
theorem comment_len {c : UInt8} {l : List UInt8} (h : pfx [45, 45] (c :: l) = true) : ((c :: l).dropWhile notNl).length ≤ l.length := by
  have : notNl c = true := by
    have hc : c = 45 := by
      cases l with
      | nil => simp [pfx, List.isPrefixOf] at h
      | cons d l => simp only [pfx, List.isPrefixOf, Bool.and_eq_true, beq_iff_eq] at h; exact h.1.symm
    subst hc; decide
  rw [List.dropWhile_cons, this, if_pos rfl]
  exact dropWhile_len notNl l
theorem blS_fuel : ∀ (f : Nat) (l : List UInt8), l.length ≤ f → blS f l = bl l := by
  intro f
  induction f using Nat.strongRecOn with
  | _ f ih =>
    intro l h
    cases f with
    | zero => have : l = [] := List.length_eq_zero_iff.1 (by omega); subst this; rfl
    | succ f =>
      cases l with
      | nil => rfl
      | cons c l =>
        have h' : l.length ≤ f := by simpa using h
        unfold bl
        rw [List.length_cons, blS, blS]
        split
        · rw [ih f (by omega) l h']; rfl
        · split
          · rename_i hp
            have := comment_len hp
            rw [ih f (by omega) _ (by omega)]
            rcases Nat.lt_or_ge l.length (f + 1) with h2 | h2
            · rw [ih l.length h2 _ this]
            · omega
          · rfl
theorem bl_nil : bl [] = [] := rfl
theorem bl_cons (c : UInt8) (l : List UInt8) : bl (c :: l) = if isBlank c = true then bl l else if pfx [45, 45] (c :: l) = true then bl ((c :: l).dropWhile notNl) else c :: l := by
  conv => lhs; unfold bl
  rw [List.length_cons, blS]
  split
  · rw [blS_fuel _ _ (Nat.le_refl _)]
  · split
    · rename_i hp
      rw [blS_fuel _ _ (comment_len hp)]
    · rfl
theorem blanks_drop {s : List UInt8} {i : Nat} (hi : i ≤ s.length) : s.drop (blanksTo s i) = bl (s.drop i) := by
  unfold blanksTo
  rw [blk_drop, blS_fuel _ _ (by rw [List.length_drop]; omega)]
theorem bl_len : ∀ (n : Nat) (l : List UInt8), l.length = n → (bl l).length ≤ l.length := by
  intro n
  induction n using Nat.strongRecOn with
  | _ n ih =>
    intro l h
    cases l with
    | nil => exact Nat.le_refl _
    | cons c l =>
      rw [List.length_cons] at h
      rw [bl_cons]
      split
      · have := ih l.length (by omega) l rfl; rw [List.length_cons]; omega
      · split
        · rename_i hp
          have h1 := comment_len hp
          have := ih _ (by omega) ((c :: l).dropWhile notNl) rfl
          rw [List.length_cons]; omega
        · exact Nat.le_refl _
/-- What stands there is no blank and begins no comment. -/
def clean : List UInt8 → Bool
  | [] => true
  | c :: l => !isBlank c && !pfx [45, 45] (c :: l)
theorem bl_clean : ∀ (n : Nat) (l : List UInt8), l.length = n → clean (bl l) = true := by
  intro n
  induction n using Nat.strongRecOn with
  | _ n ih =>
    intro l h
    cases l with
    | nil => rfl
    | cons c l =>
      rw [List.length_cons] at h
      rw [bl_cons]
      split
      · exact ih l.length (by omega) l rfl
      · split
        · rename_i hp
          have h1 := comment_len hp
          exact ih _ (by omega) ((c :: l).dropWhile notNl) rfl
        · rename_i h1 h2
          simp [clean, h1, h2]
theorem bl_of_clean {l : List UInt8} (h : clean l = true) : bl l = l := by
  cases l with
  | nil => rfl
  | cons c l =>
    simp only [clean, Bool.and_eq_true, Bool.not_eq_true'] at h
    rw [bl_cons, if_neg (by simp [h.1]), if_neg (by simp [h.2])]

/-- The token with which a text begins. -/
def tokS : List UInt8 → Option (Int × List UInt8)
  | [] => none
  | c :: r =>
    if signs.contains c then some (5, [c])
    else if iEq (uC c) 95 && !inName (r.headD 0) then some (5, [95])
    else if iEq (uC c) 39 && capital (r.headD 0) then some (5, [39])
    else if inName c then
      (if isWord ((c :: r).takeWhile inName) then some (6, (c :: r).takeWhile inName) else if IsSmall ((c :: r).takeWhile inName) then some (1, (c :: r).takeWhile inName) else if IsCapital ((c :: r).takeWhile inName) then some (2, (c :: r).takeWhile inName)
        else if digit c && number ((c :: r).takeWhile inName) then some (4, (c :: r).takeWhile inName) else none)
    else if inOp c then (if reserved ((c :: r).takeWhile inOp) then some (5, (c :: r).takeWhile inOp) else if isOp ((c :: r).takeWhile inOp) then some (3, (c :: r).takeWhile inOp) else none)
    else none

theorem tokAt_drop {s : List UInt8} {i : Nat} {c : UInt8} (hc : s[i]? = some c) : tokAt s i c = tokS (s.drop i) := by
  have hs : ∀ p, spanS p s i = (s.drop i).takeWhile p := fun p => by
    rw [← (takeWhile_span p (s.drop i)).1]
    unfold spanS
    rw [List.drop_take, show i + spanN p (s.drop i) - i = spanN p (s.drop i) by omega]
  have hn : s.getD (i + 1) 0 = (s.drop (i + 1)).headD 0 := by
    rw [List.getD_eq_getElem?_getD, List.headD_eq_head?_getD, List.head?_drop]
  unfold tokAt
  rw [sign_iff, hs, hs, hn, drop_cons hc]
  rfl

/-- The tokens of a text: kind, text, and how much text is left where it begins. -/
def lexS : Nat → List UInt8 → Option (List (Int × List UInt8 × Nat))
  | 0, _ => none
  | f + 1, l => match bl l with
    | [] => some [(7, [], 0)]
    | c :: r => match tokS (c :: r) with
      | none => none
      | some t => (lexS f ((c :: r).drop t.2.length)).map fun ts => (t.1, t.2, (c :: r).length) :: ts
def lexT (l : List UInt8) : Option (List (Int × List UInt8 × Nat)) := lexS (l.length + 1) l

def conv (n : Nat) (t : Int × List UInt8 × Nat) : Token := ⟨t.1, t.2.1, ((n - t.2.2 : Nat) : Int)⟩
def optE : Except Nat (List Token) → Option (List Token)
  | .ok l => some l
  | .error _ => none
theorem optE_cons (t : Token) (e : Except Nat (List Token)) : optE (consE t e) = (optE e).map (t :: ·) := by cases e <;> rfl

theorem lexS_eq (s : List UInt8) : ∀ (f i : Nat), i ≤ s.length → optE (lexF s f i) = (lexS f (s.drop i)).map fun ts => ts.map (conv s.length)
  | 0, i, _ => rfl
  | f + 1, i, hi => by
    obtain ⟨b1, b2⟩ := blanksTo_le hi
    rw [lexF, lexS, ← blanks_drop hi]
    cases hs : s[blanksTo s i]? with
    | none =>
      rw [List.getElem?_eq_none_iff] at hs
      rw [List.drop_eq_nil_of_le hs]
      simp [optE, conv]
    | some c =>
      rw [drop_cons hs]
      simp only
      rw [← drop_cons hs, ← tokAt_drop hs]
      cases ht : tokAt s (blanksTo s i) c with
      | none => rfl
      | some t =>
        simp only
        obtain ⟨h1, h2⟩ := tokAt_len hs ht
        rw [optE_cons, lexS_eq s f _ h2, List.drop_drop]
        cases lexS f (s.drop (blanksTo s i + t.2.length)) with
        | none => rfl
        | some ts =>
          simp only [Option.map_some, List.map_cons, Option.some.injEq, List.cons.injEq, and_true]
          simp only [conv, List.length_drop]
          congr 1
          omega
theorem lexT_eq (s : List UInt8) : optE (lexE s) = (lexT s).map fun ts => ts.map (conv s.length) := by
  have := lexS_eq s (s.length + 1) 0 (Nat.zero_le _)
  rw [List.drop_zero] at this
  exact this

theorem takeWhile_len_pos {p : UInt8 → Bool} {c : UInt8} {r : List UInt8} (h : p c = true) : 1 ≤ ((c :: r).takeWhile p).length := by
  rw [List.takeWhile_cons, h, if_pos rfl]; simp
theorem takeWhile_le (p : UInt8 → Bool) (l : List UInt8) : (l.takeWhile p).length ≤ l.length := by
  rw [← (takeWhile_span p l).1, List.length_take]; omega
theorem tokS_len {l : List UInt8} {t : Int × List UInt8} (h : tokS l = some t) : 1 ≤ t.2.length ∧ t.2.length ≤ l.length := by
  cases l with
  | nil => cases h
  | cons c r =>
    have h1 := fun (hp : inName c = true) => takeWhile_len_pos (r := r) hp
    have h2 := fun (hp : inOp c = true) => takeWhile_len_pos (r := r) hp
    have h3 := takeWhile_le inName (c :: r)
    have h4 := takeWhile_le inOp (c :: r)
    have h5 : 1 ≤ (c :: r).length := by simp
    rw [tokS] at h
    generalize (c :: r).takeWhile inName = a at *
    generalize (c :: r).takeWhile inOp = b at *
    repeat' split at h
    all_goals first
      | (cases h; done)
      | (cases h; exact ⟨Nat.le_refl _, h5⟩)
      | (cases h; exact ⟨h1 (by assumption), h3⟩)
      | (cases h; exact ⟨h2 (by assumption), h4⟩)
theorem lexS_fuel : ∀ (f : Nat) (l : List UInt8), l.length + 1 ≤ f → lexS f l = lexT l := by
  intro f
  induction f using Nat.strongRecOn with
  | _ f ih =>
    intro l h
    cases f with
    | zero => omega
    | succ f =>
      have hb := bl_len _ l rfl
      unfold lexT
      rw [lexS, lexS]
      cases hl : bl l with
      | nil => rfl
      | cons c r =>
        simp only
        cases ht : tokS (c :: r) with
        | none => rfl
        | some t =>
          simp only
          obtain ⟨h1, h2⟩ := tokS_len ht
          rw [hl] at hb
          have h3 : ((c :: r).drop t.2.length).length + 1 ≤ (c :: r).length := by rw [List.length_drop]; omega
          rw [ih f (by omega) _ (by omega)]
          rcases Nat.lt_or_ge l.length (f + 1) with h4 | h4
          · rw [ih l.length h4 _ (by omega)]
          · omega
theorem lexT_step (l : List UInt8) : lexT l = match bl l with
    | [] => some [(7, [], 0)]
    | c :: r => match tokS (c :: r) with
      | none => none
      | some t => (lexT ((c :: r).drop t.2.length)).map fun ts => (t.1, t.2, (c :: r).length) :: ts := by
  conv => lhs; unfold lexT
  rw [lexS]
  have hb := bl_len _ l rfl
  cases hl : bl l with
  | nil => rfl
  | cons c r =>
    simp only
    cases ht : tokS (c :: r) with
    | none => rfl
    | some t =>
      simp only
      obtain ⟨h1, h2⟩ := tokS_len ht
      rw [hl] at hb
      rw [lexS_fuel _ _ (by rw [List.length_drop]; omega)]
theorem lexT_nil {l : List UInt8} (h : bl l = []) : lexT l = some [(7, [], 0)] := by rw [lexT_step, h]
theorem lexT_cons {l v : List UInt8} {t : Int × List UInt8} (h : bl l = v) (ht : tokS v = some t) : lexT l = (lexT (v.drop t.2.length)).map fun ts => (t.1, t.2, v.length) :: ts := by
  rw [lexT_step, h]
  cases v with
  | nil => cases ht
  | cons c r => simp only [ht]
theorem lexT_inv {l : List UInt8} {ts : List (Int × List UInt8 × Nat)} (h : lexT l = some ts) :
    (bl l = [] ∧ ts = [(7, [], 0)]) ∨ ∃ v t ts', bl l = v ∧ v ≠ [] ∧ tokS v = some t ∧ lexT (v.drop t.2.length) = some ts' ∧ ts = (t.1, t.2, v.length) :: ts' := by
  rw [lexT_step] at h
  cases hl : bl l with
  | nil => rw [hl] at h; cases h; exact .inl ⟨rfl, rfl⟩
  | cons c r =>
    rw [hl] at h
    simp only at h
    cases ht : tokS (c :: r) with
    | none => rw [ht] at h; cases h
    | some t =>
      rw [ht] at h
      simp only [Option.map_eq_some_iff] at h
      obtain ⟨ts', h1, h2⟩ := h
      exact .inr ⟨c :: r, t, ts', rfl, by simp, ht, h1, h2.symm⟩

end Go.Proofs.YtkcljempplchkaaDoor

/- Blanks and a comment put in before a token. -/
set_option maxRecDepth 100000
set_option linter.unusedVariables false
set_option linter.unusedSimpArgs false
namespace Go.Proofs.YtkcljempplchkaaDoor
open Go.Eng

def insL (line : List UInt8) : List UInt8 := [9, 32, 45, 45, 32] ++ (line ++ [10, 13])
theorem insL_len (line : List UInt8) : (insL line).length = line.length + 7 := by simp [insL]

theorem dropWhile_all {p : UInt8 → Bool} : ∀ {l : List UInt8} (m : List UInt8), l.all p = true → (l ++ m).dropWhile p = m.dropWhile p
  | [], m, _ => rfl
  | c :: l, m, h => by
    rw [List.all_cons, Bool.and_eq_true] at h
    rw [List.cons_append, List.dropWhile_cons, if_pos h.1, dropWhile_all m h.2]
theorem dropWhile_not {p : UInt8 → Bool} : ∀ {l : List UInt8} (m : List UInt8), l.all p = false → (l ++ m).dropWhile p = l.dropWhile p ++ m ∧ l.dropWhile p ≠ []
  | [], m, h => by simp at h
  | c :: l, m, h => by
    rw [List.cons_append, List.dropWhile_cons, List.dropWhile_cons]
    cases hc : p c with
    | true =>
      rw [if_pos rfl, if_pos rfl]
      exact dropWhile_not m (by rw [List.all_cons, hc, Bool.true_and] at h; exact h)
    | false => exact ⟨by simp, by simp⟩

theorem bl_ins {line : List UInt8} (hl : line.all notNl = true) (b : List UInt8) : bl (insL line ++ b) = bl b := by
  have e : insL line ++ b = 9 :: 32 :: 45 :: 45 :: 32 :: (line ++ (10 :: 13 :: b)) := by simp [insL]
  rw [e, bl_cons, if_pos (by decide), bl_cons, if_pos (by decide), bl_cons, if_neg (by decide), if_pos (by simp [pfx, List.isPrefixOf])]
  have e2 : (45 :: 45 :: 32 :: (line ++ 10 :: 13 :: b)) = ([45, 45, 32] ++ line) ++ (10 :: 13 :: b) := by simp
  rw [e2, dropWhile_all _ (by rw [List.all_append, hl]; decide), List.dropWhile_cons, if_neg (by decide), bl_cons, if_pos (by decide), bl_cons, if_pos (by decide)]

theorem clean_head {c : UInt8} {l : List UInt8} (h : clean (c :: l) = true) : notNl c = true := by
  simp only [clean, Bool.and_eq_true, Bool.not_eq_true'] at h
  have hb := h.1
  unfold isBlank at hb
  simp only [Bool.or_eq_false_iff] at hb
  unfold notNl
  rw [hb.1.2]; rfl
theorem drop_short {c : UInt8} {l : List UInt8} (h : clean (c :: l) = true) : (bl ((c :: l).dropWhile notNl)).length < (c :: l).length := by
  have h1 := bl_len _ ((c :: l).dropWhile notNl) rfl
  rw [List.dropWhile_cons, clean_head h, if_pos rfl] at h1 ⊢
  have := dropWhile_len notNl l
  rw [List.length_cons]; omega
theorem pfx_app {c d : UInt8} {u m m' : List UInt8} : pfx [45, 45] (c :: d :: u ++ m) = pfx [45, 45] (c :: d :: u ++ m') := by simp [pfx, List.isPrefixOf]

/-- The blanks before a token, and what is put in. -/
theorem bl_gap {line : List UInt8} (hl : line.all notNl = true) {b : List UInt8} (hb : clean b = true) : ∀ (n : Nat) (u : List UInt8), u.length = n → bl (u ++ b) = b → bl (u ++ (insL line ++ b)) = b := by
  intro n
  induction n using Nat.strongRecOn with
  | _ n ih =>
    intro u hn h
    cases u with
    | nil => rw [List.nil_append, bl_ins hl, bl_of_clean hb]
    | cons c u =>
      rw [List.length_cons] at hn
      rw [List.cons_append, bl_cons] at h
      rw [List.cons_append, bl_cons]
      split
      · rename_i hc
        rw [if_pos hc] at h
        exact ih u.length (by omega) u rfl h
      · rename_i hc
        rw [if_neg hc] at h
        cases hp : pfx [45, 45] (c :: (u ++ b)) with
        | false =>
          rw [hp, if_neg (by simp)] at h
          have := congrArg List.length h
          simp at this; omega
        | true =>
          rw [hp, if_pos rfl] at h
          cases u with
          | nil =>
            -- the second sign would be the token's own
            rw [List.nil_append] at h hp
            cases b with
            | nil => simp [pfx, List.isPrefixOf] at hp
            | cons d b =>
              exfalso
              have hcn : notNl c = true := by
                have : c = 45 := by simp only [pfx, List.isPrefixOf, Bool.and_eq_true, beq_iff_eq] at hp; exact hp.1.symm
                subst this; decide
              rw [List.dropWhile_cons, hcn, if_pos rfl] at h
              have := drop_short hb
              rw [h] at this
              omega
          | cons d u =>
            have hp' : pfx [45, 45] (c :: (d :: u ++ (insL line ++ b))) = true := by
              have := pfx_app (c := c) (d := d) (u := u) (m := b) (m' := insL line ++ b)
              rw [← List.cons_append, ← this]; exact hp
            rw [hp', if_pos rfl]
            rw [← List.cons_append] at h ⊢
            cases hall : (c :: d :: u).all notNl with
            | false =>
              obtain ⟨e1, e2⟩ := dropWhile_not b hall
              obtain ⟨e3, _⟩ := dropWhile_not (insL line ++ b) hall
              rw [e1] at h
              rw [e3]
              have hcl : ((c :: d :: u).dropWhile notNl).length ≤ (d :: u).length := by
                have : pfx [45, 45] (c :: d :: u) = true := by
                  have := pfx_app (c := c) (d := d) (u := u) (m := b) (m' := [])
                  rw [List.append_nil] at this
                  rw [← this]; exact hp
                exact comment_len this
              exact ih _ (by omega) _ rfl h
            | true =>
              rw [dropWhile_all _ hall] at h
              cases b with
              | cons e b => exact absurd (congrArg List.length h) (by have := drop_short hb; omega)
              | nil =>
                have e : (c :: d :: u) ++ (insL line ++ []) = ((c :: d :: u) ++ ([9, 32, 45, 45, 32] ++ line)) ++ [10, 13] := by simp [insL]
                rw [e, dropWhile_all _ (by rw [List.all_append, hall, List.all_append, hl]; decide)]
                decide

theorem bl_suffix : ∀ (n : Nat) (l : List UInt8), l.length = n → ∃ w, l = w ++ bl l := by
  intro n
  induction n using Nat.strongRecOn with
  | _ n ih =>
    intro l h
    cases l with
    | nil => exact ⟨[], rfl⟩
    | cons c l =>
      rw [List.length_cons] at h
      rw [bl_cons]
      split
      · obtain ⟨w, hw⟩ := ih l.length (by omega) l rfl
        exact ⟨c :: w, by rw [List.cons_append, ← hw]⟩
      · split
        · rename_i hp
          have h1 := comment_len hp
          obtain ⟨w, hw⟩ := ih _ (by omega) ((c :: l).dropWhile notNl) rfl
          refine ⟨(c :: l).takeWhile notNl ++ w, ?_⟩
          rw [List.append_assoc, ← hw, List.takeWhile_append_dropWhile]
        · exact ⟨[], rfl⟩

/-- The blanks before a token that stands ahead of what is put in. -/
theorem bl_ahead {b z : List UInt8} : ∀ (n : Nat) (u v : List UInt8), u.length = n → v ≠ [] → bl (u ++ b) = v ++ b → bl (u ++ 9 :: z) = v ++ 9 :: z := by
  intro n
  induction n using Nat.strongRecOn with
  | _ n ih =>
    intro u v hn hv h
    have hvl : 0 < v.length := List.length_pos_iff.2 hv
    cases u with
    | nil =>
      exfalso
      have h1 := bl_len _ b rfl
      rw [List.nil_append] at h
      rw [h, List.length_append] at h1; omega
    | cons c u =>
      rw [List.length_cons] at hn
      rw [List.cons_append, bl_cons] at h
      rw [List.cons_append, bl_cons]
      split
      · rename_i hc
        rw [if_pos hc] at h
        exact ih u.length (by omega) u v rfl hv h
      · rename_i hc
        rw [if_neg hc] at h
        cases hp : pfx [45, 45] (c :: (u ++ b)) with
        | false =>
          rw [hp, if_neg (by simp)] at h
          have e : v = c :: u := by
            rw [← List.cons_append] at h
            exact (List.append_cancel_right h).symm
          subst e
          have : pfx [45, 45] (c :: (u ++ 9 :: z)) = false := by
            cases u with
            | nil => simp [pfx, List.isPrefixOf]
            | cons d u =>
              have := pfx_app (c := c) (d := d) (u := u) (m := b) (m' := 9 :: z)
              rw [← List.cons_append, ← this]; exact hp
          rw [this, if_neg (by simp), List.cons_append]
        | true =>
          rw [hp, if_pos rfl] at h
          cases u with
          | nil =>
            exfalso
            have h1 := bl_len _ ((c :: ([] ++ b)).dropWhile notNl) rfl
            have h2 := comment_len hp
            rw [h, List.length_append] at h1
            rw [List.nil_append] at h2 h1
            omega
          | cons d u =>
            have hp' : pfx [45, 45] (c :: (d :: u ++ 9 :: z)) = true := by
              have := pfx_app (c := c) (d := d) (u := u) (m := b) (m' := 9 :: z)
              rw [← List.cons_append, ← this]; exact hp
            rw [hp', if_pos rfl]
            rw [← List.cons_append] at h ⊢
            cases hall : (c :: d :: u).all notNl with
            | false =>
              obtain ⟨e1, e2⟩ := dropWhile_not b hall
              obtain ⟨e3, _⟩ := dropWhile_not (9 :: z) hall
              rw [e1] at h
              rw [e3]
              have hcl : ((c :: d :: u).dropWhile notNl).length ≤ (d :: u).length := by
                have : pfx [45, 45] (c :: d :: u) = true := by
                  have := pfx_app (c := c) (d := d) (u := u) (m := b) (m' := [])
                  rw [List.append_nil] at this
                  rw [← this]; exact hp
                exact comment_len this
              exact ih _ (by omega) _ v rfl hv h
            | true =>
              exfalso
              rw [dropWhile_all _ hall] at h
              have h1 := bl_len _ (b.dropWhile notNl) rfl
              have h2 := dropWhile_len notNl b
              rw [h, List.length_append] at h1
              omega

/-- A longest run that ends before what follows. -/
theorem run_same {p : UInt8 → Bool} {x : UInt8} (hx : p x = false) {b z : List UInt8} : ∀ (v : List UInt8), ((v ++ b).takeWhile p).length ≤ v.length → (v ++ x :: z).takeWhile p = (v ++ b).takeWhile p
  | [], h => by
    simp only [List.nil_append] at h ⊢
    rw [List.takeWhile_cons, hx, if_neg (by simp)]
    exact (List.length_eq_zero_iff.1 (by simpa using h)).symm
  | c :: v, h => by
    rw [List.cons_append, List.takeWhile_cons] at h
    rw [List.cons_append, List.cons_append, List.takeWhile_cons, List.takeWhile_cons]
    split
    · rename_i hc
      rw [if_pos hc] at h
      rw [run_same hx v (by simpa using h)]
    · rfl
theorem tok_same {v b z : List UInt8} {t : Int × List UInt8} {x : UInt8} (hx1 : inName x = false) (hx2 : inOp x = false) (h : tokS (v ++ b) = some t) (hl : t.2.length ≤ v.length) (hne : v ≠ []) (hq : t.2.length = v.length → t.2 ≠ [39]) : tokS (v ++ x :: z) = some t := by
  cases v with
  | nil => exact absurd rfl hne
  | cons c v =>
    have hd : ∀ {y : UInt8} {m : List UInt8}, v ≠ [] → (v ++ m).headD 0 = (v ++ x :: z).headD 0 := by
      intro y m hv
      cases v with
      | nil => exact absurd rfl hv
      | cons d v => rfl
    rw [List.cons_append, tokS] at h
    rw [List.cons_append, tokS]
    cases hs : signs.contains c with
    | true => rw [hs] at h; exact h
    | false =>
      rw [hs] at h
      simp only [Bool.false_eq_true, if_false] at h ⊢
      cases h95 : iEq (uC c) 95 with
      | true =>
        have e : c = 95 := byte_of (by decide) h95
        subst e
        cases hn : inName ((v ++ b).headD 0) with
        | false =>
          rw [h95, hn] at h
          have : inName ((v ++ x :: z).headD 0) = false := by
            cases v with
            | nil => exact hx1
            | cons d v => exact hn
          rw [this]; exact h
        | true =>
          exfalso
          have h39 : iEq (uC 95) 39 = false := by decide
          have hnn : inName 95 = true := by decide
          obtain ⟨k1, k2, k3, k4⟩ := odd_none (t := (v ++ b).takeWhile inName) (.inl rfl : (95 : UInt8) = 95 ∨ (95 : UInt8) = 39)
          rw [hn] at h
          simp only [h95, h39, hnn, Bool.not_true, Bool.and_false, Bool.false_and, Bool.false_eq_true, if_false, if_true, List.takeWhile_cons, k1, k2, k3, k4] at h
          cases h
      | false =>
        rw [h95] at h
        simp only [Bool.false_and, Bool.false_eq_true, if_false] at h ⊢
        cases h39 : iEq (uC c) 39 with
        | true =>
          have e : c = 39 := byte_of (by decide) h39
          subst e
          cases hn : capital ((v ++ b).headD 0) with
          | true =>
            rw [h39, hn] at h
            simp only [Bool.and_self, if_true, Option.some.injEq] at h
            have hv : v ≠ [] := by
              intro e
              subst e
              subst h
              exact hq rfl rfl
            have : capital ((v ++ x :: z).headD 0) = true := by
              cases v with
              | nil => exact absurd rfl hv
              | cons d v => exact hn
            rw [this, ← h]; rfl
          | false =>
            exfalso
            have hnn : inName 39 = true := by decide
            obtain ⟨k1, k2, k3, k4⟩ := odd_none (t := (v ++ b).takeWhile inName) (.inr rfl : (39 : UInt8) = 95 ∨ (39 : UInt8) = 39)
            rw [hn] at h
            simp only [h39, hnn, Bool.and_false, Bool.false_and, Bool.false_eq_true, if_false, if_true, List.takeWhile_cons, k1, k2, k3, k4] at h
            cases h
        | false =>
          rw [h39] at h
          simp only [Bool.false_and, Bool.false_eq_true, if_false] at h ⊢
          cases hn : inName c with
          | true =>
            rw [hn] at h
            simp only [if_true] at h ⊢
            have ht : t.2 = (c :: (v ++ b)).takeWhile inName := by
              generalize (c :: (v ++ b)).takeWhile inName = T at h
              repeat' split at h
              all_goals (cases h <;> rfl)
            have := run_same hx1 (b := b) (z := z) (c :: v) (by rw [List.cons_append, ← ht]; exact hl)
            rw [List.cons_append, List.cons_append] at this
            rw [this]; exact h
          | false =>
            rw [hn] at h
            simp only [Bool.false_eq_true, if_false] at h ⊢
            cases ho : inOp c with
            | false => rw [ho] at h; simp at h
            | true =>
              rw [ho] at h
              simp only [if_true] at h ⊢
              have ht : t.2 = (c :: (v ++ b)).takeWhile inOp := by
                generalize (c :: (v ++ b)).takeWhile inOp = T at h
                repeat' split at h
                all_goals (cases h <;> rfl)
              have := run_same hx2 (b := b) (z := z) (c :: v) (by rw [List.cons_append, ← ht]; exact hl)
              rw [List.cons_append, List.cons_append] at this
              rw [this]; exact h

abbrev TokR : Type := Int × List UInt8 × Nat
theorem lexT_rem : ∀ (n : Nat) (l : List UInt8) (ts : List TokR), l.length = n → lexT l = some ts → ∀ x ∈ ts, x.2.2 ≤ l.length := by
  intro n
  induction n using Nat.strongRecOn with
  | _ n ih =>
    intro l ts hn h x hx
    rcases lexT_inv h with ⟨_, rfl⟩ | ⟨v, t, ts', hv, hne, ht, h', rfl⟩
    · simp at hx; subst hx; exact Nat.zero_le _
    · have hb := bl_len _ l rfl
      rw [hv] at hb
      obtain ⟨h1, h2⟩ := tokS_len ht
      rcases List.mem_cons.1 hx with rfl | hx
      · exact hb
      · have := ih _ (by rw [List.length_drop]; omega) _ ts' rfl h' x hx
        rw [List.length_drop] at this; omega

def shiftR (k : Nat) (x : TokR) : TokR := (x.1, x.2.1, x.2.2 + k)

theorem lex_insert {line : List UInt8} (hl : line.all notNl = true) {b : List UInt8} {y : TokR} {ts2 : List TokR} (hy : y.2.2 = b.length) : ∀ (ts1 : List TokR) (u : List UInt8), lexT (u ++ b) = some (ts1 ++ y :: ts2) → (∀ x, ts1.getLast? = some x → x.2.1 ≠ [39]) →
    lexT (u ++ (insL line ++ b)) = some (ts1.map (shiftR (insL line).length) ++ y :: ts2)
  | [], u, h, _ => by
    rw [List.nil_append] at h
    rw [List.map_nil, List.nil_append]
    have hcl : bl (u ++ b) = b → clean b = true := fun e => by
      have := bl_clean _ (u ++ b) rfl
      rw [e] at this; exact this
    rcases lexT_inv h with ⟨hb, he⟩ | ⟨v, t, ts', hv, hne, ht, h', he⟩
    · cases he
      have hb0 : b = [] := List.length_eq_zero_iff.1 hy.symm
      have e : bl (u ++ b) = b := by rw [hb, hb0]
      have := bl_gap hl (hcl e) _ u rfl e
      rw [hb0] at this ⊢
      exact lexT_nil this
    · have hlen : v.length = b.length := by cases he; exact hy
      have e : bl (u ++ b) = b := by
        obtain ⟨w, hw⟩ := bl_suffix _ (u ++ b) rfl
        rw [hv] at hw ⊢
        exact (List.append_inj_right' hw hlen.symm).symm
      have e2 := bl_gap hl (hcl e) _ u rfl e
      have : v = b := hv.symm.trans e
      subst this
      rw [lexT_cons e2 ht, h', Option.map_some, ← he]
  | x :: ts1, u, h, hq => by
    rcases lexT_inv h with ⟨hb, he⟩ | ⟨v, t, ts', hv, hne, ht, h', he⟩
    · exfalso
      have := congrArg List.length he
      simp at this
    · rw [List.cons_append, List.cons.injEq] at he
      obtain ⟨hx, hts⟩ := he
      obtain ⟨l1, l2⟩ := tokS_len ht
      have hrem : b.length ≤ v.length - t.2.length := by
        have := lexT_rem _ _ _ rfl h' y (by rw [← hts]; simp)
        rw [List.length_drop, hy] at this; exact this
      obtain ⟨w, hw⟩ := bl_suffix _ (u ++ b) rfl
      rw [hv] at hw
      obtain ⟨v1, rfl⟩ : ∃ v1, v = v1 ++ b := by
        rcases List.append_eq_append_iff.1 hw with ⟨a, h1, h2⟩ | ⟨a, h1, h2⟩
        · exfalso
          have := congrArg List.length h2
          rw [List.length_append] at this
          have h3 : a = [] := List.length_eq_zero_iff.1 (by omega)
          rw [h3, List.nil_append] at h2
          rw [h2] at hrem
          omega
        · exact ⟨a, h2⟩
      rw [List.length_append] at hrem l2
      have htl : t.2.length ≤ v1.length := by omega
      have hv1 : v1 ≠ [] := by intro e; subst e; rw [List.length_nil] at htl; omega
      have e9 : insL line ++ b = 9 :: ([32, 45, 45, 32] ++ (line ++ [10, 13]) ++ b) := by simp [insL]
      have hbl : bl (u ++ (insL line ++ b)) = v1 ++ (insL line ++ b) := by rw [e9]; exact bl_ahead _ u v1 rfl hv1 hv
      have hdrop : (v1 ++ b).drop t.2.length = v1.drop t.2.length ++ b := by rw [List.drop_append_of_le_length htl]
      rw [hdrop, ← hts] at h'
      have hlast : t.2.length = v1.length → t.2 ≠ [39] := fun e => by
        cases ts1 with
        | nil => have := hq x rfl; rw [hx] at this; exact this
        | cons q qs =>
          exfalso
          rw [List.drop_of_length_le (by omega), List.nil_append] at h'
          rcases lexT_inv h' with ⟨_, he2⟩ | ⟨v2, t2, ts2', hv2, _, ht2, h2', he2⟩
          · have := congrArg List.length he2; simp at this
          · rw [List.cons_append, List.cons.injEq] at he2
            have k1 := lexT_rem _ _ _ rfl h2' y (by rw [← he2.2]; simp)
            have k2 := bl_len _ b rfl
            rw [hv2] at k2
            obtain ⟨k3, k4⟩ := tokS_len ht2
            rw [List.length_drop] at k1
            omega
      have ht' : tokS (v1 ++ (insL line ++ b)) = some t := by
        rw [e9]; exact tok_same (by decide) (by decide) ht htl hv1 hlast
      rw [lexT_cons hbl ht', List.drop_append_of_le_length htl, lex_insert hl hy ts1 (v1.drop t.2.length) h' (fun z hz => hq z (by
        cases ts1 with
        | nil => simp at hz
        | cons q qs => rw [List.getLast?_cons_cons]; exact hz)), Option.map_some, List.map_cons, List.cons_append, hx]
      simp only [shiftR, Option.some.injEq, List.cons.injEq, and_true, Prod.mk.injEq, true_and]
      simp only [List.length_append]; omega

end Go.Proofs.YtkcljempplchkaaDoor

/- Places. -/
set_option maxRecDepth 100000
set_option linter.unusedVariables false
set_option linter.unusedSimpArgs false
namespace Go.Proofs.YtkcljempplchkaaDoor
open Go.Eng Go.RowKit

/-- The last place of a newline, or -1. -/
def lastN (l : List UInt8) : Int := (l.foldl (fun (p : Nat × Int) c => (p.1 + 1, if iEq (uC c) 10 = true then (p.1 : Int) else p.2)) (0, -1)).2
theorem lastN_fst (l : List UInt8) (q : Nat × Int) : (l.foldl (fun (p : Nat × Int) c => (p.1 + 1, if iEq (uC c) 10 = true then (p.1 : Int) else p.2)) q).1 = q.1 + l.length := by
  induction l generalizing q with
  | nil => rfl
  | cons c l ih => rw [List.foldl_cons, ih, List.length_cons]; simp only; omega
theorem lastN_snoc (l : List UInt8) (c : UInt8) : lastN (l ++ [c]) = if iEq (uC c) 10 = true then (l.length : Int) else lastN l := by
  unfold lastN
  rw [List.foldl_append, List.foldl_cons, List.foldl_nil]
  simp only
  rw [lastN_fst, Nat.zero_add]
theorem take_snoc {s : List UInt8} {i : Nat} {c : UInt8} (h : s[i]? = some c) : s.take (i + 1) = s.take i ++ [c] := by rw [List.take_add_one, h]; rfl
theorem lastN_take {s : List UInt8} {i : Nat} {c : UInt8} (h : s[i]? = some c) : lastN (s.take (i + 1)) = if iEq (uC c) 10 = true then (i : Int) else lastN (s.take i) := by
  have hi := (List.getElem?_eq_some_iff.1 h).1
  rw [take_snoc h, lastN_snoc, List.length_take, Nat.min_eq_left (Nat.le_of_lt hi)]
theorem lastN_bound : ∀ (s : List UInt8) (i : Nat), i ≤ s.length → -1 ≤ lastN (s.take i) ∧ lastN (s.take i) < i
  | s, 0, _ => by simp [lastN]
  | s, i + 1, h => by
    obtain ⟨c, hc⟩ : ∃ c, s[i]? = some c := ⟨_, List.getElem?_eq_getElem (by omega)⟩
    rw [lastN_take hc]
    have := lastN_bound s i (by omega)
    split <;> omega

theorem Count_pure {O : Cfg} (s : List UInt8) : PureCall O f_Count [.str s, .str [10]] (.int .i64 (s.count 10 : Nat)) := by
  refine lib_pure Tryd.func44 (by kernel_rfl) (by kernel_rfl) ?_
  intro base w0 H G w vs hL hw hvs
  obtain ⟨u, v, rfl, hu, hv⟩ := reps_two hvs
  rw [hu.str_inv, hv.str_inv]
  refine (Tryd.strings_Count_one ⟨s.toArray⟩ 10 w).mono ?_
  rintro e w' ⟨rfl, rfl⟩
  exact ⟨Below.refl _ _, _, rfl, fun G' => .int _ _⟩

theorem LastIndexByteString_pure {O : Cfg} (s : List UInt8) (hs : s.length < 4611686018427387904) : PureCall O f_LastIndexByteString [.str s, .int .u8 10] (.int .i64 (lastN s)) := fun H => by
  have e0 : wSub .i64 (sLen s) 1 = (s.length : Int) - 1 := by rw [sLen_eq, wSub_i64] <;> omega
  refine entry h_LastIndexByteString rfl ?_; simp -implicitDefEqProofs only [go_sem, Nat.reduceAdd, Nat.reduceLeDiff, Nat.reduceEqDiff, Nat.reduceBEq, Nat.reduceLT, c_LastIndexByteString]
  repeat' (first | (refine wpC_split rfl rfl (fun h => ?_) (fun h => ?_) <;> (try simp -implicitDefEqProofs only [go_sem, Nat.reduceAdd, Nat.reduceLeDiff, Nat.reduceEqDiff, Nat.reduceBEq, Nat.reduceLT, h, e0])) | (refine plan_split rfl rfl (fun h => ?_) (fun h => ?_) <;> simp -implicitDefEqProofs only [go_sem, Nat.reduceAdd, Nat.reduceLeDiff, Nat.reduceEqDiff, Nat.reduceBEq, Nat.reduceLT, h, e0]) | (refine planD_split rfl rfl (fun h => ?_) (fun h => ?_) <;> simp -implicitDefEqProofs only [go_sem, Nat.reduceAdd, Nat.reduceLeDiff, Nat.reduceEqDiff, Nat.reduceBEq, Nat.reduceLT, h, e0]) | (refine go ?_; try simp -implicitDefEqProofs only [go_sem, Nat.reduceAdd, Nat.reduceLeDiff, Nat.reduceEqDiff, Nat.reduceBEq, Nat.reduceLT, e0]) | ((with_reducible refine wpC_id ?_); simp -implicitDefEqProofs only [go_sem, Nat.reduceAdd, Nat.reduceLeDiff, Nat.reduceEqDiff, Nat.reduceBEq, Nat.reduceLT, e0]) | ((with_reducible first | refine quiet_id ?_ | refine wrote_id ?_ | refine resQ_id ?_); simp -implicitDefEqProofs only [go_sem, Nat.reduceAdd, Nat.reduceLeDiff, Nat.reduceEqDiff, Nat.reduceBEq, Nat.reduceLT, e0]) | fail)
  rw [wpC_loop]
  refine AC.loop (fun n st => n ≤ s.length ∧ lastN s = lastN (s.take n) ∧ st = ⟨mk 19 [(0, .str s), (1, .int .u8 10), (5, .int .i64 ((n : Int) - 1))], H, []⟩) s.length ⟨Nat.le_refl _, by rw [List.take_length], rfl⟩ ?_
  rintro n _ ⟨hn, hl, rfl⟩
  simp -implicitDefEqProofs only [go_sem, Nat.reduceAdd, Nat.reduceLeDiff, Nat.reduceEqDiff, Nat.reduceBEq, Nat.reduceLT, l_LastIndexByteString_0]
  refine go ?_; simp -implicitDefEqProofs only [go_sem, Nat.reduceAdd, Nat.reduceLeDiff, Nat.reduceEqDiff, Nat.reduceBEq, Nat.reduceLT]
  refine go ?_
  cases n with
  | zero =>
    have h : iLe 0 (((0 : Nat) : Int) - 1) = false := by decide
    simp -implicitDefEqProofs only [go_sem, Nat.reduceAdd, Nat.reduceLeDiff, Nat.reduceEqDiff, Nat.reduceBEq, Nat.reduceLT, h]
    repeat' (first | (refine wpC_split rfl rfl (fun h => ?_) (fun h => ?_) <;> (try simp -implicitDefEqProofs only [go_sem, Nat.reduceAdd, Nat.reduceLeDiff, Nat.reduceEqDiff, Nat.reduceBEq, Nat.reduceLT, h])) | (refine plan_split rfl rfl (fun h => ?_) (fun h => ?_) <;> simp -implicitDefEqProofs only [go_sem, Nat.reduceAdd, Nat.reduceLeDiff, Nat.reduceEqDiff, Nat.reduceBEq, Nat.reduceLT, h]) | (refine planD_split rfl rfl (fun h => ?_) (fun h => ?_) <;> simp -implicitDefEqProofs only [go_sem, Nat.reduceAdd, Nat.reduceLeDiff, Nat.reduceEqDiff, Nat.reduceBEq, Nat.reduceLT, h]) | (refine go ?_; try simp -implicitDefEqProofs only [go_sem, Nat.reduceAdd, Nat.reduceLeDiff, Nat.reduceEqDiff, Nat.reduceBEq, Nat.reduceLT]) | ((with_reducible refine wpC_id ?_); simp -implicitDefEqProofs only [go_sem, Nat.reduceAdd, Nat.reduceLeDiff, Nat.reduceEqDiff, Nat.reduceBEq, Nat.reduceLT]) | ((with_reducible first | refine quiet_id ?_ | refine wrote_id ?_ | refine resQ_id ?_); simp -implicitDefEqProofs only [go_sem, Nat.reduceAdd, Nat.reduceLeDiff, Nat.reduceEqDiff, Nat.reduceBEq, Nat.reduceLT]) | fail)
    rw [hl]; rfl
  | succ n =>
    have h : iLe 0 (((n + 1 : Nat) : Int) - 1) = true := by rw [iLe_true]; omega
    have e1 : ((n + 1 : Nat) : Int) - 1 = (n : Int) := by omega
    have e2 : wSub .i64 (n : Int) 1 = (n : Int) - 1 := by rw [wSub_i64] <;> omega
    obtain ⟨c, hc⟩ : ∃ c, s[n]? = some c := ⟨_, List.getElem?_eq_getElem (by omega)⟩
    have ht := lastN_take hc
    rw [e1] at h
    simp -implicitDefEqProofs only [go_sem, Nat.reduceAdd, Nat.reduceLeDiff, Nat.reduceEqDiff, Nat.reduceBEq, Nat.reduceLT, e1, h]
    repeat' (first | (refine wpC_split rfl rfl (fun h => ?_) (fun h => ?_) <;> (try simp -implicitDefEqProofs only [go_sem, Nat.reduceAdd, Nat.reduceLeDiff, Nat.reduceEqDiff, Nat.reduceBEq, Nat.reduceLT, h, e1, h, ixK_at hc, e2])) | (refine plan_split rfl rfl (fun h => ?_) (fun h => ?_) <;> simp -implicitDefEqProofs only [go_sem, Nat.reduceAdd, Nat.reduceLeDiff, Nat.reduceEqDiff, Nat.reduceBEq, Nat.reduceLT, h, e1, h, ixK_at hc, e2]) | (refine planD_split rfl rfl (fun h => ?_) (fun h => ?_) <;> simp -implicitDefEqProofs only [go_sem, Nat.reduceAdd, Nat.reduceLeDiff, Nat.reduceEqDiff, Nat.reduceBEq, Nat.reduceLT, h, e1, h, ixK_at hc, e2]) | (refine go ?_; try simp -implicitDefEqProofs only [go_sem, Nat.reduceAdd, Nat.reduceLeDiff, Nat.reduceEqDiff, Nat.reduceBEq, Nat.reduceLT, e1, h, ixK_at hc, e2]) | ((with_reducible refine wpC_id ?_); simp -implicitDefEqProofs only [go_sem, Nat.reduceAdd, Nat.reduceLeDiff, Nat.reduceEqDiff, Nat.reduceBEq, Nat.reduceLT, e1, h, ixK_at hc, e2]) | ((with_reducible first | refine quiet_id ?_ | refine wrote_id ?_ | refine resQ_id ?_); simp -implicitDefEqProofs only [go_sem, Nat.reduceAdd, Nat.reduceLeDiff, Nat.reduceEqDiff, Nat.reduceBEq, Nat.reduceLT, e1, h, ixK_at hc, e2]) | fail)
    · rename_i g
      rw [if_pos (by assumption)] at ht
      rw [hl, ht]
    · rw [if_neg (by simp_all)] at ht
      exact ⟨n, by omega, by omega, by rw [hl, ht], rfl⟩

theorem LastIndexByte_pure {O : Cfg} (s : List UInt8) (hs : s.length < 4611686018427387904) : PureCall O f_LastIndexByte [.str s, .int .u8 10] (.int .i64 (lastN s)) := fun H => by
  refine entry h_LastIndexByte rfl ?_; simp -implicitDefEqProofs only [go_sem, Nat.reduceAdd, Nat.reduceLeDiff, Nat.reduceEqDiff, Nat.reduceBEq, Nat.reduceLT, c_LastIndexByte]
  repeat' (first | ((with_reducible refine PureCall.step (LastIndexByteString_pure _ hs) ?_); simp -implicitDefEqProofs only [go_sem, Nat.reduceAdd, Nat.reduceLeDiff, Nat.reduceEqDiff, Nat.reduceBEq, Nat.reduceLT]) | (refine wpC_split rfl rfl (fun h => ?_) (fun h => ?_) <;> (try simp -implicitDefEqProofs only [go_sem, Nat.reduceAdd, Nat.reduceLeDiff, Nat.reduceEqDiff, Nat.reduceBEq, Nat.reduceLT, h])) | (refine plan_split rfl rfl (fun h => ?_) (fun h => ?_) <;> simp -implicitDefEqProofs only [go_sem, Nat.reduceAdd, Nat.reduceLeDiff, Nat.reduceEqDiff, Nat.reduceBEq, Nat.reduceLT, h]) | (refine planD_split rfl rfl (fun h => ?_) (fun h => ?_) <;> simp -implicitDefEqProofs only [go_sem, Nat.reduceAdd, Nat.reduceLeDiff, Nat.reduceEqDiff, Nat.reduceBEq, Nat.reduceLT, h]) | (refine go ?_; try simp -implicitDefEqProofs only [go_sem, Nat.reduceAdd, Nat.reduceLeDiff, Nat.reduceEqDiff, Nat.reduceBEq, Nat.reduceLT]) | ((with_reducible refine wpC_id ?_); simp -implicitDefEqProofs only [go_sem, Nat.reduceAdd, Nat.reduceLeDiff, Nat.reduceEqDiff, Nat.reduceBEq, Nat.reduceLT]) | ((with_reducible first | refine quiet_id ?_ | refine wrote_id ?_ | refine resQ_id ?_); simp -implicitDefEqProofs only [go_sem, Nat.reduceAdd, Nat.reduceLeDiff, Nat.reduceEqDiff, Nat.reduceBEq, Nat.reduceLT]) | fail)

/-- Line, column, and is there such a place? -/
def placeP (s : List UInt8) (p : Int) : Int × Int × Bool :=
  if p < 0 ∨ (s.length : Int) < p then (0, 0, false) else (1 + ((s.take p.toNat).count 10 : Nat), p - lastN (s.take p.toNat), true)

theorem Place_pure {O : Cfg} (s : List UInt8) (hs : s.length < 4611686018427387904) (p : Int) : PureCall O f_Place [.str s, .int .i64 p] (.tup [.int .i64 (placeP s p).1, .int .i64 (placeP s p).2.1, .int .i64 (if (placeP s p).2.2 = true then 0 else 2)]) := fun H => by
  refine entry h_Place rfl ?_; simp -implicitDefEqProofs only [go_sem, Nat.reduceAdd, Nat.reduceLeDiff, Nat.reduceEqDiff, Nat.reduceBEq, Nat.reduceLT, c_Place]
  repeat' (first | (refine wpC_split rfl rfl (fun h => ?_) (fun h => ?_) <;> (try simp -implicitDefEqProofs only [go_sem, Nat.reduceAdd, Nat.reduceLeDiff, Nat.reduceEqDiff, Nat.reduceBEq, Nat.reduceLT, h, sLen_eq])) | (refine plan_split rfl rfl (fun h => ?_) (fun h => ?_) <;> simp -implicitDefEqProofs only [go_sem, Nat.reduceAdd, Nat.reduceLeDiff, Nat.reduceEqDiff, Nat.reduceBEq, Nat.reduceLT, h, sLen_eq]) | (refine planD_split rfl rfl (fun h => ?_) (fun h => ?_) <;> simp -implicitDefEqProofs only [go_sem, Nat.reduceAdd, Nat.reduceLeDiff, Nat.reduceEqDiff, Nat.reduceBEq, Nat.reduceLT, h, sLen_eq]) | (refine go ?_; try simp -implicitDefEqProofs only [go_sem, Nat.reduceAdd, Nat.reduceLeDiff, Nat.reduceEqDiff, Nat.reduceBEq, Nat.reduceLT, sLen_eq]) | ((with_reducible refine wpC_id ?_); simp -implicitDefEqProofs only [go_sem, Nat.reduceAdd, Nat.reduceLeDiff, Nat.reduceEqDiff, Nat.reduceBEq, Nat.reduceLT, sLen_eq]) | ((with_reducible first | refine quiet_id ?_ | refine wrote_id ?_ | refine resQ_id ?_); simp -implicitDefEqProofs only [go_sem, Nat.reduceAdd, Nat.reduceLeDiff, Nat.reduceEqDiff, Nat.reduceBEq, Nat.reduceLT, sLen_eq]) | fail)
  · have := iLt_true.1 h
    rw [show placeP s p = (0, 0, false) by rw [placeP, if_pos (.inl this)]]
    rfl
  · have := iLt_true.1 h
    rw [show placeP s p = (0, 0, false) by rw [placeP, if_pos (.inr this)]]
    rfl
  · have h1 := iLt_false.1 h
    rename_i g
    have h2 := iLt_false.1 g
    obtain ⟨n, rfl⟩ : ∃ n : Nat, p = (n : Int) := ⟨p.toNat, by omega⟩
    have hn : n ≤ s.length := by omega
    have hl : (s.take n).length = n := by rw [List.length_take]; omega
    have hb := lastN_bound s n hn
    have hc : (s.take n).count 10 ≤ n := by have := List.count_le_length (a := (10 : UInt8)) (l := s.take n); omega
    have e1 : wAdd .i64 1 ((s.take n).count 10 : Nat) = 1 + ((s.take n).count 10 : Nat) := by rw [wAdd_i64] <;> omega
    have e2 : wSub .i64 (n : Int) (lastN (s.take n)) = (n : Int) - lastN (s.take n) := by rw [wSub_i64] <;> omega
    have eP : placeP s n = (1 + (((s.take n).count 10 : Nat) : Int), (n : Int) - lastN (s.take n), true) := by rw [placeP, if_neg (by omega), Int.toNat_natCast]
    rw [eP]
    repeat' (first | ((with_reducible refine PureCall.step (Count_pure _) ?_); simp -implicitDefEqProofs only [go_sem, Nat.reduceAdd, Nat.reduceLeDiff, Nat.reduceEqDiff, Nat.reduceBEq, Nat.reduceLT, slSA_hi hn, e1, e2]) | ((with_reducible refine PureCall.step (LastIndexByte_pure _ (by omega)) ?_); simp -implicitDefEqProofs only [go_sem, Nat.reduceAdd, Nat.reduceLeDiff, Nat.reduceEqDiff, Nat.reduceBEq, Nat.reduceLT, slSA_hi hn, e1, e2]) | (refine wpC_split rfl rfl (fun h => ?_) (fun h => ?_) <;> (try simp -implicitDefEqProofs only [go_sem, Nat.reduceAdd, Nat.reduceLeDiff, Nat.reduceEqDiff, Nat.reduceBEq, Nat.reduceLT, h, slSA_hi hn, e1, e2])) | (refine plan_split rfl rfl (fun h => ?_) (fun h => ?_) <;> simp -implicitDefEqProofs only [go_sem, Nat.reduceAdd, Nat.reduceLeDiff, Nat.reduceEqDiff, Nat.reduceBEq, Nat.reduceLT, h, slSA_hi hn, e1, e2]) | (refine planD_split rfl rfl (fun h => ?_) (fun h => ?_) <;> simp -implicitDefEqProofs only [go_sem, Nat.reduceAdd, Nat.reduceLeDiff, Nat.reduceEqDiff, Nat.reduceBEq, Nat.reduceLT, h, slSA_hi hn, e1, e2]) | (refine go ?_; try simp -implicitDefEqProofs only [go_sem, Nat.reduceAdd, Nat.reduceLeDiff, Nat.reduceEqDiff, Nat.reduceBEq, Nat.reduceLT, slSA_hi hn, e1, e2]) | ((with_reducible refine wpC_id ?_); simp -implicitDefEqProofs only [go_sem, Nat.reduceAdd, Nat.reduceLeDiff, Nat.reduceEqDiff, Nat.reduceBEq, Nat.reduceLT, slSA_hi hn, e1, e2]) | ((with_reducible first | refine quiet_id ?_ | refine wrote_id ?_ | refine resQ_id ?_); simp -implicitDefEqProofs only [go_sem, Nat.reduceAdd, Nat.reduceLeDiff, Nat.reduceEqDiff, Nat.reduceBEq, Nat.reduceLT, slSA_hi hn, e1, e2]) | fail)

theorem rPlace_pure {O : Cfg} (s : List UInt8) (hs : s.length < 4611686018427387904) (p : Int) : PureCall O f_rPlace [.str s, .int .i64 p] (.tup [.int .i64 (placeP s p).1, .int .i64 (placeP s p).2.1, .bool (placeP s p).2.2]) := fun H => by
  refine entry h_rPlace rfl ?_; simp -implicitDefEqProofs only [go_sem, Nat.reduceAdd, Nat.reduceLeDiff, Nat.reduceEqDiff, Nat.reduceBEq, Nat.reduceLT, c_rPlace]
  repeat' (first | (refine wpC_split rfl rfl (fun h => ?_) (fun h => ?_) <;> (try simp -implicitDefEqProofs only [go_sem, Nat.reduceAdd, Nat.reduceLeDiff, Nat.reduceEqDiff, Nat.reduceBEq, Nat.reduceLT, h, sLen_eq])) | (refine plan_split rfl rfl (fun h => ?_) (fun h => ?_) <;> simp -implicitDefEqProofs only [go_sem, Nat.reduceAdd, Nat.reduceLeDiff, Nat.reduceEqDiff, Nat.reduceBEq, Nat.reduceLT, h, sLen_eq]) | (refine planD_split rfl rfl (fun h => ?_) (fun h => ?_) <;> simp -implicitDefEqProofs only [go_sem, Nat.reduceAdd, Nat.reduceLeDiff, Nat.reduceEqDiff, Nat.reduceBEq, Nat.reduceLT, h, sLen_eq]) | (refine go ?_; try simp -implicitDefEqProofs only [go_sem, Nat.reduceAdd, Nat.reduceLeDiff, Nat.reduceEqDiff, Nat.reduceBEq, Nat.reduceLT, sLen_eq]) | ((with_reducible refine wpC_id ?_); simp -implicitDefEqProofs only [go_sem, Nat.reduceAdd, Nat.reduceLeDiff, Nat.reduceEqDiff, Nat.reduceBEq, Nat.reduceLT, sLen_eq]) | ((with_reducible first | refine quiet_id ?_ | refine wrote_id ?_ | refine resQ_id ?_); simp -implicitDefEqProofs only [go_sem, Nat.reduceAdd, Nat.reduceLeDiff, Nat.reduceEqDiff, Nat.reduceBEq, Nat.reduceLT, sLen_eq]) | fail)
  · have := iLt_true.1 h
    rw [show placeP s p = (0, 0, false) by rw [placeP, if_pos (.inl this)]]
  · have := iLt_true.1 h
    rw [show placeP s p = (0, 0, false) by rw [placeP, if_pos (.inr this)]]
  · have h1 := iLt_false.1 h
    rename_i g
    have h2 := iLt_false.1 g
    obtain ⟨n, rfl⟩ : ∃ n : Nat, p = (n : Int) := ⟨p.toNat, by omega⟩
    have hn : n ≤ s.length := by omega
    have eP : placeP s n = (1 + (((s.take n).count 10 : Nat) : Int), (n : Int) - lastN (s.take n), true) := by rw [placeP, if_neg (by omega), Int.toNat_natCast]
    rw [eP]
    rw [wpC_loop]
    refine AC.loop (fun m st => ∃ i : Nat, i + m = n ∧ st = ⟨mk 33 [(0, .str s), (7, .int .i64 (1 + ((s.take i).count 10 : Nat))), (8, .int .i64 ((i : Int) + 1 - 1 - lastN (s.take i))), (18, .int .i64 (n : Int)), (19, .int .i64 (i : Int))], H, []⟩) n ⟨0, by omega, rfl⟩ ?_
    rintro m _ ⟨i, hi, rfl⟩
    simp -implicitDefEqProofs only [go_sem, Nat.reduceAdd, Nat.reduceLeDiff, Nat.reduceEqDiff, Nat.reduceBEq, Nat.reduceLT, l_rPlace_0]
    refine go ?_; simp -implicitDefEqProofs only [go_sem, Nat.reduceAdd, Nat.reduceLeDiff, Nat.reduceEqDiff, Nat.reduceBEq, Nat.reduceLT]
    refine go ?_
    refine wpC_split rfl rfl (fun h => ?_) (fun h => ?_) <;> simp -implicitDefEqProofs only [go_sem, Nat.reduceAdd, Nat.reduceLeDiff, Nat.reduceEqDiff, Nat.reduceBEq, Nat.reduceLT]
    · have hlt := iLt_true.1 h
      obtain ⟨c, hc⟩ : ∃ c, s[i]? = some c := ⟨_, List.getElem?_eq_getElem (by omega)⟩
      have hb := lastN_bound s i (by omega)
      have hcl : (s.take i).count 10 ≤ i := by have := List.count_le_length (a := (10 : UInt8)) (l := s.take i); rw [List.length_take] at this; omega
      have e1 : wAdd .i64 (i : Int) 1 = ((i + 1 : Nat) : Int) := by rw [wAdd_i64] <;> omega
      have e2 : wAdd .i64 ((i : Int) + 1 - 1 - lastN (s.take i)) 1 = (i : Int) + 1 - lastN (s.take i) := by rw [wAdd_i64] <;> omega
      have e3 : wAdd .i64 (1 + ((s.take i).count 10 : Nat)) 1 = 1 + (((s.take i).count 10 + 1 : Nat) : Int) := by rw [wAdd_i64] <;> omega
      have hct : (s.take (i + 1)).count 10 = (s.take i).count 10 + if iEq (uC c) 10 = true then 1 else 0 := by
        rw [take_snoc hc, List.count_append, List.count_singleton, uC_eq c 10 10 rfl]
      have hlt2 := lastN_take hc
      repeat' (first | (refine wpC_split rfl rfl (fun h => ?_) (fun h => ?_) <;> (try simp -implicitDefEqProofs only [go_sem, Nat.reduceAdd, Nat.reduceLeDiff, Nat.reduceEqDiff, Nat.reduceBEq, Nat.reduceLT, h, ixK_at hc, e1, e2, e3])) | (refine plan_split rfl rfl (fun h => ?_) (fun h => ?_) <;> simp -implicitDefEqProofs only [go_sem, Nat.reduceAdd, Nat.reduceLeDiff, Nat.reduceEqDiff, Nat.reduceBEq, Nat.reduceLT, h, ixK_at hc, e1, e2, e3]) | (refine planD_split rfl rfl (fun h => ?_) (fun h => ?_) <;> simp -implicitDefEqProofs only [go_sem, Nat.reduceAdd, Nat.reduceLeDiff, Nat.reduceEqDiff, Nat.reduceBEq, Nat.reduceLT, h, ixK_at hc, e1, e2, e3]) | (refine go ?_; try simp -implicitDefEqProofs only [go_sem, Nat.reduceAdd, Nat.reduceLeDiff, Nat.reduceEqDiff, Nat.reduceBEq, Nat.reduceLT, ixK_at hc, e1, e2, e3]) | ((with_reducible refine wpC_id ?_); simp -implicitDefEqProofs only [go_sem, Nat.reduceAdd, Nat.reduceLeDiff, Nat.reduceEqDiff, Nat.reduceBEq, Nat.reduceLT, ixK_at hc, e1, e2, e3]) | ((with_reducible first | refine quiet_id ?_ | refine wrote_id ?_ | refine resQ_id ?_); simp -implicitDefEqProofs only [go_sem, Nat.reduceAdd, Nat.reduceLeDiff, Nat.reduceEqDiff, Nat.reduceBEq, Nat.reduceLT, ixK_at hc, e1, e2, e3]) | fail)
      · rename_i g
        have hh : iEq (uC c) 10 = true := by assumption
        rw [if_pos hh] at hct hlt2
        refine ⟨m - 1, by omega, i + 1, by omega, ?_⟩
        rw [hct, hlt2, show ((i + 1 : Nat) : Int) + 1 - 1 - (i : Int) = 1 by omega]
      · have hh : iEq (uC c) 10 = false := by assumption
        rw [if_neg (by simp [hh])] at hct hlt2
        refine ⟨m - 1, by omega, i + 1, by omega, ?_⟩
        rw [hct, hlt2, show ((i + 1 : Nat) : Int) + 1 - 1 = (i : Int) + 1 by omega]
        rfl
    · have hge := iLt_false.1 h
      have : i = n := by omega
      subst this
      repeat' (first | (refine wpC_split rfl rfl (fun h => ?_) (fun h => ?_) <;> (try simp -implicitDefEqProofs only [go_sem, Nat.reduceAdd, Nat.reduceLeDiff, Nat.reduceEqDiff, Nat.reduceBEq, Nat.reduceLT, h])) | (refine plan_split rfl rfl (fun h => ?_) (fun h => ?_) <;> simp -implicitDefEqProofs only [go_sem, Nat.reduceAdd, Nat.reduceLeDiff, Nat.reduceEqDiff, Nat.reduceBEq, Nat.reduceLT, h]) | (refine planD_split rfl rfl (fun h => ?_) (fun h => ?_) <;> simp -implicitDefEqProofs only [go_sem, Nat.reduceAdd, Nat.reduceLeDiff, Nat.reduceEqDiff, Nat.reduceBEq, Nat.reduceLT, h]) | (refine go ?_; try simp -implicitDefEqProofs only [go_sem, Nat.reduceAdd, Nat.reduceLeDiff, Nat.reduceEqDiff, Nat.reduceBEq, Nat.reduceLT]) | ((with_reducible refine wpC_id ?_); simp -implicitDefEqProofs only [go_sem, Nat.reduceAdd, Nat.reduceLeDiff, Nat.reduceEqDiff, Nat.reduceBEq, Nat.reduceLT]) | ((with_reducible first | refine quiet_id ?_ | refine wrote_id ?_ | refine resQ_id ?_); simp -implicitDefEqProofs only [go_sem, Nat.reduceAdd, Nat.reduceLeDiff, Nat.reduceEqDiff, Nat.reduceBEq, Nat.reduceLT]) | fail)
      rw [show (i : Int) + 1 - 1 = (i : Int) by omega]

theorem LawPlaces_pure (s : List UInt8) (hs : s.length < 4611686018427387904) (p : Int) : PureCall lexC f_LawPlaces [.str s, .int .i64 p] (.bool true) := fun H => by
  have h1 := Place_pure (O := lexC) s hs p
  have h2 := rPlace_pure (O := lexC) s hs p
  obtain ⟨x, y, b, e⟩ : ∃ x y b, placeP s p = (x, y, b) := ⟨_, _, _, rfl⟩
  rw [e] at h1 h2
  have z1 : iEq 0 2 = false := by decide
  have z2 : iEq 2 0 = false := by decide
  have z3 : bEq true true = true := rfl
  have z4 : bEq false false = true := rfl
  cases b
  all_goals
    simp only [if_true, Bool.false_eq_true, if_false] at h1 h2
    refine entry h_LawPlaces rfl ?_; simp -implicitDefEqProofs only [go_sem, Nat.reduceAdd, Nat.reduceLeDiff, Nat.reduceEqDiff, Nat.reduceBEq, Nat.reduceLT, c_LawPlaces]
    repeat' (first | ((with_reducible refine PureCall.step (h1) ?_); simp -implicitDefEqProofs only [go_sem, Nat.reduceAdd, Nat.reduceLeDiff, Nat.reduceEqDiff, Nat.reduceBEq, Nat.reduceLT, z1, z2, z3, z4]) | ((with_reducible refine PureCall.step (h2) ?_); simp -implicitDefEqProofs only [go_sem, Nat.reduceAdd, Nat.reduceLeDiff, Nat.reduceEqDiff, Nat.reduceBEq, Nat.reduceLT, z1, z2, z3, z4]) | ((with_reducible refine PureCall.step (awake_pure) ?_); simp -implicitDefEqProofs only [go_sem, Nat.reduceAdd, Nat.reduceLeDiff, Nat.reduceEqDiff, Nat.reduceBEq, Nat.reduceLT, z1, z2, z3, z4]) | (refine wpC_split rfl rfl (fun h => ?_) (fun h => ?_) <;> (try simp -implicitDefEqProofs only [go_sem, Nat.reduceAdd, Nat.reduceLeDiff, Nat.reduceEqDiff, Nat.reduceBEq, Nat.reduceLT, h, z1, z2, z3, z4])) | (refine plan_split rfl rfl (fun h => ?_) (fun h => ?_) <;> simp -implicitDefEqProofs only [go_sem, Nat.reduceAdd, Nat.reduceLeDiff, Nat.reduceEqDiff, Nat.reduceBEq, Nat.reduceLT, h, z1, z2, z3, z4]) | (refine planD_split rfl rfl (fun h => ?_) (fun h => ?_) <;> simp -implicitDefEqProofs only [go_sem, Nat.reduceAdd, Nat.reduceLeDiff, Nat.reduceEqDiff, Nat.reduceBEq, Nat.reduceLT, h, z1, z2, z3, z4]) | (refine go ?_; try simp -implicitDefEqProofs only [go_sem, Nat.reduceAdd, Nat.reduceLeDiff, Nat.reduceEqDiff, Nat.reduceBEq, Nat.reduceLT, z1, z2, z3, z4]) | ((with_reducible refine wpC_id ?_); simp -implicitDefEqProofs only [go_sem, Nat.reduceAdd, Nat.reduceLeDiff, Nat.reduceEqDiff, Nat.reduceBEq, Nat.reduceLT, z1, z2, z3, z4]) | ((with_reducible first | refine quiet_id ?_ | refine wrote_id ?_ | refine resQ_id ?_); simp -implicitDefEqProofs only [go_sem, Nat.reduceAdd, Nat.reduceLeDiff, Nat.reduceEqDiff, Nat.reduceBEq, Nat.reduceLT, z1, z2, z3, z4]) | fail)

end Go.Proofs.YtkcljempplchkaaDoor

/- The law on comments. -/
set_option maxRecDepth 100000
set_option linter.unusedVariables false
set_option linter.unusedSimpArgs false
namespace Go.Proofs.YtkcljempplchkaaDoor
open Go.Eng

theorem optE_ok {e : Except Nat (List Token)} {l : List Token} : optE e = some l ↔ e = .ok l := by
  cases e with
  | ok m => simp [optE]
  | error n => simp [optE]
theorem lexE_tokens {s : List UInt8} {l : List Token} : lexE s = .ok l ↔ ∃ ts, lexT s = some ts ∧ l = ts.map (conv s.length) := by
  rw [← optE_ok, lexT_eq, Option.map_eq_some_iff]
  exact ⟨fun ⟨ts, h1, h2⟩ => ⟨ts, h1, h2.symm⟩, fun ⟨ts, h1, h2⟩ => ⟨ts, h1, h2.symm⟩⟩
theorem lexT_ne {s : List UInt8} {ts : List TokR} (h : lexT s = some ts) : ts ≠ [] := by
  rcases lexT_inv h with ⟨_, rfl⟩ | ⟨_, _, _, _, _, _, _, rfl⟩ <;> simp

/-- The tokens, those from the k-th on moved. -/
def movedT (k n : Nat) (l : List Token) : List Token := l.take k ++ (l.drop k).map fun x => ⟨x.kind, x.text, x.pos + n⟩

theorem lex_comment {s line : List UInt8} {l : List Token} (hl : lexE s = .ok l) (hn : line.all notNl = true) {k : Nat} {x : Token} (hx : l[k]? = some x) (hq : ∀ y, 0 < k → l[k - 1]? = some y → y.text ≠ [39]) :
    ∃ p : Nat, x.pos = p ∧ p ≤ s.length ∧ lexE (s.take p ++ (insL line ++ s.drop p)) = .ok (movedT k (insL line).length l) := by
  obtain ⟨ts, ht, rfl⟩ := lexE_tokens.1 hl
  rw [List.getElem?_map, Option.map_eq_some_iff] at hx
  obtain ⟨y, hy, rfl⟩ := hx
  have hk := (List.getElem?_eq_some_iff.1 hy).1
  have hr := lexT_rem _ _ _ rfl ht y (List.mem_of_getElem? hy)
  refine ⟨s.length - y.2.2, rfl, by omega, ?_⟩
  have hsplit : ts = ts.take k ++ y :: ts.drop (k + 1) := by
    have e : ts[k] = y := by rw [List.getElem?_eq_getElem hk] at hy; exact Option.some.inj hy
    rw [← e, ← List.drop_eq_getElem_cons hk, List.take_append_drop]
  have hb : y.2.2 = (s.drop (s.length - y.2.2)).length := by rw [List.length_drop]; omega
  have hs : s = s.take (s.length - y.2.2) ++ s.drop (s.length - y.2.2) := (List.take_append_drop _ _).symm
  have key := lex_insert hn hb (ts.take k) (s.take (s.length - y.2.2)) (by rw [← hs, ← hsplit]; exact ht) (fun z hz => by
    rw [List.getLast?_take] at hz
    split at hz
    · cases hz
    · rename_i h0
      have h1 : k - 1 < ts.length := by omega
      rw [List.getElem?_eq_getElem h1] at hz
      have hz' : ts[k - 1] = z := by simpa using hz
      have := hq (conv s.length z) (by omega) (by rw [List.getElem?_map, List.getElem?_eq_getElem h1, hz']; rfl)
      exact this)
  refine lexE_tokens.2 ⟨_, key, ?_⟩
  have hlen : (s.take (s.length - y.2.2) ++ (insL line ++ s.drop (s.length - y.2.2))).length = s.length + (insL line).length := by
    rw [List.length_append, List.length_append, List.length_take, List.length_drop]; omega
  have hrem := lexT_rem _ _ _ rfl ht
  rw [movedT, hlen, List.map_append, ← List.map_take, ← List.map_drop, List.map_map, List.map_map]
  congr 1
  · apply List.map_congr_left
    intro z hz
    simp only [Function.comp, conv, shiftR, Token.mk.injEq, true_and]
    congr 1
    omega
  · have e2 : ts.drop k = y :: ts.drop (k + 1) := by
      have e : ts[k] = y := by rw [List.getElem?_eq_getElem hk] at hy; exact Option.some.inj hy
      rw [← e, ← List.drop_eq_getElem_cons hk]
    rw [← e2]
    apply List.map_congr_left
    intro z hz
    have := hrem z (List.mem_of_mem_drop hz)
    simp only [Function.comp, conv, Token.mk.injEq, true_and]
    omega

theorem movedT_at {k n : Nat} {l : List Token} {i : Nat} {x : Token} (h : l[i]? = some x) : (movedT k n l)[i]? = some ⟨x.kind, x.text, if i < k then x.pos else x.pos + n⟩ := by
  have hi := (List.getElem?_eq_some_iff.1 h).1
  unfold movedT
  by_cases hik : i < k
  · rw [List.getElem?_append_left (by rw [List.length_take]; omega), List.getElem?_take, if_pos hik, h, if_pos hik]
  · rw [List.getElem?_append_right (by rw [List.length_take]; omega), List.length_take, List.getElem?_map, List.getElem?_drop, show k + (i - min k l.length) = i by omega, h, if_neg hik]; rfl
theorem movedT_len (k n : Nat) (l : List Token) : (movedT k n l).length = l.length := by
  unfold movedT; rw [List.length_append, List.length_map, List.length_take, List.length_drop]; omega
theorem sameT_pos (x : Token) (p : Int) : sameT false x ⟨x.kind, x.text, p⟩ = true := by simp [sameT, iEq_self, sEq_self]
theorem same_map (n : Nat) : ∀ l : List Token, sameL false l (l.map fun x => ⟨x.kind, x.text, x.pos + n⟩) = true
  | [] => rfl
  | x :: l => by rw [List.map_cons, sameL, sameT_pos, same_map n l]; rfl
theorem same_moved (n : Nat) : ∀ (k : Nat) (l : List Token), sameL false l (movedT k n l) = true
  | 0, l => by
    have : movedT 0 n l = l.map fun x => ⟨x.kind, x.text, x.pos + n⟩ := by simp [movedT]
    rw [this]; exact same_map n l
  | k + 1, [] => rfl
  | k + 1, x :: l => by
    have : movedT (k + 1) n (x :: l) = x :: movedT k n l := by simp [movedT]
    rw [this, sameL, sameT_self, same_moved n k l]; rfl

theorem binA_rem {k : IntKind} {a b : Int} (h : b ≠ 0) : binA .rem (.int k a) (.int k b) = some (.int k (a.tmod b)) := by simp [binA, h]
theorem wInt_u64 (a : Int) : 0 ≤ wInt .u64 a ∧ wInt .u64 a < 18446744073709551616 := by
  simp only [wInt, IntKind.wrap, IntKind.signed, IntKind.bits, Bool.false_and, Bool.false_eq_true, if_false, Int.reducePow]
  omega
theorem wInt_u64_id {a : Int} (h0 : 0 ≤ a) (h1 : a < 18446744073709551616) : wInt .u64 a = a := by
  simp only [wInt, IntKind.wrap, IntKind.signed, IntKind.bits, Bool.false_and, Bool.false_eq_true, if_false, Int.reducePow]
  omega
theorem wInt_i64_id {a : Int} (h0 : -9223372036854775808 ≤ a) (h1 : a < 9223372036854775808) : wInt .i64 a = a := by
  have := wAdd_i64 (a := a) (b := 0) (by omega) (by omega)
  simpa [wAdd, wInt] using this

theorem LawComment_pure (s c : List UInt8) (hs : s.length ≤ 140737488351232) (hc : c.length ≤ 140737488351232) (a : Int) : PureCall lexC f_LawComment [.str s, .int .i64 a, .str c] (.bool true) := fun H => by
  have hsum : wAdd .i64 (sLen s) (sLen c) = ((s.length + c.length : Nat) : Int) := by rw [sLen_eq, sLen_eq, wAdd_i64] <;> omega
  have z0 : ((0 : Nat) : Int) = 0 := rfl
  have z5 : iEq 5 0 = false := by decide
  have z4 : iEq 4 0 = false := by decide
  by_cases h12 : 12000 < s.length
  · have t1 := Tokens_pure s
    rw [show lexP s = ([], 0, 5) by rw [lexP, if_pos h12]] at t1
    refine entry h_LawComment rfl ?_; simp -implicitDefEqProofs only [go_sem, Nat.reduceAdd, Nat.reduceLeDiff, Nat.reduceEqDiff, Nat.reduceBEq, Nat.reduceLT, c_LawComment]
    repeat' (first | ((with_reducible refine PureCall.step (t1) ?_); simp -implicitDefEqProofs only [go_sem, Nat.reduceAdd, Nat.reduceLeDiff, Nat.reduceEqDiff, Nat.reduceBEq, Nat.reduceLT, z0, z5]) | ((with_reducible refine PureCall.step (awake_pure) ?_); simp -implicitDefEqProofs only [go_sem, Nat.reduceAdd, Nat.reduceLeDiff, Nat.reduceEqDiff, Nat.reduceBEq, Nat.reduceLT, z0, z5]) | (refine wpC_split rfl rfl (fun h => ?_) (fun h => ?_) <;> (try simp -implicitDefEqProofs only [go_sem, Nat.reduceAdd, Nat.reduceLeDiff, Nat.reduceEqDiff, Nat.reduceBEq, Nat.reduceLT, h, z0, z5])) | (refine plan_split rfl rfl (fun h => ?_) (fun h => ?_) <;> simp -implicitDefEqProofs only [go_sem, Nat.reduceAdd, Nat.reduceLeDiff, Nat.reduceEqDiff, Nat.reduceBEq, Nat.reduceLT, h, z0, z5]) | (refine planD_split rfl rfl (fun h => ?_) (fun h => ?_) <;> simp -implicitDefEqProofs only [go_sem, Nat.reduceAdd, Nat.reduceLeDiff, Nat.reduceEqDiff, Nat.reduceBEq, Nat.reduceLT, h, z0, z5]) | (refine go ?_; try simp -implicitDefEqProofs only [go_sem, Nat.reduceAdd, Nat.reduceLeDiff, Nat.reduceEqDiff, Nat.reduceBEq, Nat.reduceLT, z0, z5]) | ((with_reducible refine wpC_id ?_); simp -implicitDefEqProofs only [go_sem, Nat.reduceAdd, Nat.reduceLeDiff, Nat.reduceEqDiff, Nat.reduceBEq, Nat.reduceLT, z0, z5]) | ((with_reducible first | refine quiet_id ?_ | refine wrote_id ?_ | refine resQ_id ?_); simp -implicitDefEqProofs only [go_sem, Nat.reduceAdd, Nat.reduceLeDiff, Nat.reduceEqDiff, Nat.reduceBEq, Nat.reduceLT, z0, z5]) | fail)
  · cases hE : lexE s with
    | error e =>
      have t1 := Tokens_pure s
      rw [show lexP s = ([], e, 4) by rw [lexP, if_neg h12, hE]; rfl] at t1
      refine entry h_LawComment rfl ?_; simp -implicitDefEqProofs only [go_sem, Nat.reduceAdd, Nat.reduceLeDiff, Nat.reduceEqDiff, Nat.reduceBEq, Nat.reduceLT, c_LawComment]
      repeat' (first | ((with_reducible refine PureCall.step (t1) ?_); simp -implicitDefEqProofs only [go_sem, Nat.reduceAdd, Nat.reduceLeDiff, Nat.reduceEqDiff, Nat.reduceBEq, Nat.reduceLT, z0, z4]) | ((with_reducible refine PureCall.step (awake_pure) ?_); simp -implicitDefEqProofs only [go_sem, Nat.reduceAdd, Nat.reduceLeDiff, Nat.reduceEqDiff, Nat.reduceBEq, Nat.reduceLT, z0, z4]) | (refine wpC_split rfl rfl (fun h => ?_) (fun h => ?_) <;> (try simp -implicitDefEqProofs only [go_sem, Nat.reduceAdd, Nat.reduceLeDiff, Nat.reduceEqDiff, Nat.reduceBEq, Nat.reduceLT, h, z0, z4])) | (refine plan_split rfl rfl (fun h => ?_) (fun h => ?_) <;> simp -implicitDefEqProofs only [go_sem, Nat.reduceAdd, Nat.reduceLeDiff, Nat.reduceEqDiff, Nat.reduceBEq, Nat.reduceLT, h, z0, z4]) | (refine planD_split rfl rfl (fun h => ?_) (fun h => ?_) <;> simp -implicitDefEqProofs only [go_sem, Nat.reduceAdd, Nat.reduceLeDiff, Nat.reduceEqDiff, Nat.reduceBEq, Nat.reduceLT, h, z0, z4]) | (refine go ?_; try simp -implicitDefEqProofs only [go_sem, Nat.reduceAdd, Nat.reduceLeDiff, Nat.reduceEqDiff, Nat.reduceBEq, Nat.reduceLT, z0, z4]) | ((with_reducible refine wpC_id ?_); simp -implicitDefEqProofs only [go_sem, Nat.reduceAdd, Nat.reduceLeDiff, Nat.reduceEqDiff, Nat.reduceBEq, Nat.reduceLT, z0, z4]) | ((with_reducible first | refine quiet_id ?_ | refine wrote_id ?_ | refine resQ_id ?_); simp -implicitDefEqProofs only [go_sem, Nat.reduceAdd, Nat.reduceLeDiff, Nat.reduceEqDiff, Nat.reduceBEq, Nat.reduceLT, z0, z4]) | fail)
    | ok l =>
      have t1 := Tokens_pure s
      rw [show lexP s = (l, 0, 0) by rw [lexP, if_neg h12, hE]; rfl] at t1
      simp only at t1
      have hne : l ≠ [] := by
        obtain ⟨ts, h1, rfl⟩ := lexE_tokens.1 hE
        have := lexT_ne h1
        simpa using this
      have hlp : 0 < l.length := List.length_pos_iff.2 hne
      have hll : l.length ≤ s.length + 1 := by have := lexF_len s _ _ l (Nat.zero_le _) hE; omega
      have hl0 : iEq (rLen (tokRows l)) 0 = false := by rw [rLen_tok, iEq_false]; omega
      -- the index
      have hu : wInt .u64 (rLen (tokRows l)) = (l.length : Int) := by rw [rLen_tok]; exact wInt_u64_id (by omega) (by omega)
      have hrem : binA .rem (.int .u64 (wInt .u64 a)) (.int .u64 (l.length : Int)) = some (.int .u64 ((wInt .u64 a).tmod (l.length : Int))) := binA_rem (by omega)
      obtain ⟨w0, w1⟩ := wInt_u64 a
      obtain ⟨k, hk, hkl⟩ : ∃ k : Nat, (wInt .u64 a).tmod (l.length : Int) = (k : Int) ∧ k < l.length := by
        have h1 := Int.tmod_nonneg (b := (l.length : Int)) w0
        have h2 := Int.tmod_lt_of_pos (wInt .u64 a) (b := (l.length : Int)) (by omega)
        exact ⟨((wInt .u64 a).tmod (l.length : Int)).toNat, by omega, by omega⟩
      have hk64 : wInt .i64 (k : Int) = (k : Int) := wInt_i64_id (by omega) (by omega)
      obtain ⟨x, hx⟩ : ∃ x, l[k]? = some x := ⟨_, List.getElem?_eq_getElem hkl⟩
      obtain ⟨p, hp, hps⟩ : ∃ p : Nat, x.pos = p ∧ p ≤ s.length := by
        obtain ⟨ts, h1, rfl⟩ := lexE_tokens.1 hE
        rw [List.getElem?_map, Option.map_eq_some_iff] at hx
        obtain ⟨y, hy, rfl⟩ := hx
        exact ⟨s.length - y.2.2, rfl, by omega⟩
      have ix := iaddrA_tok hx
      have g0 : iLt x.pos 0 = false := by rw [hp, iLt_false]; omega
      have g1 : iLt (sLen s) x.pos = false := by rw [hp, sLen_eq, iLt_false]; omega
      have g2 : iLe 0 x.pos = true := by rw [hp, iLe_true]; omega
      have g3 : iLe x.pos (sLen s) = true := by rw [hp, sLen_eq, iLe_true]; omega
      refine entry h_LawComment rfl ?_; simp -implicitDefEqProofs only [go_sem, Nat.reduceAdd, Nat.reduceLeDiff, Nat.reduceEqDiff, Nat.reduceBEq, Nat.reduceLT, c_LawComment]
      by_cases hlong : 11991 < s.length + c.length
      · have hb : iLt 11991 ((s.length + c.length : Nat) : Int) = true := by rw [iLt_true]; omega
        repeat' (first | ((with_reducible refine PureCall.step (t1) ?_); simp -implicitDefEqProofs only [go_sem, Nat.reduceAdd, Nat.reduceLeDiff, Nat.reduceEqDiff, Nat.reduceBEq, Nat.reduceLT, z0, hsum, hb]) | ((with_reducible refine PureCall.step (awake_pure) ?_); simp -implicitDefEqProofs only [go_sem, Nat.reduceAdd, Nat.reduceLeDiff, Nat.reduceEqDiff, Nat.reduceBEq, Nat.reduceLT, z0, hsum, hb]) | (refine wpC_split rfl rfl (fun h => ?_) (fun h => ?_) <;> (try simp -implicitDefEqProofs only [go_sem, Nat.reduceAdd, Nat.reduceLeDiff, Nat.reduceEqDiff, Nat.reduceBEq, Nat.reduceLT, h, z0, hsum, hb])) | (refine plan_split rfl rfl (fun h => ?_) (fun h => ?_) <;> simp -implicitDefEqProofs only [go_sem, Nat.reduceAdd, Nat.reduceLeDiff, Nat.reduceEqDiff, Nat.reduceBEq, Nat.reduceLT, h, z0, hsum, hb]) | (refine planD_split rfl rfl (fun h => ?_) (fun h => ?_) <;> simp -implicitDefEqProofs only [go_sem, Nat.reduceAdd, Nat.reduceLeDiff, Nat.reduceEqDiff, Nat.reduceBEq, Nat.reduceLT, h, z0, hsum, hb]) | (refine go ?_; try simp -implicitDefEqProofs only [go_sem, Nat.reduceAdd, Nat.reduceLeDiff, Nat.reduceEqDiff, Nat.reduceBEq, Nat.reduceLT, z0, hsum, hb]) | ((with_reducible refine wpC_id ?_); simp -implicitDefEqProofs only [go_sem, Nat.reduceAdd, Nat.reduceLeDiff, Nat.reduceEqDiff, Nat.reduceBEq, Nat.reduceLT, z0, hsum, hb]) | ((with_reducible first | refine quiet_id ?_ | refine wrote_id ?_ | refine resQ_id ?_); simp -implicitDefEqProofs only [go_sem, Nat.reduceAdd, Nat.reduceLeDiff, Nat.reduceEqDiff, Nat.reduceBEq, Nat.reduceLT, z0, hsum, hb]) | fail)
      · have hb : iLt 11991 ((s.length + c.length : Nat) : Int) = false := by rw [iLt_false]; omega
        refine go ?_; simp -implicitDefEqProofs only [go_sem, Nat.reduceAdd, Nat.reduceLeDiff, Nat.reduceEqDiff, Nat.reduceBEq, Nat.reduceLT]
        refine PureCall.step t1 ?_; simp -implicitDefEqProofs only [go_sem, Nat.reduceAdd, Nat.reduceLeDiff, Nat.reduceEqDiff, Nat.reduceBEq, Nat.reduceLT, z0]
        (refine go ?_; simp -implicitDefEqProofs only [go_sem, Nat.reduceAdd, Nat.reduceLeDiff, Nat.reduceEqDiff, Nat.reduceBEq, Nat.reduceLT, z0, hsum, hb]); (refine go ?_; simp -implicitDefEqProofs only [go_sem, Nat.reduceAdd, Nat.reduceLeDiff, Nat.reduceEqDiff, Nat.reduceBEq, Nat.reduceLT, z0, hsum, hb])
        (refine go ?_; simp -implicitDefEqProofs only [go_sem, Nat.reduceAdd, Nat.reduceLeDiff, Nat.reduceEqDiff, Nat.reduceBEq, Nat.reduceLT, hl0]); (refine go ?_; simp -implicitDefEqProofs only [go_sem, Nat.reduceAdd, Nat.reduceLeDiff, Nat.reduceEqDiff, Nat.reduceBEq, Nat.reduceLT, hl0])
        (refine go ?_; simp -implicitDefEqProofs only [go_sem, Nat.reduceAdd, Nat.reduceLeDiff, Nat.reduceEqDiff, Nat.reduceBEq, Nat.reduceLT, hu, hrem, hk, hk64])
        refine AC.cut (fun st => (∀ y, 0 < k → l[k - 1]? = some y → y.text ≠ [39]) ∧ st = ⟨mk 169 [(0, .str s), (1, .int .i64 (k : Int)), (2, .str c), (7, .sl (tokRows l) .no)], H, []⟩) ?_ ?_
        · cases k with
          | zero =>
            have hk0 : iLt 0 ((0 : Nat) : Int) = false := by decide
            repeat' (first | ((with_reducible refine PureCall.step (awake_pure) ?_); simp -implicitDefEqProofs only [go_sem, Nat.reduceAdd, Nat.reduceLeDiff, Nat.reduceEqDiff, Nat.reduceBEq, Nat.reduceLT, ix, g0, g1, g2, g3, hk0]) | (refine wpC_split rfl rfl (fun h => ?_) (fun h => ?_) <;> (try simp -implicitDefEqProofs only [go_sem, Nat.reduceAdd, Nat.reduceLeDiff, Nat.reduceEqDiff, Nat.reduceBEq, Nat.reduceLT, h, ix, g0, g1, g2, g3, hk0])) | (refine plan_split rfl rfl (fun h => ?_) (fun h => ?_) <;> simp -implicitDefEqProofs only [go_sem, Nat.reduceAdd, Nat.reduceLeDiff, Nat.reduceEqDiff, Nat.reduceBEq, Nat.reduceLT, h, ix, g0, g1, g2, g3, hk0]) | (refine planD_split rfl rfl (fun h => ?_) (fun h => ?_) <;> simp -implicitDefEqProofs only [go_sem, Nat.reduceAdd, Nat.reduceLeDiff, Nat.reduceEqDiff, Nat.reduceBEq, Nat.reduceLT, h, ix, g0, g1, g2, g3, hk0]) | (refine go ?_; try simp -implicitDefEqProofs only [go_sem, Nat.reduceAdd, Nat.reduceLeDiff, Nat.reduceEqDiff, Nat.reduceBEq, Nat.reduceLT, ix, g0, g1, g2, g3, hk0]) | ((with_reducible refine wpC_id ?_); simp -implicitDefEqProofs only [go_sem, Nat.reduceAdd, Nat.reduceLeDiff, Nat.reduceEqDiff, Nat.reduceBEq, Nat.reduceLT, ix, g0, g1, g2, g3, hk0]) | ((with_reducible first | refine quiet_id ?_ | refine wrote_id ?_ | refine resQ_id ?_); simp -implicitDefEqProofs only [go_sem, Nat.reduceAdd, Nat.reduceLeDiff, Nat.reduceEqDiff, Nat.reduceBEq, Nat.reduceLT, ix, g0, g1, g2, g3, hk0]) | fail)
            intro y h0
            first | exact absurd h0 (by omega) | (intros; simp at h0) | (simp at h0)
          | succ k =>
            have hk0 : iLt 0 ((k + 1 : Nat) : Int) = true := by rw [iLt_true]; omega
            have hk1 : wSub .i64 ((k + 1 : Nat) : Int) 1 = (k : Int) := by rw [wSub_i64] <;> omega
            obtain ⟨y, hy⟩ : ∃ y, l[k]? = some y := ⟨_, List.getElem?_eq_getElem (by omega)⟩
            repeat' (first | ((with_reducible refine PureCall.step (awake_pure) ?_); simp -implicitDefEqProofs only [go_sem, Nat.reduceAdd, Nat.reduceLeDiff, Nat.reduceEqDiff, Nat.reduceBEq, Nat.reduceLT, ix, g0, g1, g2, g3, hk0, hk1, iaddrA_tok hy]) | (refine wpC_split rfl rfl (fun h => ?_) (fun h => ?_) <;> (try simp -implicitDefEqProofs only [go_sem, Nat.reduceAdd, Nat.reduceLeDiff, Nat.reduceEqDiff, Nat.reduceBEq, Nat.reduceLT, h, ix, g0, g1, g2, g3, hk0, hk1, iaddrA_tok hy])) | (refine plan_split rfl rfl (fun h => ?_) (fun h => ?_) <;> simp -implicitDefEqProofs only [go_sem, Nat.reduceAdd, Nat.reduceLeDiff, Nat.reduceEqDiff, Nat.reduceBEq, Nat.reduceLT, h, ix, g0, g1, g2, g3, hk0, hk1, iaddrA_tok hy]) | (refine planD_split rfl rfl (fun h => ?_) (fun h => ?_) <;> simp -implicitDefEqProofs only [go_sem, Nat.reduceAdd, Nat.reduceLeDiff, Nat.reduceEqDiff, Nat.reduceBEq, Nat.reduceLT, h, ix, g0, g1, g2, g3, hk0, hk1, iaddrA_tok hy]) | (refine go ?_; try simp -implicitDefEqProofs only [go_sem, Nat.reduceAdd, Nat.reduceLeDiff, Nat.reduceEqDiff, Nat.reduceBEq, Nat.reduceLT, ix, g0, g1, g2, g3, hk0, hk1, iaddrA_tok hy]) | ((with_reducible refine wpC_id ?_); simp -implicitDefEqProofs only [go_sem, Nat.reduceAdd, Nat.reduceLeDiff, Nat.reduceEqDiff, Nat.reduceBEq, Nat.reduceLT, ix, g0, g1, g2, g3, hk0, hk1, iaddrA_tok hy]) | ((with_reducible first | refine quiet_id ?_ | refine wrote_id ?_ | refine resQ_id ?_); simp -implicitDefEqProofs only [go_sem, Nat.reduceAdd, Nat.reduceLeDiff, Nat.reduceEqDiff, Nat.reduceBEq, Nat.reduceLT, ix, g0, g1, g2, g3, hk0, hk1, iaddrA_tok hy]) | fail)
            intro z _ hz e
            rw [show k + 1 - 1 = k by omega, hy] at hz
            cases hz
            rw [e, sEq_self] at h
            cases h
        · rintro _ ⟨hq, rfl⟩
          -- the line
          refine go ?_; simp -implicitDefEqProofs only [go_sem, Nat.reduceAdd, Nat.reduceLeDiff, Nat.reduceEqDiff, Nat.reduceBEq, Nat.reduceLT]
          refine AC.cut (fun st => st = ⟨mk 169 [(0, .str s), (1, .int .i64 (k : Int)), (2, .str c), (7, .sl (tokRows l) .no), (10, .str (c.filter notNl)), (11, .int .i64 (c.length : Int))], H, []⟩) ?_ ?_
          · (refine go ?_; simp -implicitDefEqProofs only [go_sem, Nat.reduceAdd, Nat.reduceLeDiff, Nat.reduceEqDiff, Nat.reduceBEq, Nat.reduceLT]); (refine go ?_; simp -implicitDefEqProofs only [go_sem, Nat.reduceAdd, Nat.reduceLeDiff, Nat.reduceEqDiff, Nat.reduceBEq, Nat.reduceLT])
            rw [wpC_loop]
            refine AC.loop (fun n st => ∃ i : Nat, i + n = c.length ∧ st = ⟨mk 169 [(0, .str s), (1, .int .i64 (k : Int)), (2, .str c), (7, .sl (tokRows l) .no), (10, .str ((c.take i).filter notNl)), (11, .int .i64 (i : Int))], H, []⟩) c.length ⟨0, by omega, rfl⟩ ?_
            rintro n _ ⟨i, hi, rfl⟩
            simp -implicitDefEqProofs only [go_sem, Nat.reduceAdd, Nat.reduceLeDiff, Nat.reduceEqDiff, Nat.reduceBEq, Nat.reduceLT, l_LawComment_0]
            refine go ?_; simp -implicitDefEqProofs only [go_sem, Nat.reduceAdd, Nat.reduceLeDiff, Nat.reduceEqDiff, Nat.reduceBEq, Nat.reduceLT]
            refine go ?_
            refine wpC_split rfl rfl (fun h => ?_) (fun h => ?_) <;> simp -implicitDefEqProofs only [go_sem, Nat.reduceAdd, Nat.reduceLeDiff, Nat.reduceEqDiff, Nat.reduceBEq, Nat.reduceLT]
            · have hlt := iLt_true.1 h
              rw [sLen_eq] at hlt
              obtain ⟨d, hd⟩ : ∃ d, c[i]? = some d := ⟨_, List.getElem?_eq_getElem (by omega)⟩
              have e : wAdd .i64 (i : Int) 1 = ((i + 1 : Nat) : Int) := by rw [wAdd_i64] <;> omega
              have sl1 : slSA c (some (.int .i64 (i : Int))) (some (.int .i64 ((i + 1 : Nat) : Int))) = some (.str [d]) := by
                rw [slSA_both (by omega) (by omega), take_one hd]
              have hfl : ((c.take i).filter notNl).length ≤ c.length := by
                have := List.length_filter_le notNl (c.take i)
                rw [List.length_take] at this; omega
              have cat : catK ((c.take i).filter notNl) [d] = some (.str ((c.take i).filter notNl ++ [d])) := catK_ok (by simp; omega)
              cases hn : notNl d with
              | true =>
                have hn' : bNot (iEq (uC d) 10) = true := hn
                repeat' (first | (refine wpC_split rfl rfl (fun h => ?_) (fun h => ?_) <;> (try simp -implicitDefEqProofs only [go_sem, Nat.reduceAdd, Nat.reduceLeDiff, Nat.reduceEqDiff, Nat.reduceBEq, Nat.reduceLT, h, ixK_at hd, e, sl1, cat, hn'])) | (refine plan_split rfl rfl (fun h => ?_) (fun h => ?_) <;> simp -implicitDefEqProofs only [go_sem, Nat.reduceAdd, Nat.reduceLeDiff, Nat.reduceEqDiff, Nat.reduceBEq, Nat.reduceLT, h, ixK_at hd, e, sl1, cat, hn']) | (refine planD_split rfl rfl (fun h => ?_) (fun h => ?_) <;> simp -implicitDefEqProofs only [go_sem, Nat.reduceAdd, Nat.reduceLeDiff, Nat.reduceEqDiff, Nat.reduceBEq, Nat.reduceLT, h, ixK_at hd, e, sl1, cat, hn']) | (refine go ?_; try simp -implicitDefEqProofs only [go_sem, Nat.reduceAdd, Nat.reduceLeDiff, Nat.reduceEqDiff, Nat.reduceBEq, Nat.reduceLT, ixK_at hd, e, sl1, cat, hn']) | ((with_reducible refine wpC_id ?_); simp -implicitDefEqProofs only [go_sem, Nat.reduceAdd, Nat.reduceLeDiff, Nat.reduceEqDiff, Nat.reduceBEq, Nat.reduceLT, ixK_at hd, e, sl1, cat, hn']) | ((with_reducible first | refine quiet_id ?_ | refine wrote_id ?_ | refine resQ_id ?_); simp -implicitDefEqProofs only [go_sem, Nat.reduceAdd, Nat.reduceLeDiff, Nat.reduceEqDiff, Nat.reduceBEq, Nat.reduceLT, ixK_at hd, e, sl1, cat, hn']) | fail)
                refine ⟨n - 1, by omega, i + 1, by omega, ?_⟩
                rw [take_snoc hd, List.filter_append, List.filter_cons, hn, if_pos rfl]
                rfl
              | false =>
                have hn' : bNot (iEq (uC d) 10) = false := hn
                repeat' (first | (refine wpC_split rfl rfl (fun h => ?_) (fun h => ?_) <;> (try simp -implicitDefEqProofs only [go_sem, Nat.reduceAdd, Nat.reduceLeDiff, Nat.reduceEqDiff, Nat.reduceBEq, Nat.reduceLT, h, ixK_at hd, e, sl1, cat, hn'])) | (refine plan_split rfl rfl (fun h => ?_) (fun h => ?_) <;> simp -implicitDefEqProofs only [go_sem, Nat.reduceAdd, Nat.reduceLeDiff, Nat.reduceEqDiff, Nat.reduceBEq, Nat.reduceLT, h, ixK_at hd, e, sl1, cat, hn']) | (refine planD_split rfl rfl (fun h => ?_) (fun h => ?_) <;> simp -implicitDefEqProofs only [go_sem, Nat.reduceAdd, Nat.reduceLeDiff, Nat.reduceEqDiff, Nat.reduceBEq, Nat.reduceLT, h, ixK_at hd, e, sl1, cat, hn']) | (refine go ?_; try simp -implicitDefEqProofs only [go_sem, Nat.reduceAdd, Nat.reduceLeDiff, Nat.reduceEqDiff, Nat.reduceBEq, Nat.reduceLT, ixK_at hd, e, sl1, cat, hn']) | ((with_reducible refine wpC_id ?_); simp -implicitDefEqProofs only [go_sem, Nat.reduceAdd, Nat.reduceLeDiff, Nat.reduceEqDiff, Nat.reduceBEq, Nat.reduceLT, ixK_at hd, e, sl1, cat, hn']) | ((with_reducible first | refine quiet_id ?_ | refine wrote_id ?_ | refine resQ_id ?_); simp -implicitDefEqProofs only [go_sem, Nat.reduceAdd, Nat.reduceLeDiff, Nat.reduceEqDiff, Nat.reduceBEq, Nat.reduceLT, ixK_at hd, e, sl1, cat, hn']) | fail)
                refine ⟨n - 1, by omega, i + 1, by omega, ?_⟩
                rw [take_snoc hd, List.filter_append, List.filter_cons, hn, if_neg (by simp), List.filter_nil, List.append_nil]
            · have hge := iLt_false.1 h
              rw [sLen_eq] at hge
              have : i = c.length := by omega
              subst this
              rw [List.take_length]
          · rintro _ rfl
            have hfl : (c.filter notNl).length ≤ c.length := List.length_filter_le notNl c
            have hfn : (c.filter notNl).all notNl = true := by
              rw [List.all_eq_true]; intro d hd; exact (List.mem_filter.1 hd).2
            obtain ⟨p', hp', _, hlex⟩ := lex_comment hE hfn hx hq
            obtain rfl : p' = p := by omega
            have cat1 : catK [9, 32, 45, 45, 32] (c.filter notNl) = some (.str (9 :: 32 :: 45 :: 45 :: 32 :: c.filter notNl)) := catK_ok (by simp; omega)
            have cat2 : catK (9 :: 32 :: 45 :: 45 :: 32 :: c.filter notNl) [10, 13] = some (.str (insL (c.filter notNl))) := by
              rw [catK_ok (by simp; omega)]; rfl
            have hil := insL_len (c.filter notNl)
            have cat3 : catK (s.take p') (insL (c.filter notNl)) = some (.str (s.take p' ++ insL (c.filter notNl))) := catK_ok (by rw [List.length_take]; omega)
            have cat4 : catK (s.take p' ++ insL (c.filter notNl)) (s.drop p') = some (.str (s.take p' ++ (insL (c.filter notNl) ++ s.drop p'))) := by
              rw [catK_ok (by rw [List.length_append, List.length_take, List.length_drop]; omega), List.append_assoc]
            have sl1 : slSA s none (some (.int .i64 x.pos)) = some (.str (s.take p')) := by rw [hp]; exact slSA_hi hps
            have sl2 : slSA s (some (.int .i64 x.pos)) none = some (.str (s.drop p')) := by rw [hp]; exact slSA_lo hps
            generalize hI : insL (c.filter notNl) = I at *
            have t2 := Tokens_pure (s.take p' ++ (I ++ s.drop p'))
            rw [show lexP (s.take p' ++ (I ++ s.drop p')) = (movedT k I.length l, 0, 0) by
              rw [lexP, if_neg (by rw [List.length_append, List.length_append, List.length_take, List.length_drop]; omega), hlex]; rfl] at t2
            simp only at t2
            have hsm := rSame_pure (O := lexC) l (movedT k I.length l) (by omega) (by rw [movedT_len]; omega) .no .no false
            rw [same_moved] at hsm
            repeat' (first | ((with_reducible refine PureCall.step (t2) ?_); simp -implicitDefEqProofs only [go_sem, Nat.reduceAdd, Nat.reduceLeDiff, Nat.reduceEqDiff, Nat.reduceBEq, Nat.reduceLT, cat1, cat2, cat3, cat4, ix, sl1, sl2, z0]) | ((with_reducible refine PureCall.step (hsm) ?_); simp -implicitDefEqProofs only [go_sem, Nat.reduceAdd, Nat.reduceLeDiff, Nat.reduceEqDiff, Nat.reduceBEq, Nat.reduceLT, cat1, cat2, cat3, cat4, ix, sl1, sl2, z0]) | (refine wpC_split rfl rfl (fun h => ?_) (fun h => ?_) <;> (try simp -implicitDefEqProofs only [go_sem, Nat.reduceAdd, Nat.reduceLeDiff, Nat.reduceEqDiff, Nat.reduceBEq, Nat.reduceLT, h, cat1, cat2, cat3, cat4, ix, sl1, sl2, z0])) | (refine plan_split rfl rfl (fun h => ?_) (fun h => ?_) <;> simp -implicitDefEqProofs only [go_sem, Nat.reduceAdd, Nat.reduceLeDiff, Nat.reduceEqDiff, Nat.reduceBEq, Nat.reduceLT, h, cat1, cat2, cat3, cat4, ix, sl1, sl2, z0]) | (refine planD_split rfl rfl (fun h => ?_) (fun h => ?_) <;> simp -implicitDefEqProofs only [go_sem, Nat.reduceAdd, Nat.reduceLeDiff, Nat.reduceEqDiff, Nat.reduceBEq, Nat.reduceLT, h, cat1, cat2, cat3, cat4, ix, sl1, sl2, z0]) | (refine go ?_; try simp -implicitDefEqProofs only [go_sem, Nat.reduceAdd, Nat.reduceLeDiff, Nat.reduceEqDiff, Nat.reduceBEq, Nat.reduceLT, cat1, cat2, cat3, cat4, ix, sl1, sl2, z0]) | ((with_reducible refine wpC_id ?_); simp -implicitDefEqProofs only [go_sem, Nat.reduceAdd, Nat.reduceLeDiff, Nat.reduceEqDiff, Nat.reduceBEq, Nat.reduceLT, cat1, cat2, cat3, cat4, ix, sl1, sl2, z0]) | ((with_reducible first | refine quiet_id ?_ | refine wrote_id ?_ | refine resQ_id ?_); simp -implicitDefEqProofs only [go_sem, Nat.reduceAdd, Nat.reduceLeDiff, Nat.reduceEqDiff, Nat.reduceBEq, Nat.reduceLT, cat1, cat2, cat3, cat4, ix, sl1, sl2, z0]) | fail)
            rw [wpC_loop]
            refine AC.loop (fun n st => ∃ i : Nat, i + n = l.length ∧ st = ⟨mk 169 [(1, .int .i64 (k : Int)), (7, .sl (tokRows l) .no), (12, .str I), (13, .sl (tokRows (movedT k I.length l)) .no), (144, .int .i64 (rLen (tokRows l))), (145, .int .i64 (i : Int))], H, []⟩) l.length ⟨0, by omega, rfl⟩ ?_
            rintro n _ ⟨i, hi, rfl⟩
            simp -implicitDefEqProofs only [go_sem, Nat.reduceAdd, Nat.reduceLeDiff, Nat.reduceEqDiff, Nat.reduceBEq, Nat.reduceLT, l_LawComment_1]
            refine go ?_; simp -implicitDefEqProofs only [go_sem, Nat.reduceAdd, Nat.reduceLeDiff, Nat.reduceEqDiff, Nat.reduceBEq, Nat.reduceLT]
            refine go ?_
            refine wpC_split rfl rfl (fun h => ?_) (fun h => ?_) <;> simp -implicitDefEqProofs only [go_sem, Nat.reduceAdd, Nat.reduceLeDiff, Nat.reduceEqDiff, Nat.reduceBEq, Nat.reduceLT]
            · have hlt := iLt_true.1 h
              rw [rLen_tok] at hlt
              obtain ⟨d, hd⟩ : ∃ d, l[i]? = some d := ⟨_, List.getElem?_eq_getElem (by omega)⟩
              have e : wAdd .i64 (i : Int) 1 = ((i + 1 : Nat) : Int) := by rw [wAdd_i64] <;> omega
              have hd2 := movedT_at (k := k) (n := I.length) hd
              obtain ⟨q, hq, hqs⟩ : ∃ q : Nat, d.pos = q ∧ q ≤ s.length := by
                obtain ⟨ts, h1, rfl⟩ := lexE_tokens.1 hE
                rw [List.getElem?_map, Option.map_eq_some_iff] at hd
                obtain ⟨y, hy, rfl⟩ := hd
                exact ⟨s.length - y.2.2, rfl, by omega⟩
              have e2 : wAdd .i64 d.pos (sLen I) = d.pos + (I.length : Int) := by rw [sLen_eq, wAdd_i64] <;> omega
              by_cases hik : i < k
              · rw [if_pos hik] at hd2
                have h3 : iLe (k : Int) (i : Int) = false := by rw [iLe_false]; omega
                repeat' (first | (refine wpC_split rfl rfl (fun h => ?_) (fun h => ?_) <;> (try simp -implicitDefEqProofs only [go_sem, Nat.reduceAdd, Nat.reduceLeDiff, Nat.reduceEqDiff, Nat.reduceBEq, Nat.reduceLT, h, iaddrA_tok hd, iaddrA_tok hd2, h3, e, e2])) | (refine plan_split rfl rfl (fun h => ?_) (fun h => ?_) <;> simp -implicitDefEqProofs only [go_sem, Nat.reduceAdd, Nat.reduceLeDiff, Nat.reduceEqDiff, Nat.reduceBEq, Nat.reduceLT, h, iaddrA_tok hd, iaddrA_tok hd2, h3, e, e2]) | (refine planD_split rfl rfl (fun h => ?_) (fun h => ?_) <;> simp -implicitDefEqProofs only [go_sem, Nat.reduceAdd, Nat.reduceLeDiff, Nat.reduceEqDiff, Nat.reduceBEq, Nat.reduceLT, h, iaddrA_tok hd, iaddrA_tok hd2, h3, e, e2]) | (refine go ?_; try simp -implicitDefEqProofs only [go_sem, Nat.reduceAdd, Nat.reduceLeDiff, Nat.reduceEqDiff, Nat.reduceBEq, Nat.reduceLT, iaddrA_tok hd, iaddrA_tok hd2, h3, e, e2]) | ((with_reducible refine wpC_id ?_); simp -implicitDefEqProofs only [go_sem, Nat.reduceAdd, Nat.reduceLeDiff, Nat.reduceEqDiff, Nat.reduceBEq, Nat.reduceLT, iaddrA_tok hd, iaddrA_tok hd2, h3, e, e2]) | ((with_reducible first | refine quiet_id ?_ | refine wrote_id ?_ | refine resQ_id ?_); simp -implicitDefEqProofs only [go_sem, Nat.reduceAdd, Nat.reduceLeDiff, Nat.reduceEqDiff, Nat.reduceBEq, Nat.reduceLT, iaddrA_tok hd, iaddrA_tok hd2, h3, e, e2]) | fail)
                exact ⟨n - 1, by omega, i + 1, by omega, rfl⟩
              · rw [if_neg hik] at hd2
                have h3 : iLe (k : Int) (i : Int) = true := by rw [iLe_true]; omega
                repeat' (first | (refine wpC_split rfl rfl (fun h => ?_) (fun h => ?_) <;> (try simp -implicitDefEqProofs only [go_sem, Nat.reduceAdd, Nat.reduceLeDiff, Nat.reduceEqDiff, Nat.reduceBEq, Nat.reduceLT, h, iaddrA_tok hd, iaddrA_tok hd2, h3, e, e2])) | (refine plan_split rfl rfl (fun h => ?_) (fun h => ?_) <;> simp -implicitDefEqProofs only [go_sem, Nat.reduceAdd, Nat.reduceLeDiff, Nat.reduceEqDiff, Nat.reduceBEq, Nat.reduceLT, h, iaddrA_tok hd, iaddrA_tok hd2, h3, e, e2]) | (refine planD_split rfl rfl (fun h => ?_) (fun h => ?_) <;> simp -implicitDefEqProofs only [go_sem, Nat.reduceAdd, Nat.reduceLeDiff, Nat.reduceEqDiff, Nat.reduceBEq, Nat.reduceLT, h, iaddrA_tok hd, iaddrA_tok hd2, h3, e, e2]) | (refine go ?_; try simp -implicitDefEqProofs only [go_sem, Nat.reduceAdd, Nat.reduceLeDiff, Nat.reduceEqDiff, Nat.reduceBEq, Nat.reduceLT, iaddrA_tok hd, iaddrA_tok hd2, h3, e, e2]) | ((with_reducible refine wpC_id ?_); simp -implicitDefEqProofs only [go_sem, Nat.reduceAdd, Nat.reduceLeDiff, Nat.reduceEqDiff, Nat.reduceBEq, Nat.reduceLT, iaddrA_tok hd, iaddrA_tok hd2, h3, e, e2]) | ((with_reducible first | refine quiet_id ?_ | refine wrote_id ?_ | refine resQ_id ?_); simp -implicitDefEqProofs only [go_sem, Nat.reduceAdd, Nat.reduceLeDiff, Nat.reduceEqDiff, Nat.reduceBEq, Nat.reduceLT, iaddrA_tok hd, iaddrA_tok hd2, h3, e, e2]) | fail)
                exact ⟨n - 1, by omega, i + 1, by omega, rfl⟩
            · repeat' (first | ((with_reducible refine PureCall.step (awake_pure) ?_); simp -implicitDefEqProofs only [go_sem, Nat.reduceAdd, Nat.reduceLeDiff, Nat.reduceEqDiff, Nat.reduceBEq, Nat.reduceLT]) | (refine wpC_split rfl rfl (fun h => ?_) (fun h => ?_) <;> (try simp -implicitDefEqProofs only [go_sem, Nat.reduceAdd, Nat.reduceLeDiff, Nat.reduceEqDiff, Nat.reduceBEq, Nat.reduceLT, h])) | (refine plan_split rfl rfl (fun h => ?_) (fun h => ?_) <;> simp -implicitDefEqProofs only [go_sem, Nat.reduceAdd, Nat.reduceLeDiff, Nat.reduceEqDiff, Nat.reduceBEq, Nat.reduceLT, h]) | (refine planD_split rfl rfl (fun h => ?_) (fun h => ?_) <;> simp -implicitDefEqProofs only [go_sem, Nat.reduceAdd, Nat.reduceLeDiff, Nat.reduceEqDiff, Nat.reduceBEq, Nat.reduceLT, h]) | (refine go ?_; try simp -implicitDefEqProofs only [go_sem, Nat.reduceAdd, Nat.reduceLeDiff, Nat.reduceEqDiff, Nat.reduceBEq, Nat.reduceLT]) | ((with_reducible refine wpC_id ?_); simp -implicitDefEqProofs only [go_sem, Nat.reduceAdd, Nat.reduceLeDiff, Nat.reduceEqDiff, Nat.reduceBEq, Nat.reduceLT]) | ((with_reducible first | refine quiet_id ?_ | refine wrote_id ?_ | refine resQ_id ?_); simp -implicitDefEqProofs only [go_sem, Nat.reduceAdd, Nat.reduceLeDiff, Nat.reduceEqDiff, Nat.reduceBEq, Nat.reduceLT]) | fail)

end Go.Proofs.YtkcljempplchkaaDoor

/- The strings.Builder's String and copyCheck, walked with the kit's tactics: the worlds behind them, exactly. -/
set_option maxRecDepth 100000
set_option linter.unusedVariables false
set_option linter.unusedSimpArgs false
set_option maxHeartbeats 1000000
namespace Go.Proofs
open Go.Shelf Go.RowKit

theorem Tryd.string_row (w : World) (b g cap n0 : Nat) (p : Value) (bt : TypeId) (cur : Array Value) (l : List UInt8) (h0 : l ≠ []) (hcap : l.length ≤ cap) (hl : l.length ≤ 9223372036854775807) (hn : l.length ≤ cur.size)
    (hb : w.heap[b]? = some (.cells #[p, .slice (some ⟨g, 0, none⟩) l.length cap] bt (0, 0))) (hg : w.heap[g]? = some (.cells cur 5 (0, 0))) (hc : ∀ j x, l[j]? = some x → w.cell? ⟨g, j, none⟩ = some (.int .u8 x.toNat)) :
    Calls Tryd.prog 49 #[.pointer (some ⟨b, 0, none⟩)] w fun e w' => e = .returned (.string ⟨l.toArray⟩) ∧ w' = w.drew.freeze ⟨g, 0, none⟩ l.length := by
  have hl0 : l.length ≠ 0 := by simpa using h0
  have c1 : w.drew.cell? ⟨b, 1, none⟩ = some (.slice (some ⟨g, 0, none⟩) l.length cap) := by
    have : w.drew.heap[b]? = some (.cells #[p, .slice (some ⟨g, 0, none⟩) l.length cap] bt (0, 0)) := hb
    rw [Lib.cell_of_heap this]; rfl
  have hSD : (Builtin.unsafeSliceData_ #[63] 79 #[.slice (some ⟨g, 0, none⟩) l.length cap]).run Tryd.prog w.drew = .ok (.pointer (some ⟨g, 0, none⟩)) w.drew :=
    Lib.run_unsafeSliceData_row _ _ _ _ _ _ (by omega)
  have hUS : (Builtin.unsafeString_ #[79, 3] 9 #[.pointer (some ⟨g, 0, none⟩), .int .i64 l.length]).run Tryd.prog w.drew = .ok (.string ⟨l.toArray⟩) (w.drew.freeze ⟨g, 0, none⟩ l.length) := by
    refine Lib.run_unsafeString_row w.drew 79 3 9 5 Tryd.underlying79 Tryd.Builder_Extra_169.cellsByte g cur.size (by have hg' : w.drew.heap[g]? = some (.cells cur 5 (0, 0)) := hg; simp [World.shape?, hg']) l h0 hn hl ?_
    intro j x hx
    have := hc j x hx
    rw [Addr.add_lit, Nat.zero_add]; exact this
  have mixed := Tryd.lays169.mixed
  go_enter Tryd.func49, Tryd.ntmps49
  go_wp2
  go_region_o
  all_goals (go_wp2; go_ret; exact ⟨rfl, rfl⟩)

theorem Tryd.string_none (w : World) (b : Nat) (p : Value) (bt : TypeId) (hb : w.heap[b]? = some (.cells #[p, .slice none 0 0] bt (0, 0))) :
    Calls Tryd.prog 49 #[.pointer (some ⟨b, 0, none⟩)] w fun e w' => e = .returned (.string .empty) ∧ w' = w.drew := by
  have hUS := fun (W : World) (q : Option Addr) => Lib.run_unsafeString_none (P := Tryd.prog) W 79 3 9 q
  have c1 : w.drew.cell? ⟨b, 1, none⟩ = some (.slice none 0 0) := by
    have : w.drew.heap[b]? = some (.cells #[p, .slice none 0 0] bt (0, 0)) := hb
    rw [Lib.cell_of_heap this]; rfl
  have hSD : (Builtin.unsafeSliceData_ #[63] 79 #[.slice none 0 0]).run Tryd.prog w.drew = .ok (.pointer none) w.drew := rfl
  have mixed := Tryd.lays169.mixed
  go_enter Tryd.func49, Tryd.ntmps49
  go_wp2
  go_region_o
  all_goals (go_wp2; go_ret; exact ⟨rfl, rfl⟩)

theorem Tryd.copyCheck_used (w : World) (b : Nat) (h0 : w.cell? ⟨b, 0, none⟩ = some (.pointer (some ⟨b, 0, none⟩))) :
    Calls Tryd.prog 69 #[.pointer (some ⟨b, 0, none⟩)] w fun e w' => e = .returned (.tuple #[]) ∧ w' = w := by
  obtain ⟨j, hj, _⟩ := Option.map_eq_some_iff.1 Tryd.Builder_Extra_169.sizeBuilder
  go_enter Tryd.func69, Tryd.ntmps69
  go_wp2
  rw [Lib.run_neq_ptr_same w _ Tryd.underlying62 hj]
  go_wp2
  go_end0
  exact ⟨rfl, rfl⟩

theorem Tryd.copyCheck_fresh (w : World) (b : Nat) (h0 : w.cell? ⟨b, 0, none⟩ = some (.pointer none)) (hsh : w.shape? b = some (65, 2)) (hfz : w.frozen? ⟨b, 0, none⟩ = false) :
    Calls Tryd.prog 69 #[.pointer (some ⟨b, 0, none⟩)] w fun e w' => e = .returned (.tuple #[]) ∧ w' = w.setCell ⟨b, 0, none⟩ (.pointer (some ⟨b, 0, none⟩)) := by
  obtain ⟨j, hj, hjs⟩ := Option.map_eq_some_iff.1 Tryd.Builder_Extra_169.sizeBuilder
  go_enter Tryd.func69, Tryd.ntmps69
  go_wp2
  rw [Lib.run_to_unsafe w ⟨b, 0, none⟩ Tryd.underlying62 Tryd.underlying84 hj (by rw [hjs]; decide) hsh (Nat.zero_lt_succ 1)]
  simp only [Result.andThen]
  rw [Oper.upon_value]
  go_wp2
  rw [run_callFunc_extern Tryd.func80 (by kernel_rfl) (by kernel_rfl) (by kernel_rfl) (e := Extern.AbiNoEscape.same) (by kernel_rfl)]
  rw [Lib.run_noEscape]
  simp only [Result.andThen]
  rw [Oper.upon_value]
  go_wp2
  rw [Lib.run_from_unsafe w ⟨b, 0, none⟩ Tryd.underlying84 Tryd.underlying62 hj hsh Tryd.Builder_Extra_169.liesBuilder]
  simp only [Result.andThen]
  rw [Oper.upon_value]
  go_wp2
  go_end0
  exact ⟨rfl, rfl⟩

end Go.Proofs

/- The strings.Builder in the engine: copyCheck, WriteByte, WriteString, String. -/
set_option maxRecDepth 100000
set_option linter.unusedVariables false
set_option linter.unusedSimpArgs false
namespace Go.Eng
open Go.RowKit (Below)

/-- A token's row is frozen, and the token given up. -/
theorem Wr.dropTok {base : Nat} {w0 : World} {H : Hp} {G : Gh} {w : World} (h : Wr base w0 H G w) {id b n sz : Nat} {o : Option TypeId} (hH : H id = some (.tok n sz o)) (hst : G.st id = .tok b n sz) (hf : G.fr b = some (n * sz)) (hb : base ≤ b) {c : Array Value} {ty : TypeId} {fz fz' : Nat × Nat}
    (hc : w.heap[b]? = some (.cells c ty fz)) (w' : World) (hw : w'.heap = w.heap.setIfInBounds b (.cells c ty fz')) (h1 : w'.os = w.os) (h2 : w'.tape = w.tape) (h3 : w'.output = w.output) :
    Wr base w0 (fun j => if j = id then none else H j) G w' ∧ GExt G w G w' ∧ Fr H G w (fun j => if j = id then none else H j) G w' := by
  have hlt : b < w.heap.size := (Array.getElem?_eq_some_iff.1 hc).1
  have hne : ∀ k, k ≠ b → w'.heap[k]? = w.heap[k]? := fun k hk => by rw [hw, Array.getElem?_setIfInBounds, if_neg (by omega)]
  have hcb : w'.heap[b]? = some (.cells c ty fz') := by rw [hw, Array.getElem?_setIfInBounds]; simp [hlt]
  have hsz : w'.heap.size = w.heap.size := by rw [hw]; simp
  have hd : ∀ i o, (fun j => if j = id then none else H j) i = some o → i ≠ id ∧ H i = some o := fun i o hi => by
    simp only at hi
    split at hi
    · cases hi
    · exact ⟨by assumption, hi⟩
  have hn : ∀ i, (fun j => if j = id then none else H j) i ≠ none → i ≠ id ∧ H i ≠ none := fun i hi => by
    cases hh : (fun j => if j = id then none else H j) i with
    | none => exact absurd hh hi
    | some o => obtain ⟨a, b⟩ := hd i o hh; exact ⟨a, by rw [b]; simp⟩
  have x : GExt G w G w' := {
    size := by rw [hsz]; exact Nat.le_refl _
    shape := fun k hk => by
      by_cases e : k = b
      · subst e; simp only [World.shape?, hcb, hc]
      · exact shape?_of_heap (hne k e)
    imm := fun k hk hfk => ⟨hfk, hne k (fun e => by rw [e, hf] at hfk; cases hfk)⟩
    own := fun k m hk hfk => ⟨fun n' hn' => by rw [hfk] at hn'; cases hn'; exact Nat.le_refl _, fun o ho => by
      by_cases e : k = b
      · subst e; simp only [World.cell?, hcb, hc]
      · exact cell?_of_heap (hne k e)⟩
    obj := fun _ _ h => h
    dead := fun _ h => h
    tok := fun id b m s h => .inr ⟨b, m, s, h, Nat.le_refl _, fun _ => ⟨rfl, rfl⟩⟩ }
  refine ⟨⟨h.below.trans ⟨h1, h2, h3, by rw [hsz]; exact Nat.le_refl _, fun k hk => hne k (by omega)⟩, by rw [hsz]; exact h.le, h.old, by rw [hsz]; exact h.new, fun i ob hi => ?_, fun i j k hi hj => ?_, h.fresh⟩, x, ⟨fun k hk hu => ⟨hne k fun e => ?_, rfl⟩, fun k hk hu i hi => hu i (hn i hi).2⟩⟩
  · obtain ⟨hi1, hi2⟩ := hd i ob hi
    refine (h.ob i ob hi2).mono x rfl fun k hk => ⟨rfl, hne k fun e => ?_⟩
    subst e
    exact hi1 (h.apart i id k (by rw [hi2]; simp) (by rw [hH]; simp) hk (by rw [hst]; rfl))
  · exact h.apart i j k (hn i hi).2 (hn j hj).2
  · exact hu id (by rw [hH]; simp) (by rw [hst, e]; rfl)

theorem freeze_heap {w : World} {b n : Nat} {c : Array Value} {ty : TypeId} (h : w.heap[b]? = some (.cells c ty (0, 0))) (hn : n ≠ 0) :
    (w.freeze ⟨b, 0, none⟩ n).heap = w.heap.setIfInBounds b (.cells c ty (0, 0 + n)) := by
  obtain ⟨hb, he⟩ := Array.getElem?_eq_some_iff.1 h
  unfold World.freeze
  rw [if_neg hn]
  apply Array.ext
  · simp
  · intro i h1 h2
    simp only [Array.getElem_modify]
    by_cases e : b = i
    · subst e
      simp [he]
    · rw [Array.getElem_setIfInBounds, if_neg e, if_neg e]

end Go.Eng

namespace Go.Proofs.YtkcljempplchkaaDoor
open Go.Eng

theorem reps_2 {G : Gh} {w : World} {a c : AVal} {vs : List Value} (h : Reps G w [a, c] vs) : ∃ u v, vs = [u, v] ∧ Rep G w a u ∧ Rep G w c v := by
  match vs, h with
  | [u, v], h => exact ⟨u, v, rfl, h.2 0 _ _ rfl rfl, h.2 1 _ _ rfl rfl⟩
  | [], h => have := h.1; simp at this
  | [_], h => have := h.1; simp at this
  | _ :: _ :: _ :: _, h => have := h.1; simp at this

theorem copyCheck_calls {O : Cfg} {H : Hp} {i : Nat} {p s : AVal} (hH : H i = some (.cells [p, s] (some 65))) (hp : p = .nilptr ∨ p = .ref i 0) {Q : ARet → Hp → Prop}
    (hQ : Q (.ret (.tup [])) (H.upd i (.cells [.ref i 0, s] (some 65)))) : ACalls O Tryd.prog 69 [.ref i 0] H Q := by
  refine lib_calls Tryd.func69 (by kernel_rfl) (by kernel_rfl) ?_
  intro base w0 G w vs hL hw hvs
  obtain ⟨u, rfl, hu⟩ := reps_one hvs
  obtain ⟨b, rfl, hst⟩ := hu.ref_inv
  obtain ⟨b', us, ty, g1, g2, g3, g4, g5, g6⟩ := hw.ob i _ hH
  rw [hst] at g1; cases g1
  obtain ⟨u0, u1, rfl, r0, r1⟩ := reps_2 g5
  obtain rfl := g6 65 rfl
  rcases hp with rfl | rfl
  · obtain rfl := r0.nilptr_inv
    refine (Tryd.copyCheck_fresh w b (by rw [Lib.cell_of_heap g4]; rfl) (by simp [World.shape?, g4]) (Lib.frozen_of_heap g4 0)).mono ?_
    rintro e w' ⟨rfl, rfl⟩
    obtain ⟨k1, k2⟩ := hw.setOb (ob' := .cells [.ref i 0, s] (some 65)) hH hst g3 g2 g4 (w.setCell ⟨b, 0, none⟩ (.pointer (some ⟨b, 0, none⟩))) (setCell_heap w b 0 _ _ _ _ g4) rfl rfl rfl
      ⟨rfl, by simp⟩ (fun w' hx hb => ⟨b, [.pointer (some ⟨b, 0, none⟩), u1], 65, hst, g2, g3, by simpa using hb, Reps.cons (.ref 0 (hx.obj _ _ hst)) (Reps.cons (r1.mono hx) Reps.nil), fun _ h => by cases h; rfl⟩)
    exact ⟨_, _, G, Rep.tup' Reps.nil, hQ, k1, k2, Fr.setOb hH (by rw [hst]; rfl) (setCell_heap w b 0 _ _ _ _ g4)⟩
  · obtain ⟨b2, rfl, hst2⟩ := r0.ref_inv
    rw [hst] at hst2; cases hst2
    refine (Tryd.copyCheck_used w b (by rw [Lib.cell_of_heap g4]; rfl)).mono ?_
    rintro e w' ⟨rfl, rfl⟩
    rw [Hp.upd_id H hH] at hQ
    exact ⟨_, _, G, Rep.tup' Reps.nil, hQ, hw, GExt.refl _ _, Fr.refl _ _ _⟩

theorem byteRows_len (l : List UInt8) : (byteRows l).length = l.length := by simp [byteRows]
theorem byteRows_flatten (l : List UInt8) : (byteRows l).flatten = l.map fun c => .int .u8 (c.toNat : Int) := by
  unfold byteRows
  induction l with
  | nil => rfl
  | cons x l ih => simp only [List.map_cons, List.flatten_cons, ih]; rfl

/-- String: the bytes that were written; the row is frozen, the token given up. -/
theorem bString_calls {O : Cfg} {H : Hp} {i : Nat} {p : AVal} {l : List UInt8} {t : Tok} {o : Option TypeId} (hH : H i = some (.cells [p, .sl (byteRows l) t] o)) (hl : l.length ≤ 9223372036854775807)
    (ht : (l = [] ∧ t = .nil) ∨ (l ≠ [] ∧ ∃ id, t = .own id 1 ∧ H id = some (.tok l.length 1 (some 5)))) {Q : ARet → Hp → Prop}
    (hQ : ∀ H', (∀ j ob, H j = some ob → t ≠ .own j 1 → H' j = some ob) → Q (.ret (.str l)) H') : ACalls O Tryd.prog 49 [.ref i 0] H Q := by
  refine lib_calls Tryd.func49 (by kernel_rfl) (by kernel_rfl) ?_
  intro base w0 G w vs hL hw hvs
  obtain ⟨u, rfl, hu⟩ := reps_one hvs
  obtain ⟨b, rfl, hst⟩ := hu.ref_inv
  obtain ⟨b', us, ty, g1, g2, g3, g4, g5, g6⟩ := hw.ob i _ hH
  rw [hst] at g1; cases g1
  obtain ⟨u0, u1, rfl, r0, r1⟩ := reps_2 g5
  rcases ht with ⟨rfl, rfl⟩ | ⟨hne, id, rfl, hid⟩
  · obtain ⟨_, rfl⟩ := r1.nil_inv
    refine (Tryd.string_none w b u0 ty g4).mono ?_
    rintro e w' ⟨rfl, rfl⟩
    obtain ⟨k1, k2⟩ := hw.drew
    exact ⟨_, _, G, .str [], hQ H (fun j ob h _ => h), k1, k2, Fr.drew⟩
  · obtain ⟨g, c, ty', k1, k2, k3, k4, k5, k6⟩ := hw.ob id _ hid
    obtain rfl := k6 5 rfl
    rcases r1.sl_inv with ⟨h0, _⟩ | ⟨b2, off, cap, sz, ws, rfl, hsz, hr, him, hb2, hcap, htk⟩ | ⟨h0, _⟩
    · exact absurd (by simpa [byteRows] using h0) hne
    · obtain ⟨he1, htk⟩ := htk
      simp only [k1] at htk
      obtain ⟨-, htk⟩ := htk
      rw [byteRows_len] at htk
      obtain ⟨e1, e2, e3, e'', N, e4, e5⟩ := htk rfl
      subst e1; subst e3
      have hN : N = c.size := by simp only [World.shape?, k4, Option.some.injEq, Prod.mk.injEq] at e4; exact e4.2.symm
      subst hN
      rw [byteRows_flatten] at hr
      rw [byteRows_len] at g4 hcap
      have hl0 : l.length ≠ 0 := by simpa using hne
      refine (Tryd.string_row w b g cap 0 u0 ty c l hne hcap hl (by omega) g4 k4 (fun j x hx => ?_)).mono ?_
      · have hjl : j < ws.length := by
          have := hr.1
          rw [List.length_map] at this
          have := (List.getElem?_eq_some_iff.1 hx).1
          omega
        have hwj : ws[j]? = some ws[j] := List.getElem?_eq_getElem hjl
        have h1 := (him j _ hwj).1
        rw [Nat.zero_add] at h1
        rw [h1]
        have h2 := hr.2 j _ _ (by rw [List.getElem?_map, hx]; rfl) hwj
        rw [h2.int_inv]
      · rintro e w' ⟨rfl, rfl⟩
        obtain ⟨d1, d2⟩ := hw.drew
        obtain ⟨q1, q2, q3⟩ := d1.dropTok hid k1 k3 k2 (w := w.drew) (by exact k4) (w.drew.freeze ⟨g, 0, none⟩ l.length) (freeze_heap (w := w.drew) (by exact k4) hl0) (by simp [World.freeze, hl0]) (by simp [World.freeze, hl0]) (by simp [World.freeze, hl0])
        refine ⟨_, _, G, .str l, hQ _ (fun j ob h hj => ?_), q1, d2.trans q2, Fr.drew.trans (Nat.le_refl _) q3⟩
        exact (if_neg (fun e => hj (by rw [e]))).trans h
    · exact absurd (by simpa [byteRows] using h0) hne

end Go.Proofs.YtkcljempplchkaaDoor

/- MADE BY PROGRAM: one more of the shelf's contracts (as LS: wip/lex/shelfcut.py): strings.Contains of one byte. -/
namespace Go.Proofs
open Go.Shelf
def Tryd.lays144_ren : Go.Shelf.Ren := ⟨fun | 144 => 79 | 143 => 66 | 219 => 78 | 217 => 71 | 225 => 87 | 224 => 88 | 267 => 89 | 266 => 81 | 314 => 98 | n => n, fun | 9 => 9 | 4 => 4 | 3 => 3 | 5 => 5 | 46 => 31 | 146 => 113 | 51 => 91 | n => n, fun | 1 => 1 | n => n⟩
theorem Tryd.lays144 : Go.Proofs.Lays.n144 Tryd.prog Tryd.lays144_ren := {
  mixed := by kernel_rfl
  f143 := Tryd.func66.trans (congrArg some (by kernel_rfl))
  f144 := Tryd.func79.trans (congrArg some (by kernel_rfl))
  f217 := Tryd.func71.trans (congrArg some (by kernel_rfl))
  f219 := Tryd.func78.trans (congrArg some (by kernel_rfl))
  f224 := Tryd.func88.trans (congrArg some (by kernel_rfl))
  f225 := Tryd.func87.trans (congrArg some (by kernel_rfl))
  f266 := Tryd.func81.trans (congrArg some (by kernel_rfl))
  f267 := Tryd.func89.trans (congrArg some (by kernel_rfl))
  f314 := Tryd.func98.trans (congrArg some (by kernel_rfl))
  t3 := Tryd.underlying3
  a3 := Tryd.isAgg3
  z3 := Tryd.sizeOf3
  v3 := Tryd.zeroValue3
  t4 := Tryd.underlying4
  a4 := Tryd.isAgg4
  z4 := Tryd.sizeOf4
  v4 := Tryd.zeroValue4
  t5 := Tryd.underlying5
  a5 := Tryd.isAgg5
  z5 := Tryd.sizeOf5
  v5 := Tryd.zeroValue5
  t9 := Tryd.underlying9
  a9 := Tryd.isAgg9
  z9 := Tryd.sizeOf9
  v9 := Tryd.zeroValue9
  t46 := Tryd.underlying31
  a46 := Tryd.isAgg31
  z46 := Tryd.sizeOf31
  v46 := Tryd.zeroValue31
  t51 := Tryd.underlying91
  a51 := Tryd.isAgg91
  z51 := Tryd.sizeOf91
  v51 := Tryd.zeroValue91
  t146 := Tryd.underlying113
  a146 := Tryd.isAgg113
  z146 := Tryd.sizeOf113
  v146 := Tryd.zeroValue113
  g1 := by kernel_rfl }
open Go.RowKit Go.Lib in
/-- strings.Contains: "Contains reports whether substr is within s.": AT A substr OF ONE BYTE c: IT RETURNS 'decide (0 ≤ Lib.indexByte s c)'; the world is as it was. (LAID: no walk: one application.) -/
theorem Tryd.strings_Contains_one (s : ByteArray) (c : UInt8) (w : World) :
    Calls Tryd.prog 79 #[.string s, .string ⟨#[c]⟩] w fun e w' => e = .returned (.bool (decide (0 ≤ Lib.indexByte s.data.toList c))) ∧ w' = w := Any.strings_Contains_one Tryd.lays144 s c w
end Go.Proofs

/- isSign, isToken: the tool's side of what a token is; the reference's is the same. -/
set_option maxRecDepth 100000
set_option linter.unusedVariables false
set_option linter.unusedSimpArgs false
namespace Go.Proofs.YtkcljempplchkaaDoor
open Go.Eng

theorem Contains_pure {O : Cfg} (s : List UInt8) (c : UInt8) : PureCall O f_sContains [.str s, .str [c]] (.bool (decide (0 ≤ Lib.indexByte s c))) := fun H => by
  refine lib_calls Tryd.func79 (by kernel_rfl) (by kernel_rfl) ?_
  intro base w0 G w vs hL hw hvs
  obtain ⟨u, v, rfl, hu, hv⟩ := reps_2 hvs
  rw [hu.str_inv, hv.str_inv]
  refine (Tryd.strings_Contains_one ⟨s.toArray⟩ c w).mono ?_
  rintro e w' ⟨rfl, rfl⟩
  exact ⟨_, H, G, .bool _, ⟨rfl, rfl⟩, hw, GExt.refl _ _, Fr.refl _ _ _⟩

abbrev signs8 : List UInt8 := [40, 41, 123, 125, 44, 59, 95, 39]
def isSign (s : List UInt8) : Bool := rruns.contains s || rbytes.contains s

theorem contains_signs8 (c : UInt8) : decide (0 ≤ Lib.indexByte signs8 c) = rbytes.contains [c] := by
  have key : ∀ n : Fin 256, decide (0 ≤ Lib.indexByte signs8 (UInt8.ofNat n.val)) = rbytes.contains [UInt8.ofNat n.val] := by decide +kernel
  have := key ⟨c.toNat, c.toNat_lt⟩
  simpa using this

theorem isSign_pure (s : List UInt8) : PureCall lexC f_isSign [.str s] (.bool (isSign s)) := fun H => by
  refine entry h_isSign rfl ?_; simp -implicitDefEqProofs only [go_sem, Nat.reduceAdd, Nat.reduceLeDiff, Nat.reduceEqDiff, Nat.reduceBEq, Nat.reduceLT, c_isSign]
  refine go ?_; simp -implicitDefEqProofs only [go_sem, Nat.reduceAdd, Nat.reduceLeDiff, Nat.reduceEqDiff, Nat.reduceBEq, Nat.reduceLT]
  refine PureCall.step (reserved_pure s) ?_
  rw [reserved_eq]
  cases h : rruns.contains s with
  | true =>
    simp -implicitDefEqProofs only [go_sem, Nat.reduceAdd, Nat.reduceLeDiff, Nat.reduceEqDiff, Nat.reduceBEq, Nat.reduceLT]
    repeat' (first | (refine wpC_split rfl rfl (fun h => ?_) (fun h => ?_) <;> (try simp -implicitDefEqProofs only [go_sem, Nat.reduceAdd, Nat.reduceLeDiff, Nat.reduceEqDiff, Nat.reduceBEq, Nat.reduceLT, h])) | (refine plan_split rfl rfl (fun h => ?_) (fun h => ?_) <;> simp -implicitDefEqProofs only [go_sem, Nat.reduceAdd, Nat.reduceLeDiff, Nat.reduceEqDiff, Nat.reduceBEq, Nat.reduceLT, h]) | (refine planD_split rfl rfl (fun h => ?_) (fun h => ?_) <;> simp -implicitDefEqProofs only [go_sem, Nat.reduceAdd, Nat.reduceLeDiff, Nat.reduceEqDiff, Nat.reduceBEq, Nat.reduceLT, h]) | (refine go ?_; try simp -implicitDefEqProofs only [go_sem, Nat.reduceAdd, Nat.reduceLeDiff, Nat.reduceEqDiff, Nat.reduceBEq, Nat.reduceLT]) | ((with_reducible refine wpC_id ?_); simp -implicitDefEqProofs only [go_sem, Nat.reduceAdd, Nat.reduceLeDiff, Nat.reduceEqDiff, Nat.reduceBEq, Nat.reduceLT]) | ((with_reducible first | refine quiet_id ?_ | refine wrote_id ?_ | refine resQ_id ?_); simp -implicitDefEqProofs only [go_sem, Nat.reduceAdd, Nat.reduceLeDiff, Nat.reduceEqDiff, Nat.reduceBEq, Nat.reduceLT]) | fail)
    have e : isSign s = true := by rw [isSign, h]; rfl
    rw [e]
  | false =>
    by_cases hl : s.length = 1
    · obtain ⟨c, rfl⟩ := List.length_eq_one_iff.1 hl
      have e1 : iEq (sLen [c]) 1 = true := by rw [sLen_eq, iEq_true]; rfl
      simp -implicitDefEqProofs only [go_sem, Nat.reduceAdd, Nat.reduceLeDiff, Nat.reduceEqDiff, Nat.reduceBEq, Nat.reduceLT, e1]
      repeat' (first | ((with_reducible refine PureCall.step (Contains_pure signs8 c) ?_); simp -implicitDefEqProofs only [go_sem, Nat.reduceAdd, Nat.reduceLeDiff, Nat.reduceEqDiff, Nat.reduceBEq, Nat.reduceLT, e1]) | (refine wpC_split rfl rfl (fun h => ?_) (fun h => ?_) <;> (try simp -implicitDefEqProofs only [go_sem, Nat.reduceAdd, Nat.reduceLeDiff, Nat.reduceEqDiff, Nat.reduceBEq, Nat.reduceLT, h, e1])) | (refine plan_split rfl rfl (fun h => ?_) (fun h => ?_) <;> simp -implicitDefEqProofs only [go_sem, Nat.reduceAdd, Nat.reduceLeDiff, Nat.reduceEqDiff, Nat.reduceBEq, Nat.reduceLT, h, e1]) | (refine planD_split rfl rfl (fun h => ?_) (fun h => ?_) <;> simp -implicitDefEqProofs only [go_sem, Nat.reduceAdd, Nat.reduceLeDiff, Nat.reduceEqDiff, Nat.reduceBEq, Nat.reduceLT, h, e1]) | (refine go ?_; try simp -implicitDefEqProofs only [go_sem, Nat.reduceAdd, Nat.reduceLeDiff, Nat.reduceEqDiff, Nat.reduceBEq, Nat.reduceLT, e1]) | ((with_reducible refine wpC_id ?_); simp -implicitDefEqProofs only [go_sem, Nat.reduceAdd, Nat.reduceLeDiff, Nat.reduceEqDiff, Nat.reduceBEq, Nat.reduceLT, e1]) | ((with_reducible first | refine quiet_id ?_ | refine wrote_id ?_ | refine resQ_id ?_); simp -implicitDefEqProofs only [go_sem, Nat.reduceAdd, Nat.reduceLeDiff, Nat.reduceEqDiff, Nat.reduceBEq, Nat.reduceLT, e1]) | fail)
      have e : isSign [c] = rbytes.contains [c] := by rw [isSign, h]; rfl
      rw [e, contains_signs8]
    · have e1 : iEq (sLen s) 1 = false := by rw [sLen_eq, iEq_false]; omega
      have e2 : rbytes.contains s = false := by
        rw [← Bool.not_eq_true]
        intro hh
        have : s ∈ rbytes := by simpa using hh
        simp [rbytes] at this
        rcases this with rfl | rfl | rfl | rfl | rfl | rfl | rfl | rfl <;> exact hl rfl
      simp -implicitDefEqProofs only [go_sem, Nat.reduceAdd, Nat.reduceLeDiff, Nat.reduceEqDiff, Nat.reduceBEq, Nat.reduceLT, e1]
      repeat' (first | (refine wpC_split rfl rfl (fun h => ?_) (fun h => ?_) <;> (try simp -implicitDefEqProofs only [go_sem, Nat.reduceAdd, Nat.reduceLeDiff, Nat.reduceEqDiff, Nat.reduceBEq, Nat.reduceLT, h, e1])) | (refine plan_split rfl rfl (fun h => ?_) (fun h => ?_) <;> simp -implicitDefEqProofs only [go_sem, Nat.reduceAdd, Nat.reduceLeDiff, Nat.reduceEqDiff, Nat.reduceBEq, Nat.reduceLT, h, e1]) | (refine planD_split rfl rfl (fun h => ?_) (fun h => ?_) <;> simp -implicitDefEqProofs only [go_sem, Nat.reduceAdd, Nat.reduceLeDiff, Nat.reduceEqDiff, Nat.reduceBEq, Nat.reduceLT, h, e1]) | (refine go ?_; try simp -implicitDefEqProofs only [go_sem, Nat.reduceAdd, Nat.reduceLeDiff, Nat.reduceEqDiff, Nat.reduceBEq, Nat.reduceLT, e1]) | ((with_reducible refine wpC_id ?_); simp -implicitDefEqProofs only [go_sem, Nat.reduceAdd, Nat.reduceLeDiff, Nat.reduceEqDiff, Nat.reduceBEq, Nat.reduceLT, e1]) | ((with_reducible first | refine quiet_id ?_ | refine wrote_id ?_ | refine resQ_id ?_); simp -implicitDefEqProofs only [go_sem, Nat.reduceAdd, Nat.reduceLeDiff, Nat.reduceEqDiff, Nat.reduceBEq, Nat.reduceLT, e1]) | fail)
      have e : isSign s = false := by rw [isSign, h, e2]; rfl
      rw [e]

theorem isToken_pure (t : Token) (hl : t.text.length ≤ 281474976710656) : PureCall lexC f_isToken [tokA t] (.bool (isKind t.kind t.text)) := by
  refine entryF h_isToken rfl fun H => ?_; simp -implicitDefEqProofs only [go_sem, Nat.reduceAdd, Nat.reduceLeDiff, Nat.reduceEqDiff, Nat.reduceBEq, Nat.reduceLT, c_isToken]
  refine ⟨rfl, fun id hid => ?_⟩
  simp -implicitDefEqProofs only [go_sem, Nat.reduceAdd, Nat.reduceLeDiff, Nat.reduceEqDiff, Nat.reduceBEq, Nat.reduceLT, tokA, tokRow]
  refine go ?_; simp -implicitDefEqProofs only [go_sem, Nat.reduceAdd, Nat.reduceLeDiff, Nat.reduceEqDiff, Nat.reduceBEq, Nat.reduceLT]
  refine go ?_; simp -implicitDefEqProofs only [go_sem, Nat.reduceAdd, Nat.reduceLeDiff, Nat.reduceEqDiff, Nat.reduceBEq, Nat.reduceLT]
  repeat' (first
    | (refine PureCall.step (IsSmall_pure _) ?_; simp -implicitDefEqProofs only [go_sem, Nat.reduceAdd, Nat.reduceLeDiff, Nat.reduceEqDiff, Nat.reduceBEq, Nat.reduceLT])
    | (refine PureCall.step (IsCapital_pure _) ?_; simp -implicitDefEqProofs only [go_sem, Nat.reduceAdd, Nat.reduceLeDiff, Nat.reduceEqDiff, Nat.reduceBEq, Nat.reduceLT])
    | (refine PureCall.step (IsOp_pure _) ?_; simp -implicitDefEqProofs only [go_sem, Nat.reduceAdd, Nat.reduceLeDiff, Nat.reduceEqDiff, Nat.reduceBEq, Nat.reduceLT])
    | (refine PureCall.step (number_pure _ hl) ?_; simp -implicitDefEqProofs only [go_sem, Nat.reduceAdd, Nat.reduceLeDiff, Nat.reduceEqDiff, Nat.reduceBEq, Nat.reduceLT])
    | (refine PureCall.step (isSign_pure _) ?_; simp -implicitDefEqProofs only [go_sem, Nat.reduceAdd, Nat.reduceLeDiff, Nat.reduceEqDiff, Nat.reduceBEq, Nat.reduceLT])
    | (refine PureCall.step (isWord_pure _) ?_; simp -implicitDefEqProofs only [go_sem, Nat.reduceAdd, Nat.reduceLeDiff, Nat.reduceEqDiff, Nat.reduceBEq, Nat.reduceLT])
    | (refine wpC_split rfl rfl (fun h => ?_) (fun h => ?_) <;> simp -implicitDefEqProofs only [go_sem, Nat.reduceAdd, Nat.reduceLeDiff, Nat.reduceEqDiff, Nat.reduceBEq, Nat.reduceLT])
    | (refine plan_split rfl rfl (fun h => ?_) (fun h => ?_) <;> simp -implicitDefEqProofs only [go_sem, Nat.reduceAdd, Nat.reduceLeDiff, Nat.reduceEqDiff, Nat.reduceBEq, Nat.reduceLT, h])
    | (refine planD_split rfl rfl (fun h => ?_) (fun h => ?_) <;> simp -implicitDefEqProofs only [go_sem, Nat.reduceAdd, Nat.reduceLeDiff, Nat.reduceEqDiff, Nat.reduceBEq, Nat.reduceLT, h])
    | (refine go ?_; try simp -implicitDefEqProofs only [go_sem, Nat.reduceAdd, Nat.reduceLeDiff, Nat.reduceEqDiff, Nat.reduceBEq, Nat.reduceLT]) | fail)
  all_goals
    refine ⟨_, rfl, ?_, le_upd hid⟩
    refine wk_of_eq (congrArg AVal.bool ?_)
    simp_all [isKind, IsSmall_eq, IsCapital_eq, IsOp_eq, number_eq, isSign, isWord]

end Go.Proofs.YtkcljempplchkaaDoor

/- Join of the reference: its plain function. -/
set_option maxRecDepth 100000
set_option linter.unusedVariables false
set_option linter.unusedSimpArgs false
namespace Go.Proofs.YtkcljempplchkaaDoor
open Go.Eng

/-- The texts, with blanks between them; none: a token is none. -/
def joinF (acc : List UInt8) (blank : Bool) : List Token → Option (List UInt8)
  | [] => some acc
  | t :: r => if isKind t.kind t.text = true then (if iEq t.kind 7 = true then joinF acc blank r else joinF ((if blank = true then acc ++ [32] else acc) ++ t.text) (bNot (sEq t.text [39])) r) else none

theorem isKind_len {k : Int} {s : List UInt8} (h : isKind k s = true) : s.length ≤ 19 := by
  unfold isKind at h
  have mem : ∀ {l : List (List UInt8)}, l.contains s = true → (∀ x ∈ l, x.length ≤ 19) → s.length ≤ 19 := fun hc hl => hl s (by simpa using hc)
  have l16 : iLe (sLen s) 16 = true → s.length ≤ 19 := fun h => by rw [iLe_true, sLen_eq] at h; omega
  split at h
  · simp only [rIsSmall, Bool.and_eq_true] at h; exact l16 h.1.1.1.2
  · split at h
    · simp only [rIsCapital, Bool.and_eq_true] at h; exact l16 h.1.1.2
    · split at h
      · simp only [rIsOp, Bool.and_eq_true] at h; exact l16 h.1.1.1.2
      · split at h
        · simp only [isNum, Bool.and_eq_true, numHead, Bool.not_eq_true', Bool.or_eq_false_iff] at h
          have := h.1.1.1.2
          rw [iLt_false, sLen_eq] at this
          omega
        · split at h
          · simp only [Bool.or_eq_true] at h
            rcases h with h | h
            · exact mem h (by decide)
            · exact mem h (by decide)
          · split at h
            · exact mem h (by decide)
            · simp only [Bool.and_eq_true] at h
              have := sEq_true.1 h.2
              subst this
              simp

theorem joinF_len : ∀ (l : List Token) (acc : List UInt8) (b : Bool) (s : List UInt8), joinF acc b l = some s → s.length ≤ acc.length + 20 * l.length
  | [], acc, b, s, h => by simp only [joinF, Option.some.injEq] at h; subst h; simp
  | t :: r, acc, b, s, h => by
    unfold joinF at h
    split at h
    · rename_i hk
      have := isKind_len hk
      split at h
      · have := joinF_len r _ _ _ h
        simp only [List.length_cons]; omega
      · have := joinF_len r _ _ _ h
        cases b <;> simp only [if_true, Bool.false_eq_true, if_false, List.length_append, List.length_cons, List.length_nil] at this ⊢ <;> omega
    · cases h

def joinR (o : Option (List UInt8)) : AVal := match o with
  | some s => .tup [.str s, .bool true]
  | none => .tup [.str [], .bool false]

theorem drop_tok {l : List Token} {i : Nat} {d : Token} (h : l[i]? = some d) : l.drop i = d :: l.drop (i + 1) := by
  obtain ⟨h1, h2⟩ := List.getElem?_eq_some_iff.1 h
  rw [List.drop_eq_getElem_cons h1, h2]

theorem rJoin_pure {O : Cfg} (l : List Token) (t : Tok) (hn : l.length * 32 ≤ 140737488355328) : PureCall O f_rJoin [.sl (tokRows l) t] (joinR (joinF [] false l)) := by
  refine entryF h_rJoin rfl fun H => ?_; simp -implicitDefEqProofs only [go_sem, Nat.reduceAdd, Nat.reduceLeDiff, Nat.reduceEqDiff, Nat.reduceBEq, Nat.reduceLT, c_rJoin]
  (refine go ?_; simp -implicitDefEqProofs only [go_sem, Nat.reduceAdd, Nat.reduceLeDiff, Nat.reduceEqDiff, Nat.reduceBEq, Nat.reduceLT]); (refine go ?_; simp -implicitDefEqProofs only [go_sem, Nat.reduceAdd, Nat.reduceLeDiff, Nat.reduceEqDiff, Nat.reduceBEq, Nat.reduceLT])
  refine AC.cut (fun st => ∃ acc b H', H.le H' ∧ joinF [] false l = some acc ∧ st = ⟨mk 32 [(4, .str acc), (5, .bool b), (8, .sl (tokRows l) t), (9, .int .i64 (rLen (tokRows l))), (10, .int .i64 (l.length : Int))], H', []⟩) ?_ ?_
  · refine go ?_; simp -implicitDefEqProofs only [go_sem, Nat.reduceAdd, Nat.reduceLeDiff, Nat.reduceEqDiff, Nat.reduceBEq, Nat.reduceLT]
    refine go ?_; simp -implicitDefEqProofs only [go_sem, Nat.reduceAdd, Nat.reduceLeDiff, Nat.reduceEqDiff, Nat.reduceBEq, Nat.reduceLT]
    rw [wpC_loop]
    refine AC.loop (fun n st => ∃ (j : Nat) (acc : List UInt8) (b : Bool) (H' : Hp), j + n = l.length ∧ H.le H' ∧ acc.length ≤ 20 * j ∧ joinF [] false l = joinF acc b (l.drop j) ∧
      st = ⟨mk 32 [(4, .str acc), (5, .bool b), (8, .sl (tokRows l) t), (9, .int .i64 (rLen (tokRows l))), (10, .int .i64 (j : Int))], H', []⟩) l.length ⟨0, [], false, H, by omega, fun _ _ h => h, by simp, rfl, rfl⟩ ?_
    rintro n _ ⟨j, acc, b, H', hj, hH, hacc, hJ, rfl⟩
    simp -implicitDefEqProofs only [go_sem, Nat.reduceAdd, Nat.reduceLeDiff, Nat.reduceEqDiff, Nat.reduceBEq, Nat.reduceLT, l_rJoin_0]
    refine go ?_; simp -implicitDefEqProofs only [go_sem, Nat.reduceAdd, Nat.reduceLeDiff, Nat.reduceEqDiff, Nat.reduceBEq, Nat.reduceLT]
    refine go ?_
    refine wpC_split rfl rfl (fun h => ?_) (fun h => ?_) <;> simp -implicitDefEqProofs only [go_sem, Nat.reduceAdd, Nat.reduceLeDiff, Nat.reduceEqDiff, Nat.reduceBEq, Nat.reduceLT]
    · have hlt := iLt_true.1 h
      rw [rLen_tok] at hlt
      obtain ⟨d, hd⟩ : ∃ d, l[j]? = some d := ⟨_, List.getElem?_eq_getElem (by omega)⟩
      have e : wAdd .i64 (j : Int) 1 = ((j + 1 : Nat) : Int) := by rw [wAdd_i64] <;> omega
      rw [drop_tok hd] at hJ
      refine go ?_; simp -implicitDefEqProofs only [go_sem, Nat.reduceAdd, Nat.reduceLeDiff, Nat.reduceEqDiff, Nat.reduceBEq, Nat.reduceLT, iaddrA_tok hd]
      intro id hid
      simp -implicitDefEqProofs only [go_sem, Nat.reduceAdd, Nat.reduceLeDiff, Nat.reduceEqDiff, Nat.reduceBEq, Nat.reduceLT]
      refine go ?_; simp -implicitDefEqProofs only [go_sem, Nat.reduceAdd, Nat.reduceLeDiff, Nat.reduceEqDiff, Nat.reduceBEq, Nat.reduceLT]
      refine PureCall.step (rIs_pure' _ _ _) ?_
      simp -implicitDefEqProofs only [go_sem, Nat.reduceAdd, Nat.reduceLeDiff, Nat.reduceEqDiff, Nat.reduceBEq, Nat.reduceLT]
      have hle : H.le (H'.upd id (.cells [.int .i64 d.kind, .str d.text, .int .i64 d.pos])) := fun i o hi => le_upd hid i o (hH i o hi)
      cases hk : isKind d.kind d.text with
      | false =>
        have eJ : joinF [] false l = none := by rw [hJ, joinF, hk]; rfl
        repeat' (first | (refine wpC_split rfl rfl (fun h => ?_) (fun h => ?_) <;> (try simp -implicitDefEqProofs only [go_sem, Nat.reduceAdd, Nat.reduceLeDiff, Nat.reduceEqDiff, Nat.reduceBEq, Nat.reduceLT, h])) | (refine plan_split rfl rfl (fun h => ?_) (fun h => ?_) <;> simp -implicitDefEqProofs only [go_sem, Nat.reduceAdd, Nat.reduceLeDiff, Nat.reduceEqDiff, Nat.reduceBEq, Nat.reduceLT, h]) | (refine planD_split rfl rfl (fun h => ?_) (fun h => ?_) <;> simp -implicitDefEqProofs only [go_sem, Nat.reduceAdd, Nat.reduceLeDiff, Nat.reduceEqDiff, Nat.reduceBEq, Nat.reduceLT, h]) | (refine go ?_; try simp -implicitDefEqProofs only [go_sem, Nat.reduceAdd, Nat.reduceLeDiff, Nat.reduceEqDiff, Nat.reduceBEq, Nat.reduceLT]) | ((with_reducible refine wpC_id ?_); simp -implicitDefEqProofs only [go_sem, Nat.reduceAdd, Nat.reduceLeDiff, Nat.reduceEqDiff, Nat.reduceBEq, Nat.reduceLT]) | ((with_reducible first | refine quiet_id ?_ | refine wrote_id ?_ | refine resQ_id ?_); simp -implicitDefEqProofs only [go_sem, Nat.reduceAdd, Nat.reduceLeDiff, Nat.reduceEqDiff, Nat.reduceBEq, Nat.reduceLT]) | fail)
        rw [eJ]
        exact ⟨_, rfl, .refl _, hle⟩
      | true =>
        have hdl := isKind_len hk
        by_cases h7 : iEq d.kind 7 = true
        · repeat' (first | (refine wpC_split rfl rfl (fun h => ?_) (fun h => ?_) <;> (try simp -implicitDefEqProofs only [go_sem, Nat.reduceAdd, Nat.reduceLeDiff, Nat.reduceEqDiff, Nat.reduceBEq, Nat.reduceLT, h, h7, e])) | (refine plan_split rfl rfl (fun h => ?_) (fun h => ?_) <;> simp -implicitDefEqProofs only [go_sem, Nat.reduceAdd, Nat.reduceLeDiff, Nat.reduceEqDiff, Nat.reduceBEq, Nat.reduceLT, h, h7, e]) | (refine planD_split rfl rfl (fun h => ?_) (fun h => ?_) <;> simp -implicitDefEqProofs only [go_sem, Nat.reduceAdd, Nat.reduceLeDiff, Nat.reduceEqDiff, Nat.reduceBEq, Nat.reduceLT, h, h7, e]) | (refine go ?_; try simp -implicitDefEqProofs only [go_sem, Nat.reduceAdd, Nat.reduceLeDiff, Nat.reduceEqDiff, Nat.reduceBEq, Nat.reduceLT, h7, e]) | ((with_reducible refine wpC_id ?_); simp -implicitDefEqProofs only [go_sem, Nat.reduceAdd, Nat.reduceLeDiff, Nat.reduceEqDiff, Nat.reduceBEq, Nat.reduceLT, h7, e]) | ((with_reducible first | refine quiet_id ?_ | refine wrote_id ?_ | refine resQ_id ?_); simp -implicitDefEqProofs only [go_sem, Nat.reduceAdd, Nat.reduceLeDiff, Nat.reduceEqDiff, Nat.reduceBEq, Nat.reduceLT, h7, e]) | fail)
          exact ⟨n - 1, by omega, j + 1, acc, b, _, by omega, hle, by omega, by rw [hJ, joinF, if_pos hk, if_pos h7], rfl⟩
        · rw [Bool.not_eq_true] at h7
          have c1 : catK acc [32] = some (.str (acc ++ [32])) := catK_ok (by simp; omega)
          have c2 : catK (acc ++ [32]) d.text = some (.str (acc ++ ([32] ++ d.text))) := by rw [catK_ok (by simp; omega), List.append_assoc]
          have c3 : catK acc d.text = some (.str (acc ++ d.text)) := catK_ok (by omega)
          cases b with
          | true =>
            repeat' (first | (refine wpC_split rfl rfl (fun h => ?_) (fun h => ?_) <;> (try simp -implicitDefEqProofs only [go_sem, Nat.reduceAdd, Nat.reduceLeDiff, Nat.reduceEqDiff, Nat.reduceBEq, Nat.reduceLT, h, h7, e, c1, c2])) | (refine plan_split rfl rfl (fun h => ?_) (fun h => ?_) <;> simp -implicitDefEqProofs only [go_sem, Nat.reduceAdd, Nat.reduceLeDiff, Nat.reduceEqDiff, Nat.reduceBEq, Nat.reduceLT, h, h7, e, c1, c2]) | (refine planD_split rfl rfl (fun h => ?_) (fun h => ?_) <;> simp -implicitDefEqProofs only [go_sem, Nat.reduceAdd, Nat.reduceLeDiff, Nat.reduceEqDiff, Nat.reduceBEq, Nat.reduceLT, h, h7, e, c1, c2]) | (refine go ?_; try simp -implicitDefEqProofs only [go_sem, Nat.reduceAdd, Nat.reduceLeDiff, Nat.reduceEqDiff, Nat.reduceBEq, Nat.reduceLT, h7, e, c1, c2]) | ((with_reducible refine wpC_id ?_); simp -implicitDefEqProofs only [go_sem, Nat.reduceAdd, Nat.reduceLeDiff, Nat.reduceEqDiff, Nat.reduceBEq, Nat.reduceLT, h7, e, c1, c2]) | ((with_reducible first | refine quiet_id ?_ | refine wrote_id ?_ | refine resQ_id ?_); simp -implicitDefEqProofs only [go_sem, Nat.reduceAdd, Nat.reduceLeDiff, Nat.reduceEqDiff, Nat.reduceBEq, Nat.reduceLT, h7, e, c1, c2]) | fail)
            exact ⟨n - 1, by omega, j + 1, acc ++ ([32] ++ d.text), _, _, by omega, hle, by simp; omega, by rw [hJ, joinF, if_pos hk, if_neg (by simp [h7]), if_pos rfl, List.append_assoc], rfl⟩
          | false =>
            repeat' (first | (refine wpC_split rfl rfl (fun h => ?_) (fun h => ?_) <;> (try simp -implicitDefEqProofs only [go_sem, Nat.reduceAdd, Nat.reduceLeDiff, Nat.reduceEqDiff, Nat.reduceBEq, Nat.reduceLT, h, h7, e, c3])) | (refine plan_split rfl rfl (fun h => ?_) (fun h => ?_) <;> simp -implicitDefEqProofs only [go_sem, Nat.reduceAdd, Nat.reduceLeDiff, Nat.reduceEqDiff, Nat.reduceBEq, Nat.reduceLT, h, h7, e, c3]) | (refine planD_split rfl rfl (fun h => ?_) (fun h => ?_) <;> simp -implicitDefEqProofs only [go_sem, Nat.reduceAdd, Nat.reduceLeDiff, Nat.reduceEqDiff, Nat.reduceBEq, Nat.reduceLT, h, h7, e, c3]) | (refine go ?_; try simp -implicitDefEqProofs only [go_sem, Nat.reduceAdd, Nat.reduceLeDiff, Nat.reduceEqDiff, Nat.reduceBEq, Nat.reduceLT, h7, e, c3]) | ((with_reducible refine wpC_id ?_); simp -implicitDefEqProofs only [go_sem, Nat.reduceAdd, Nat.reduceLeDiff, Nat.reduceEqDiff, Nat.reduceBEq, Nat.reduceLT, h7, e, c3]) | ((with_reducible first | refine quiet_id ?_ | refine wrote_id ?_ | refine resQ_id ?_); simp -implicitDefEqProofs only [go_sem, Nat.reduceAdd, Nat.reduceLeDiff, Nat.reduceEqDiff, Nat.reduceBEq, Nat.reduceLT, h7, e, c3]) | fail)
            exact ⟨n - 1, by omega, j + 1, acc ++ d.text, _, _, by omega, hle, by simp; omega, by rw [hJ, joinF, if_pos hk, if_neg (by simp [h7]), if_neg (by simp)], rfl⟩
    · have hge := iLt_false.1 h
      rw [rLen_tok] at hge
      have : j = l.length := by omega
      subst this
      rw [List.drop_length] at hJ
      repeat' (first | (refine wpC_split rfl rfl (fun h => ?_) (fun h => ?_) <;> (try simp -implicitDefEqProofs only [go_sem, Nat.reduceAdd, Nat.reduceLeDiff, Nat.reduceEqDiff, Nat.reduceBEq, Nat.reduceLT, h])) | (refine plan_split rfl rfl (fun h => ?_) (fun h => ?_) <;> simp -implicitDefEqProofs only [go_sem, Nat.reduceAdd, Nat.reduceLeDiff, Nat.reduceEqDiff, Nat.reduceBEq, Nat.reduceLT, h]) | (refine planD_split rfl rfl (fun h => ?_) (fun h => ?_) <;> simp -implicitDefEqProofs only [go_sem, Nat.reduceAdd, Nat.reduceLeDiff, Nat.reduceEqDiff, Nat.reduceBEq, Nat.reduceLT, h]) | (refine go ?_; try simp -implicitDefEqProofs only [go_sem, Nat.reduceAdd, Nat.reduceLeDiff, Nat.reduceEqDiff, Nat.reduceBEq, Nat.reduceLT]) | ((with_reducible refine wpC_id ?_); simp -implicitDefEqProofs only [go_sem, Nat.reduceAdd, Nat.reduceLeDiff, Nat.reduceEqDiff, Nat.reduceBEq, Nat.reduceLT]) | ((with_reducible first | refine quiet_id ?_ | refine wrote_id ?_ | refine resQ_id ?_); simp -implicitDefEqProofs only [go_sem, Nat.reduceAdd, Nat.reduceLeDiff, Nat.reduceEqDiff, Nat.reduceBEq, Nat.reduceLT]) | fail)
      exact ⟨acc, b, H', hH, hJ, rfl⟩
  · rintro _ ⟨acc, b, H', hH, hJ, rfl⟩
    rw [hJ]
    repeat' (first | (refine wpC_split rfl rfl (fun h => ?_) (fun h => ?_) <;> (try simp -implicitDefEqProofs only [go_sem, Nat.reduceAdd, Nat.reduceLeDiff, Nat.reduceEqDiff, Nat.reduceBEq, Nat.reduceLT, h])) | (refine plan_split rfl rfl (fun h => ?_) (fun h => ?_) <;> simp -implicitDefEqProofs only [go_sem, Nat.reduceAdd, Nat.reduceLeDiff, Nat.reduceEqDiff, Nat.reduceBEq, Nat.reduceLT, h]) | (refine planD_split rfl rfl (fun h => ?_) (fun h => ?_) <;> simp -implicitDefEqProofs only [go_sem, Nat.reduceAdd, Nat.reduceLeDiff, Nat.reduceEqDiff, Nat.reduceBEq, Nat.reduceLT, h]) | (refine go ?_; try simp -implicitDefEqProofs only [go_sem, Nat.reduceAdd, Nat.reduceLeDiff, Nat.reduceEqDiff, Nat.reduceBEq, Nat.reduceLT]) | ((with_reducible refine wpC_id ?_); simp -implicitDefEqProofs only [go_sem, Nat.reduceAdd, Nat.reduceLeDiff, Nat.reduceEqDiff, Nat.reduceBEq, Nat.reduceLT]) | ((with_reducible first | refine quiet_id ?_ | refine wrote_id ?_ | refine resQ_id ?_); simp -implicitDefEqProofs only [go_sem, Nat.reduceAdd, Nat.reduceLeDiff, Nat.reduceEqDiff, Nat.reduceBEq, Nat.reduceLT]) | fail)
    exact ⟨_, rfl, .refl _, hH⟩

end Go.Proofs.YtkcljempplchkaaDoor

/- The texts of tokens, put together, are read back as the same tokens. -/
set_option maxRecDepth 100000
set_option linter.unusedVariables false
set_option linter.unusedSimpArgs false
namespace Go.Proofs.YtkcljempplchkaaDoor
open Go.Eng

theorem takeWhile_snoc {p : UInt8 → Bool} {x : UInt8} (h : p x = false) : ∀ l : List UInt8, (l ++ [x]).takeWhile p = l.takeWhile p
  | [] => by simp [List.takeWhile_cons, h]
  | c :: l => by
    rw [List.cons_append, List.takeWhile_cons, List.takeWhile_cons, takeWhile_snoc h l]
theorem tokS_blank {v : List UInt8} (hne : v ≠ []) : tokS (v ++ [32]) = tokS v := by
  cases v with
  | nil => exact absurd rfl hne
  | cons c v =>
    have h1 : inName 32 = false := by decide
    have h2 : inOp 32 = false := by decide
    have h3 : inName ((v ++ [32]).headD 0) = inName (v.headD 0) := by cases v <;> rfl
    have h4 : capital ((v ++ [32]).headD 0) = capital (v.headD 0) := by cases v <;> rfl
    have h5 := takeWhile_snoc h1 (c :: v)
    have h6 := takeWhile_snoc h2 (c :: v)
    rw [List.cons_append] at h5 h6
    rw [List.cons_append, tokS, tokS, h3, h4, h5, h6]

theorem tokS_text {v : List UInt8} {t : Int × List UInt8} (h : tokS v = some t) : v = t.2 ++ v.drop t.2.length := by
  have key : ∀ (p : UInt8 → Bool) (l : List UInt8), l = l.takeWhile p ++ l.drop (l.takeWhile p).length := fun p l => by
    conv => lhs; rw [← List.takeWhile_append_dropWhile (p := p) (l := l)]
    congr 1
    have := (takeWhile_span p l)
    rw [← this.1, List.length_take, ← this.2, Nat.min_eq_left (by
      rw [← Nat.not_lt]; intro hlt
      have h1 := congrArg List.length this.1
      rw [List.length_take, Nat.min_eq_right (by omega)] at h1
      have h2 := spanN_le p l
      omega)]
  cases v with
  | nil => cases h
  | cons c r =>
    have k1 := key inName (c :: r)
    have k2 := key inOp (c :: r)
    rw [tokS] at h
    generalize (c :: r).takeWhile inName = a at *
    generalize (c :: r).takeWhile inOp = b at *
    have c95 : iEq (uC c) 95 = true → c = 95 := fun h => byte_of (by decide) h
    have c39 : iEq (uC c) 39 = true → c = 39 := fun h => byte_of (by decide) h
    repeat' split at h
    all_goals first
      | (cases h; done)
      | (cases h; exact k1)
      | (cases h; exact k2)
      | (cases h; rfl)
      | (rename_i hh; rw [Bool.and_eq_true] at hh; cases h; first | (rw [c95 hh.1]; rfl) | (rw [c39 hh.1]; rfl))

/-- What a token is. -/
theorem tokS_kind {v : List UInt8} {t : Int × List UInt8} (h : tokS v = some t) : isKind t.1 t.2 = true ∧ iEq t.1 7 = false := by
  cases v with
  | nil => cases h
  | cons c r =>
    rw [tokS] at h
    have hs : signs.contains c = true → rbytes.contains [c] = true := by
      have key : ∀ n : Fin 256, signs.contains (UInt8.ofNat n.val) = true → rbytes.contains [UInt8.ofNat n.val] = true := by decide +kernel
      have := key ⟨c.toNat, c.toNat_lt⟩
      simpa using this
    generalize (c :: r).takeWhile inName = a at *
    generalize (c :: r).takeWhile inOp = b at *
    repeat' split at h
    all_goals (first | (cases h; done) | cases h)
    all_goals refine ⟨?_, by dsimp only; decide⟩
    all_goals simp only [isKind, show iEq 5 1 = false by decide, show iEq 5 2 = false by decide, show iEq 5 3 = false by decide, show iEq 5 4 = false by decide, show iEq 5 5 = true by decide,
      show iEq 6 1 = false by decide, show iEq 6 2 = false by decide, show iEq 6 3 = false by decide, show iEq 6 4 = false by decide, show iEq 6 5 = false by decide, show iEq 6 6 = true by decide,
      show iEq 1 1 = true by decide, show iEq 2 1 = false by decide, show iEq 2 2 = true by decide, show iEq 3 1 = false by decide, show iEq 3 2 = false by decide, show iEq 3 3 = true by decide,
      show iEq 4 1 = false by decide, show iEq 4 2 = false by decide, show iEq 4 3 = false by decide, show iEq 4 4 = true by decide, Bool.false_eq_true, if_false, if_true, IsSmall_eq, IsCapital_eq, IsOp_eq, number_eq]
    all_goals first
      | (rw [Bool.or_eq_true]; exact .inr (hs (by assumption)))
      | decide
      | assumption
      | (rename_i hh; rw [Bool.and_eq_true] at hh; exact hh.2)
      | (rw [Bool.or_eq_true, ← reserved_eq]; exact .inl (by assumption))

/-- A quote stands ahead of a capital. -/
theorem tokS_quote {v : List UInt8} {t : Int × List UInt8} (h : tokS v = some t) (h39 : t.2 = [39]) : t.1 = 5 ∧ capital ((v.drop 1).headD 0) = true := by
  have hv := tokS_text h
  rw [h39] at hv
  obtain ⟨r, rfl⟩ : ∃ r, v = 39 :: r := ⟨_, hv⟩
  rw [tokS] at h
  have e1 : signs.contains 39 = false := by decide
  have e2 : iEq (uC 39) 95 = false := by decide
  have e3 : iEq (uC 39) 39 = true := by decide
  have e4 : inName 39 = true := by decide
  rw [e1, e2, e3, e4] at h
  simp only [Bool.false_eq_true, if_false, Bool.false_and, Bool.true_and, if_true] at h
  cases hc : capital (r.headD 0) with
  | true => rw [hc] at h; simp only [if_true, Option.some.injEq] at h; subst h; exact ⟨rfl, hc⟩
  | false =>
    exfalso
    rw [hc] at h
    obtain ⟨k1, k2, k3, k4⟩ := odd_none (t := r.takeWhile inName) (.inr rfl : (39 : UInt8) = 95 ∨ (39 : UInt8) = 39)
    simp only [List.takeWhile_cons, e4, if_true, k1, k2, k3, k4, Bool.false_eq_true, if_false, Bool.and_false, Bool.false_and] at h
    cases h

/-- The texts, with blanks between them. -/
def jn (b : Bool) : List TokR → List UInt8
  | [] => []
  | t :: r => if iEq t.1 7 = true then jn b r else (if b = true then [32] else []) ++ (t.2.1 ++ jn (bNot (sEq t.2.1 [39])) r)

def sameR (a b : List TokR) : Prop := a.map (fun t => (t.1, t.2.1)) = b.map (fun t => (t.1, t.2.1))

theorem capital_tok {r : List UInt8} (h : capital (r.headD 0) = true) : bl r = r := by
  cases r with
  | nil => exact absurd h (by decide)
  | cons c r =>
    refine bl_of_clean ?_
    have key : ∀ n : Fin 256, capital (UInt8.ofNat n.val) = true → isBlank (UInt8.ofNat n.val) = false ∧ UInt8.ofNat n.val ≠ 45 := by decide +kernel
    have := key ⟨c.toNat, c.toNat_lt⟩
    simp only [UInt8.ofNat_toNat] at this
    obtain ⟨h1, h2⟩ := this h
    have : pfx [45, 45] (c :: r) = false := by
      simp only [pfx, List.isPrefixOf]
      cases r <;> simp [h2.symm]
    simp [clean, h1, this]

theorem jn_head {l : List UInt8} {ts : List TokR} (h : lexT l = some ts) (hc : capital (l.headD 0) = true) : capital ((jn false ts).headD 0) = true := by
  rcases lexT_inv h with ⟨h1, rfl⟩ | ⟨v, t, ts', hv, hne, ht, h', rfl⟩
  · rw [capital_tok hc] at h1
    subst h1
    exact absurd hc (by decide)
  · rw [capital_tok hc] at hv
    subst hv
    obtain ⟨k1, k2⟩ := tokS_kind ht
    obtain ⟨k3, k4⟩ := tokS_len ht
    have hx := tokS_text ht
    rw [jn, if_neg (by simp [k2])]
    simp only [Bool.false_eq_true, if_false, List.nil_append]
    cases ht2 : t.2 with
    | nil => rw [ht2] at k3; simp at k3
    | cons c r =>
      rw [hx, ht2] at hc
      exact hc

/-- The text is clean when the token that begins it was. -/
theorem clean_tok {v x : List UInt8} {t : Int × List UInt8} (hv : clean v = true) (ht : tokS v = some t) (hx : t.2 ≠ [39] → x = [] ∨ ∃ y, x = 32 :: y) : clean (t.2 ++ x) = true := by
  have hv2 := tokS_text ht
  obtain ⟨k3, k4⟩ := tokS_len ht
  cases ht2 : t.2 with
  | nil => rw [ht2] at k3; simp at k3
  | cons c r =>
    rw [ht2, List.cons_append] at hv2
    rw [hv2] at hv
    simp only [clean, Bool.and_eq_true, Bool.not_eq_true'] at hv
    rw [List.cons_append]
    simp only [clean, Bool.and_eq_true, Bool.not_eq_true']
    refine ⟨hv.1, ?_⟩
    cases r with
    | nil =>
      by_cases h39 : c = 39
      · subst h39; simp [pfx, List.isPrefixOf]
      · rcases hx (by rw [ht2]; simpa using h39) with rfl | ⟨y, rfl⟩
        · simp [pfx, List.isPrefixOf]
        · simp [pfx, List.isPrefixOf]
    | cons d r =>
      have := hv.2
      simp only [List.cons_append, pfx, List.isPrefixOf] at this ⊢
      exact this

theorem jn_shape (ts : List TokR) : ∀ b, b = true → (jn b ts = [] ∨ ∃ y, jn b ts = 32 :: y) := by
  induction ts with
  | nil => exact fun b _ => .inl rfl
  | cons t r ih =>
    intro b hb
    rw [jn]
    split
    · exact ih b hb
    · subst hb; exact .inr ⟨_, rfl⟩

theorem lex_back : ∀ (n : Nat) (l : List UInt8) (ts : List TokR) (b : Bool), l.length = n → lexT l = some ts → ∃ ts', lexT (jn b ts) = some ts' ∧ sameR ts ts' := by
  intro n
  induction n using Nat.strongRecOn with
  | _ n ih =>
    intro l ts b hn h
    rcases lexT_inv h with ⟨h1, rfl⟩ | ⟨v, t, ts', hv, hne, ht, h', rfl⟩
    · exact ⟨[(7, [], 0)], by rw [jn, if_pos (by decide)]; exact lexT_nil rfl, rfl⟩
    · obtain ⟨k1, k2⟩ := tokS_kind ht
      obtain ⟨k3, k4⟩ := tokS_len ht
      have hb := bl_len _ l rfl
      have hcl := bl_clean _ l rfl
      rw [hv] at hb hcl
      have htx := tokS_text ht
      obtain ⟨ts2, e1, e2⟩ := ih _ (by rw [List.length_drop]; omega) (v.drop t.2.length) ts' (bNot (sEq t.2 [39])) rfl h'
      rw [jn, if_neg (by simp [k2])]
      obtain ⟨X, hX⟩ : ∃ X, X = jn (bNot (sEq t.2 [39])) ts' := ⟨_, rfl⟩
      simp only
      rw [← hX] at e1 ⊢
      have hshape : t.2 ≠ [39] → X = [] ∨ ∃ y, X = 32 :: y := fun h39 => by
        rw [hX]
        refine jn_shape ts' _ ?_
        rw [bNot_true]
        cases hs : sEq t.2 [39] with
        | false => rfl
        | true => exact absurd (sEq_true.1 hs) h39
      have hclean := clean_tok (x := X) hcl ht hshape
      have htne : t.2 ≠ [] := fun e => by rw [e] at k3; simp at k3
      have htok : tokS (t.2 ++ X) = some t := by
        by_cases h39 : t.2 = [39]
        · obtain ⟨q1, q2⟩ := tokS_quote ht h39
          have hs : sEq t.2 [39] = true := sEq_true.2 h39
          have hcap : capital (X.headD 0) = true := by
            rw [hX, hs]
            refine jn_head h' ?_
            rw [h39]; exact q2
          rw [h39]
          have e1 : signs.contains 39 = false := by decide
          have e2 : iEq (uC 39) 95 = false := by decide
          have e3 : iEq (uC 39) 39 = true := by decide
          rw [List.singleton_append, tokS, e1, e2, e3, hcap]
          simp only [Bool.false_eq_true, if_false, Bool.false_and, Bool.and_self, if_true, Option.some.injEq]
          exact Prod.ext q1.symm h39.symm
        · have hx1 : inName 32 = false := by decide
          have hx2 : inOp 32 = false := by decide
          have same : ∀ z, tokS (t.2 ++ 32 :: z) = some t := fun z => tok_same hx1 hx2 (by rw [← htx]; exact ht) (Nat.le_refl _) htne (fun _ => h39)
          rcases hshape h39 with rfl | ⟨y, rfl⟩
          · rw [List.append_nil, ← tokS_blank htne]; exact same []
          · exact same y
      have hbl : bl ((if b = true then [32] else []) ++ (t.2 ++ X)) = t.2 ++ X := by
        cases b with
        | true =>
          simp only [if_true, List.singleton_append]
          rw [bl_cons, if_pos (by decide), bl_of_clean hclean]
        | false =>
          simp only [Bool.false_eq_true, if_false, List.nil_append]
          exact bl_of_clean hclean
      refine ⟨(t.1, t.2, (t.2 ++ X).length) :: ts2, ?_, ?_⟩
      · rw [lexT_cons hbl htok, List.drop_left, e1]; rfl
      · simp only [sameR, List.map_cons] at e2 ⊢
        rw [e2]

theorem same_of_sameR (n m : Nat) : ∀ (a b : List TokR), sameR a b → sameL false (a.map (conv n)) (b.map (conv m)) = true
  | [], [], _ => rfl
  | [], _ :: _, h => by simp [sameR] at h
  | _ :: _, [], h => by simp [sameR] at h
  | x :: a, y :: b, h => by
    simp only [sameR, List.map_cons, List.cons.injEq, Prod.mk.injEq] at h
    rw [List.map_cons, List.map_cons, sameL, same_of_sameR n m a b h.2, Bool.and_true]
    simp [sameT, conv, h.1.1, h.1.2, iEq_self, sEq_self]

theorem lexT_kinds : ∀ (n : Nat) (l : List UInt8) (ts : List TokR), l.length = n → lexT l = some ts → ∀ t ∈ ts, isKind t.1 t.2.1 = true := by
  intro n
  induction n using Nat.strongRecOn with
  | _ n ih =>
    intro l ts hn h x hx
    rcases lexT_inv h with ⟨h1, rfl⟩ | ⟨v, t, ts', hv, hne, ht, h', rfl⟩
    · simp at hx; subst hx; decide
    · obtain ⟨k3, k4⟩ := tokS_len ht
      have hb := bl_len _ l rfl
      rw [hv] at hb
      rcases List.mem_cons.1 hx with rfl | hx
      · exact (tokS_kind ht).1
      · exact ih _ (by rw [List.length_drop]; omega) _ ts' rfl h' x hx

theorem joinF_jn (n : Nat) : ∀ (ts : List TokR) (acc : List UInt8) (b : Bool), (∀ t ∈ ts, isKind t.1 t.2.1 = true) → joinF acc b (ts.map (conv n)) = some (acc ++ jn b ts)
  | [], acc, b, _ => by simp [joinF, jn]
  | t :: r, acc, b, h => by
    have hk : isKind (conv n t).kind (conv n t).text = true := h t (by simp)
    have hr := fun acc b => joinF_jn n r acc b fun t ht => h t (by simp [ht])
    rw [List.map_cons, joinF, jn, if_pos hk]
    by_cases h7 : iEq t.1 7 = true
    · rw [if_pos h7, if_pos (show iEq (conv n t).kind 7 = true from h7)]
      exact hr acc b
    · rw [if_neg h7, if_neg (show ¬ iEq (conv n t).kind 7 = true from h7), hr]
      show some ((if b = true then acc ++ [32] else acc) ++ t.2.1 ++ jn (bNot (sEq t.2.1 [39])) r) = _
      cases b <;> simp

/-- Join of a source's tokens, read again. -/
theorem join_back {s : List UInt8} {l : List Token} (h : lexE s = .ok l) : ∃ j m, joinF [] false l = some j ∧ lexE j = .ok m ∧ sameL false l m = true := by
  obtain ⟨ts, h1, rfl⟩ := lexE_tokens.1 h
  obtain ⟨ts', h2, h3⟩ := lex_back _ s ts false rfl h1
  refine ⟨jn false ts, ts'.map (conv (jn false ts).length), by rw [joinF_jn _ _ _ _ (lexT_kinds _ s ts rfl h1), List.nil_append], lexE_tokens.2 ⟨ts', h2, rfl⟩, same_of_sameR _ _ _ _ h3⟩

end Go.Proofs.YtkcljempplchkaaDoor

/- The strings.Builder's WriteByte and WriteString. -/
set_option maxRecDepth 100000
set_option linter.unusedVariables false
set_option linter.unusedSimpArgs false
namespace Go.Proofs.YtkcljempplchkaaDoor
open Go.Eng

/-- The object i is a builder that holds these bytes; H0: the store when the call that made it began. -/
structure BInv (H0 H : Hp) (i : Nat) (l : List UInt8) (p : AVal) (t : Tok) : Prop where
  ob : H i = some (.cells [p, .sl (byteRows l) t] (some 65))
  ptr : p = .nilptr ∨ p = .ref i 0
  tok : (l = [] ∧ t = .nil) ∨ (l ≠ [] ∧ ∃ id, t = .own id 1 ∧ H id = some (.tok l.length 1 (some 5)) ∧ H0 id = none)
  le : H0.le H
  new : H0 i = none

def Bld (H0 H : Hp) (i : Nat) (l : List UInt8) : Prop := ∃ p t, BInv H0 H i l p t

/-- Other objects are kept. -/
def Keeps (H H' : Hp) : Prop := ∀ j cs, H j = some (.cells cs none) → H' j = some (.cells cs none)

theorem Keeps.trans {H H' H'' : Hp} (h : Keeps H H') (k : Keeps H' H'') : Keeps H H'' := fun j cs hj => k j cs (h j cs hj)

theorem BInv.check {H0 H : Hp} {i : Nat} {l : List UInt8} {p : AVal} {t : Tok} (h : BInv H0 H i l p t) : BInv H0 (H.upd i (.cells [.ref i 0, .sl (byteRows l) t] (some 65))) i l (.ref i 0) t ∧ Keeps H (H.upd i (.cells [.ref i 0, .sl (byteRows l) t] (some 65))) := by
  refine ⟨⟨Hp.upd_same _ _ _, .inr rfl, ?_, fun j o hj => ?_, h.new⟩, fun j cs hj => ?_⟩
  · rcases h.tok with h1 | ⟨h1, id, h2, h3, h4⟩
    · exact .inl h1
    · refine .inr ⟨h1, id, h2, ?_, h4⟩
      rw [Hp.upd_ne]; exact h3
      intro e; subst e; rw [h.ob] at h3; cases h3
  · rw [Hp.upd_ne]; exact h.le j o hj
    intro e; subst e; rw [h.new] at hj; cases hj
  · rw [Hp.upd_ne]; exact hj
    intro e; subst e; rw [h.ob] at hj; cases hj

theorem byteRows_app (l m : List UInt8) : byteRows (l ++ m) = byteRows l ++ byteRows m := by simp [byteRows]

theorem BInv.app {H0 H : Hp} {i : Nat} {l m : List UInt8} {p : AVal} {t u : Tok} {ds : List ADef} {R : Res} (h : BInv H0 H i l p t) (hm : m ≠ []) (hb : l.length + m.length ≤ 140737488355328)
    (k : ∀ t' H', BInv H0 (H'.upd i (.cells [p, .sl (byteRows (l ++ m)) t'] (some 65))) i (l ++ m) p t' → Keeps H (H'.upd i (.cells [p, .sl (byteRows (l ++ m)) t'] (some 65))) → H' i = some (.cells [p, .sl (byteRows l) t] (some 65)) → R (.sl (byteRows l ++ byteRows m) t') H' ds) :
    appP 1 1 5 (.sl (byteRows l) t) (.sl (byteRows m) u) H ds R := by
  have hne : (byteRows m).isEmpty = false := by cases m with | nil => exact absurd rfl hm | cons x m => rfl
  have one : ∀ l : List UInt8, ∀ r ∈ byteRows l, r.length = 1 := fun l r hr => by
    obtain ⟨c, _, rfl⟩ := List.mem_map.1 hr; rfl
  have hall : (byteRows m).flatten.all AVal.one = true := by
    rw [byteRows_flatten, List.all_eq_true]
    intro x hx
    obtain ⟨c, _, rfl⟩ := List.mem_map.1 hx
    rfl
  have hlm : l ++ m ≠ [] := by simp [hm]
  have hlen : (byteRows l).length + (byteRows m).length = (l ++ m).length := by rw [byteRows_len, byteRows_len, List.length_append]
  have fin : ∀ id, (H id = none ∨ ∃ n s o, H id = some (.tok n s o)) → H0 id = none → R (.sl (byteRows l ++ byteRows m) (.own id 1)) (H.upd id (.tok (l ++ m).length 1 (some 5))) ds := by
    intro id hid h0
    have hni : i ≠ id := fun e => by
      subst e
      rw [h.ob] at hid
      rcases hid with hid | ⟨n, s, o, hid⟩ <;> cases hid
    refine k (.own id 1) _ ⟨Hp.upd_same _ _ _, h.ptr, .inr ⟨hlm, id, rfl, ?_, h0⟩, fun j o hj => ?_, h.new⟩ (fun j cs hj => ?_) ?_
    · rw [Hp.upd_ne _ _ (Ne.symm hni), Hp.upd_same]
    · rw [Hp.upd_ne, Hp.upd_ne]
      · exact h.le j o hj
      · intro e; subst e; rw [h0] at hj; cases hj
      · intro e; subst e; rw [h.new] at hj; cases hj
    · rw [Hp.upd_ne, Hp.upd_ne]
      · exact hj
      · intro e; subst e; rw [hj] at hid; rcases hid with hid | ⟨n, s, o, hid⟩ <;> cases hid
      · intro e; subst e; rw [h.ob] at hj; cases hj
    · rw [Hp.upd_ne _ _ hni]; exact h.ob
  unfold appP
  simp only [hne, Bool.false_eq_true, if_false]
  refine ⟨one l, one m, by rw [hlen, List.length_append]; omega, ?_⟩
  rcases h.tok with ⟨_, rfl⟩ | ⟨h1, id, rfl, h3, h4⟩
  · intro id hid
    rw [hlen]
    exact fin id (.inl hid) (none_of_le h.le hid)
  · refine ⟨rfl, hall, some 5, by rw [byteRows_len]; exact h3, ?_⟩
    rw [hlen, tkO_same]
    exact fin id (.inr ⟨_, _, _, h3⟩) h4

theorem WriteByte_calls {H0 H : Hp} {i : Nat} {l : List UInt8} {c : UInt8} (h : Bld H0 H i l) (hb : l.length + 1 ≤ 140737488355328) {Q : ARet → Hp → Prop}
    (hQ : ∀ H', Bld H0 H' i (l ++ [c]) → Keeps H H' → Q (.ret .nilif) H') : ACalls lexC Tryd.prog f_bWriteByte [.ref i 0, .int .u8 (uC c)] H Q := by
  obtain ⟨p, t, h⟩ := h
  refine entry h_bWriteByte rfl ?_; simp -implicitDefEqProofs only [go_sem, Nat.reduceAdd, Nat.reduceLeDiff, Nat.reduceEqDiff, Nat.reduceBEq, Nat.reduceLT, c_bWriteByte]
  refine go ?_; simp -implicitDefEqProofs only [go_sem, Nat.reduceAdd, Nat.reduceLeDiff, Nat.reduceEqDiff, Nat.reduceBEq, Nat.reduceLT]
  refine copyCheck_calls h.ob h.ptr ?_
  obtain ⟨h1, k1⟩ := h.check
  generalize H.upd i (.cells [.ref i 0, .sl (byteRows l) t] (some 65)) = H1 at h1 k1
  simp -implicitDefEqProofs only [go_sem, Nat.reduceAdd, Nat.reduceLeDiff, Nat.reduceEqDiff, Nat.reduceBEq, Nat.reduceLT]
  refine go ?_; simp -implicitDefEqProofs only [go_sem, Nat.reduceAdd, Nat.reduceLeDiff, Nat.reduceEqDiff, Nat.reduceBEq, Nat.reduceLT, h1.ob]
  refine h1.app (m := [c]) (by simp) (by simpa using hb) fun t' H2 h2 k2 h3 => ?_
  simp -implicitDefEqProofs only [go_sem, Nat.reduceAdd, Nat.reduceLeDiff, Nat.reduceEqDiff, Nat.reduceBEq, Nat.reduceLT, h3]
  refine go ?_; simp -implicitDefEqProofs only [go_sem, Nat.reduceAdd, Nat.reduceLeDiff, Nat.reduceEqDiff, Nat.reduceBEq, Nat.reduceLT]
  refine go ?_; simp -implicitDefEqProofs only [go_sem, Nat.reduceAdd, Nat.reduceLeDiff, Nat.reduceEqDiff, Nat.reduceBEq, Nat.reduceLT]
  rw [← byteRows_app]
  exact hQ _ ⟨_, _, h2⟩ (k1.trans k2)

theorem WriteString_calls {H0 H : Hp} {i : Nat} {l s : List UInt8} (h : Bld H0 H i l) (hs : s ≠ []) (hb : l.length + s.length ≤ 140737488355328) {Q : ARet → Hp → Prop}
    (hQ : ∀ H', Bld H0 H' i (l ++ s) → Keeps H H' → Q (.ret (.tup [.int .i64 (sLen s), .nilif])) H') : ACalls lexC Tryd.prog f_bWriteString [.ref i 0, .str s] H Q := by
  obtain ⟨p, t, h⟩ := h
  refine entry h_bWriteString rfl ?_; simp -implicitDefEqProofs only [go_sem, Nat.reduceAdd, Nat.reduceLeDiff, Nat.reduceEqDiff, Nat.reduceBEq, Nat.reduceLT, c_bWriteString]
  refine go ?_; simp -implicitDefEqProofs only [go_sem, Nat.reduceAdd, Nat.reduceLeDiff, Nat.reduceEqDiff, Nat.reduceBEq, Nat.reduceLT]
  refine copyCheck_calls h.ob h.ptr ?_
  obtain ⟨h1, k1⟩ := h.check
  generalize H.upd i (.cells [.ref i 0, .sl (byteRows l) t] (some 65)) = H1 at h1 k1
  simp -implicitDefEqProofs only [go_sem, Nat.reduceAdd, Nat.reduceLeDiff, Nat.reduceEqDiff, Nat.reduceBEq, Nat.reduceLT]
  refine go ?_; simp -implicitDefEqProofs only [go_sem, Nat.reduceAdd, Nat.reduceLeDiff, Nat.reduceEqDiff, Nat.reduceBEq, Nat.reduceLT, h1.ob]
  refine h1.app (m := s) (u := .no) hs hb fun t' H2 h2 k2 h3 => ?_
  simp -implicitDefEqProofs only [go_sem, Nat.reduceAdd, Nat.reduceLeDiff, Nat.reduceEqDiff, Nat.reduceBEq, Nat.reduceLT, h3]
  refine go ?_; simp -implicitDefEqProofs only [go_sem, Nat.reduceAdd, Nat.reduceLeDiff, Nat.reduceEqDiff, Nat.reduceBEq, Nat.reduceLT]
  refine go ?_; simp -implicitDefEqProofs only [go_sem, Nat.reduceAdd, Nat.reduceLeDiff, Nat.reduceEqDiff, Nat.reduceBEq, Nat.reduceLT]
  rw [← byteRows_app]
  exact hQ _ ⟨_, _, h2⟩ (k1.trans k2)

end Go.Proofs.YtkcljempplchkaaDoor

/- Join. -/
set_option maxRecDepth 100000
set_option linter.unusedVariables false
set_option linter.unusedSimpArgs false
namespace Go.Proofs.YtkcljempplchkaaDoor
open Go.Eng

theorem Bld.new {H0 H : Hp} {i : Nat} {l : List UInt8} (h : Bld H0 H i l) {j : Nat} (hj : H j = none) (o : Ob) : Bld H0 (H.upd j o) i l := by
  obtain ⟨p, t, h⟩ := h
  refine ⟨p, t, upd_old h.ob hj, h.ptr, ?_, fun k ob hk => le_upd hj k ob (h.le k ob hk), h.new⟩
  rcases h.tok with h1 | ⟨h1, id, h2, h3, h4⟩
  · exact .inl h1
  · exact .inr ⟨h1, id, h2, upd_old h3 hj, h4⟩

theorem Bld.start {H : Hp} {i : Nat} (hi : H i = none) : Bld H (H.upd i (.cells [.nilptr, .sl [] .nil] (some 65))) i [] :=
  ⟨_, _, Hp.upd_same _ _ _, .inl rfl, .inl ⟨rfl, rfl⟩, le_upd hi, hi⟩

theorem Bld.le {H0 H : Hp} {i : Nat} {l : List UInt8} (h : Bld H0 H i l) : H0.le H := by
  obtain ⟨p, t, h⟩ := h
  exact h.le

theorem String_calls {O : Cfg} {H0 H : Hp} {i : Nat} {l : List UInt8} (h : Bld H0 H i l) (hl : l.length ≤ 9223372036854775807) {Q : ARet → Hp → Prop} (hQ : ∀ H', H0.le H' → Q (.ret (.str l)) H') : ACalls O Tryd.prog 49 [.ref i 0] H Q := by
  obtain ⟨p, t, h⟩ := h
  refine bString_calls h.ob hl ?_ fun H' hk => hQ H' fun j o hj => hk j o (h.le j o hj) fun e => ?_
  · rcases h.tok with h1 | ⟨h1, id, h2, h3, h4⟩
    · exact .inl h1
    · exact .inr ⟨h1, id, h2, h3⟩
  · rcases h.tok with ⟨_, h1⟩ | ⟨h1, id, h2, h3, h4⟩
    · rw [h1] at e; cases e
    · rw [h2] at e; cases e
      rw [h4] at hj; cases hj

theorem isToken_pure' (k : Int) (text : List UInt8) (pos : Int) (hl : text.length ≤ 281474976710656) : PureCall lexC f_isToken [.agg [.int .i64 k, .str text, .int .i64 pos]] (.bool (isKind k text)) := isToken_pure ⟨k, text, pos⟩ hl

theorem isKind_tick {k : Int} {s : List UInt8} (h : isKind k s = true) (h7 : iEq k 7 = false) : (iEq k 5 && sEq s [39]) = sEq s [39] := by
  cases hs : sEq s [39] with
  | false => simp
  | true =>
    have := sEq_true.1 hs
    subst this
    rw [Bool.and_true]
    unfold isKind at h
    have a1 : rIsSmall [39] = false := by decide
    have a2 : rIsCapital [39] = false := by decide
    have a3 : rIsOp [39] = false := by decide
    have a4 : isNum [39] = false := by decide
    have a6 : words.contains [39] = false := by decide
    rw [a1, a2, a3, a4, a6, h7] at h
    split at h
    · cases h
    · split at h
      · cases h
      · split at h
        · cases h
        · split at h
          · cases h
          · split at h
            · assumption
            · split at h <;> cases h

def joinT (o : Option (List UInt8)) : AVal := match o with
  | some s => .tup [.str s, .int .i64 0]
  | none => .tup [.str [], .int .i64 2]

theorem text_ne {k : Int} {s : List UInt8} (h : isKind k s = true) (h7 : iEq k 7 = false) : s ≠ [] := by
  rintro rfl
  unfold isKind at h
  have a1 : rIsSmall [] = false := by decide
  have a2 : rIsCapital [] = false := by decide
  have a3 : rIsOp [] = false := by decide
  have a4 : isNum [] = false := by decide
  have a5 : (rruns.contains ([] : List UInt8) || rbytes.contains ([] : List UInt8)) = false := by decide
  have a6 : words.contains ([] : List UInt8) = false := by decide
  rw [a1, a2, a3, a4, a5, a6, h7] at h
  repeat' (first | split at h | cases h)

theorem bNot_bNot (b : Bool) : bNot (bNot b) = b := by cases b <;> rfl

theorem Join_pure (l : List Token) (t : Tok) (hn : l.length * 32 ≤ 140737488355328) (hl : ∀ d ∈ l, d.text.length ≤ 281474976710656) : PureCall lexC f_Join [.sl (tokRows l) t] (joinT (joinF [] false l)) := by
  refine entryF h_Join rfl fun H => ?_; simp -implicitDefEqProofs only [go_sem, Nat.reduceAdd, Nat.reduceLeDiff, Nat.reduceEqDiff, Nat.reduceBEq, Nat.reduceLT, c_Join]
  refine go ?_; simp -implicitDefEqProofs only [go_sem, Nat.reduceAdd, Nat.reduceLeDiff, Nat.reduceEqDiff, Nat.reduceBEq, Nat.reduceLT]
  intro bi hbi
  simp -implicitDefEqProofs only [go_sem, Nat.reduceAdd, Nat.reduceLeDiff, Nat.reduceEqDiff, Nat.reduceBEq, Nat.reduceLT]
  refine go ?_; simp -implicitDefEqProofs only [go_sem, Nat.reduceAdd, Nat.reduceLeDiff, Nat.reduceEqDiff, Nat.reduceBEq, Nat.reduceLT]
  refine AC.cut (fun st => ∃ acc b H', Bld H H' bi acc ∧ acc.length ≤ 20 * l.length ∧ joinF [] false l = some acc ∧ st = ⟨mk 36 [(4, .ref bi 0), (5, .bool b), (8, .sl (tokRows l) t), (9, .int .i64 (rLen (tokRows l))), (10, .int .i64 (l.length : Int))], H', []⟩) ?_ ?_
  · refine go ?_; simp -implicitDefEqProofs only [go_sem, Nat.reduceAdd, Nat.reduceLeDiff, Nat.reduceEqDiff, Nat.reduceBEq, Nat.reduceLT]
    refine go ?_; simp -implicitDefEqProofs only [go_sem, Nat.reduceAdd, Nat.reduceLeDiff, Nat.reduceEqDiff, Nat.reduceBEq, Nat.reduceLT]
    rw [wpC_loop]
    refine AC.loop (fun n st => ∃ (j : Nat) (acc : List UInt8) (b : Bool) (H' : Hp), j + n = l.length ∧ Bld H H' bi acc ∧ acc.length ≤ 20 * j ∧ joinF [] false l = joinF acc b (l.drop j) ∧
      st = ⟨mk 36 [(4, .ref bi 0), (5, .bool (bNot b)), (8, .sl (tokRows l) t), (9, .int .i64 (rLen (tokRows l))), (10, .int .i64 (j : Int))], H', []⟩) l.length ⟨0, [], false, _, by omega, Bld.start hbi, by simp, rfl, rfl⟩ ?_
    rintro n _ ⟨j, acc, b, H', hj, hH, hacc, hJ, rfl⟩
    simp -implicitDefEqProofs only [go_sem, Nat.reduceAdd, Nat.reduceLeDiff, Nat.reduceEqDiff, Nat.reduceBEq, Nat.reduceLT, l_Join_0]
    refine go ?_; simp -implicitDefEqProofs only [go_sem, Nat.reduceAdd, Nat.reduceLeDiff, Nat.reduceEqDiff, Nat.reduceBEq, Nat.reduceLT]
    refine go ?_
    refine wpC_split rfl rfl (fun h => ?_) (fun h => ?_) <;> simp -implicitDefEqProofs only [go_sem, Nat.reduceAdd, Nat.reduceLeDiff, Nat.reduceEqDiff, Nat.reduceBEq, Nat.reduceLT]
    · have hlt := iLt_true.1 h
      rw [rLen_tok] at hlt
      obtain ⟨d, hd⟩ : ∃ d, l[j]? = some d := ⟨_, List.getElem?_eq_getElem (by omega)⟩
      have e : wAdd .i64 (j : Int) 1 = ((j + 1 : Nat) : Int) := by rw [wAdd_i64] <;> omega
      rw [drop_tok hd] at hJ
      refine go ?_; simp -implicitDefEqProofs only [go_sem, Nat.reduceAdd, Nat.reduceLeDiff, Nat.reduceEqDiff, Nat.reduceBEq, Nat.reduceLT, iaddrA_tok hd]
      intro id hid
      simp -implicitDefEqProofs only [go_sem, Nat.reduceAdd, Nat.reduceLeDiff, Nat.reduceEqDiff, Nat.reduceBEq, Nat.reduceLT]
      have hB := hH.new hid (.cells [.int .i64 d.kind, .str d.text, .int .i64 d.pos])
      have hb := Hp.upd_same H' id (.cells [.int .i64 d.kind, .str d.text, .int .i64 d.pos])
      generalize H'.upd id (.cells [.int .i64 d.kind, .str d.text, .int .i64 d.pos]) = H2 at hB hb
      refine go ?_; simp -implicitDefEqProofs only [go_sem, Nat.reduceAdd, Nat.reduceLeDiff, Nat.reduceEqDiff, Nat.reduceBEq, Nat.reduceLT, hb]
      refine PureCall.step (isToken_pure' _ _ _ (hl d (List.mem_of_getElem? hd))) ?_
      simp -implicitDefEqProofs only [go_sem, Nat.reduceAdd, Nat.reduceLeDiff, Nat.reduceEqDiff, Nat.reduceBEq, Nat.reduceLT]
      cases hk : isKind d.kind d.text with
      | false =>
        have eJ : joinF [] false l = none := by rw [hJ, joinF, hk]; rfl
        repeat' (first | (refine wpC_split rfl rfl (fun h => ?_) (fun h => ?_) <;> (try simp -implicitDefEqProofs only [go_sem, Nat.reduceAdd, Nat.reduceLeDiff, Nat.reduceEqDiff, Nat.reduceBEq, Nat.reduceLT, h])) | (refine plan_split rfl rfl (fun h => ?_) (fun h => ?_) <;> simp -implicitDefEqProofs only [go_sem, Nat.reduceAdd, Nat.reduceLeDiff, Nat.reduceEqDiff, Nat.reduceBEq, Nat.reduceLT, h]) | (refine planD_split rfl rfl (fun h => ?_) (fun h => ?_) <;> simp -implicitDefEqProofs only [go_sem, Nat.reduceAdd, Nat.reduceLeDiff, Nat.reduceEqDiff, Nat.reduceBEq, Nat.reduceLT, h]) | (refine go ?_; try simp -implicitDefEqProofs only [go_sem, Nat.reduceAdd, Nat.reduceLeDiff, Nat.reduceEqDiff, Nat.reduceBEq, Nat.reduceLT]) | ((with_reducible refine wpC_id ?_); simp -implicitDefEqProofs only [go_sem, Nat.reduceAdd, Nat.reduceLeDiff, Nat.reduceEqDiff, Nat.reduceBEq, Nat.reduceLT]) | ((with_reducible first | refine quiet_id ?_ | refine wrote_id ?_ | refine resQ_id ?_); simp -implicitDefEqProofs only [go_sem, Nat.reduceAdd, Nat.reduceLeDiff, Nat.reduceEqDiff, Nat.reduceBEq, Nat.reduceLT]) | fail)
        rw [eJ]
        exact ⟨_, rfl, .refl _, hB.le⟩
      | true =>
        have hdl := isKind_len hk
        by_cases h7 : iEq d.kind 7 = true
        · repeat' (first | (refine wpC_split rfl rfl (fun h => ?_) (fun h => ?_) <;> (try simp -implicitDefEqProofs only [go_sem, Nat.reduceAdd, Nat.reduceLeDiff, Nat.reduceEqDiff, Nat.reduceBEq, Nat.reduceLT, h, hb, h7, e])) | (refine plan_split rfl rfl (fun h => ?_) (fun h => ?_) <;> simp -implicitDefEqProofs only [go_sem, Nat.reduceAdd, Nat.reduceLeDiff, Nat.reduceEqDiff, Nat.reduceBEq, Nat.reduceLT, h, hb, h7, e]) | (refine planD_split rfl rfl (fun h => ?_) (fun h => ?_) <;> simp -implicitDefEqProofs only [go_sem, Nat.reduceAdd, Nat.reduceLeDiff, Nat.reduceEqDiff, Nat.reduceBEq, Nat.reduceLT, h, hb, h7, e]) | (refine go ?_; try simp -implicitDefEqProofs only [go_sem, Nat.reduceAdd, Nat.reduceLeDiff, Nat.reduceEqDiff, Nat.reduceBEq, Nat.reduceLT, hb, h7, e]) | ((with_reducible refine wpC_id ?_); simp -implicitDefEqProofs only [go_sem, Nat.reduceAdd, Nat.reduceLeDiff, Nat.reduceEqDiff, Nat.reduceBEq, Nat.reduceLT, hb, h7, e]) | ((with_reducible first | refine quiet_id ?_ | refine wrote_id ?_ | refine resQ_id ?_); simp -implicitDefEqProofs only [go_sem, Nat.reduceAdd, Nat.reduceLeDiff, Nat.reduceEqDiff, Nat.reduceBEq, Nat.reduceLT, hb, h7, e]) | fail)
          exact ⟨n - 1, by omega, j + 1, acc, b, _, by omega, hB, by omega, by rw [hJ, joinF, if_pos hk, if_pos h7], rfl⟩
        · rw [Bool.not_eq_true] at h7
          have hne := text_ne hk h7
          have htk := isKind_tick hk h7
          cases b with
          | true =>
            repeat' (first | (refine wpC_split rfl rfl (fun h => ?_) (fun h => ?_) <;> (try simp -implicitDefEqProofs only [go_sem, Nat.reduceAdd, Nat.reduceLeDiff, Nat.reduceEqDiff, Nat.reduceBEq, Nat.reduceLT, h, hb, h7, e])) | (refine plan_split rfl rfl (fun h => ?_) (fun h => ?_) <;> simp -implicitDefEqProofs only [go_sem, Nat.reduceAdd, Nat.reduceLeDiff, Nat.reduceEqDiff, Nat.reduceBEq, Nat.reduceLT, h, hb, h7, e]) | (refine planD_split rfl rfl (fun h => ?_) (fun h => ?_) <;> simp -implicitDefEqProofs only [go_sem, Nat.reduceAdd, Nat.reduceLeDiff, Nat.reduceEqDiff, Nat.reduceBEq, Nat.reduceLT, h, hb, h7, e]) | (refine go ?_; try simp -implicitDefEqProofs only [go_sem, Nat.reduceAdd, Nat.reduceLeDiff, Nat.reduceEqDiff, Nat.reduceBEq, Nat.reduceLT, hb, h7, e]) | ((with_reducible refine wpC_id ?_); simp -implicitDefEqProofs only [go_sem, Nat.reduceAdd, Nat.reduceLeDiff, Nat.reduceEqDiff, Nat.reduceBEq, Nat.reduceLT, hb, h7, e]) | ((with_reducible first | refine quiet_id ?_ | refine wrote_id ?_ | refine resQ_id ?_); simp -implicitDefEqProofs only [go_sem, Nat.reduceAdd, Nat.reduceLeDiff, Nat.reduceEqDiff, Nat.reduceBEq, Nat.reduceLT, hb, h7, e]) | fail)
            refine WriteByte_calls (c := 32) hB (by omega) fun H3 hB3 k3 => ?_
            have hb3 := k3 id _ hb
            simp -implicitDefEqProofs only [go_sem, Nat.reduceAdd, Nat.reduceLeDiff, Nat.reduceEqDiff, Nat.reduceBEq, Nat.reduceLT]
            refine go ?_; simp -implicitDefEqProofs only [go_sem, Nat.reduceAdd, Nat.reduceLeDiff, Nat.reduceEqDiff, Nat.reduceBEq, Nat.reduceLT, hb3]
            refine WriteString_calls hB3 hne (by simp; omega) fun H4 hB4 k4 => ?_
            have hb4 := k4 id _ hb3
            simp -implicitDefEqProofs only [go_sem, Nat.reduceAdd, Nat.reduceLeDiff, Nat.reduceEqDiff, Nat.reduceBEq, Nat.reduceLT]
            cases h5 : iEq d.kind 5 with
            | true =>
              repeat' (first | (refine wpC_split rfl rfl (fun h => ?_) (fun h => ?_) <;> (try simp -implicitDefEqProofs only [go_sem, Nat.reduceAdd, Nat.reduceLeDiff, Nat.reduceEqDiff, Nat.reduceBEq, Nat.reduceLT, h, hb4, e, h5])) | (refine plan_split rfl rfl (fun h => ?_) (fun h => ?_) <;> simp -implicitDefEqProofs only [go_sem, Nat.reduceAdd, Nat.reduceLeDiff, Nat.reduceEqDiff, Nat.reduceBEq, Nat.reduceLT, h, hb4, e, h5]) | (refine planD_split rfl rfl (fun h => ?_) (fun h => ?_) <;> simp -implicitDefEqProofs only [go_sem, Nat.reduceAdd, Nat.reduceLeDiff, Nat.reduceEqDiff, Nat.reduceBEq, Nat.reduceLT, h, hb4, e, h5]) | (refine go ?_; try simp -implicitDefEqProofs only [go_sem, Nat.reduceAdd, Nat.reduceLeDiff, Nat.reduceEqDiff, Nat.reduceBEq, Nat.reduceLT, hb4, e, h5]) | ((with_reducible refine wpC_id ?_); simp -implicitDefEqProofs only [go_sem, Nat.reduceAdd, Nat.reduceLeDiff, Nat.reduceEqDiff, Nat.reduceBEq, Nat.reduceLT, hb4, e, h5]) | ((with_reducible first | refine quiet_id ?_ | refine wrote_id ?_ | refine resQ_id ?_); simp -implicitDefEqProofs only [go_sem, Nat.reduceAdd, Nat.reduceLeDiff, Nat.reduceEqDiff, Nat.reduceBEq, Nat.reduceLT, hb4, e, h5]) | fail)
              exact ⟨n - 1, by omega, j + 1, acc ++ [32] ++ d.text, bNot (sEq d.text [39]), H4, by omega, hB4, by simp; omega, by rw [hJ, joinF, if_pos hk, if_neg (by simp [h7]), if_pos rfl], by rw [bNot_bNot]⟩
            | false =>
              rw [h5, Bool.false_and] at htk
              repeat' (first | (refine wpC_split rfl rfl (fun h => ?_) (fun h => ?_) <;> (try simp -implicitDefEqProofs only [go_sem, Nat.reduceAdd, Nat.reduceLeDiff, Nat.reduceEqDiff, Nat.reduceBEq, Nat.reduceLT, h, hb4, e, h5])) | (refine plan_split rfl rfl (fun h => ?_) (fun h => ?_) <;> simp -implicitDefEqProofs only [go_sem, Nat.reduceAdd, Nat.reduceLeDiff, Nat.reduceEqDiff, Nat.reduceBEq, Nat.reduceLT, h, hb4, e, h5]) | (refine planD_split rfl rfl (fun h => ?_) (fun h => ?_) <;> simp -implicitDefEqProofs only [go_sem, Nat.reduceAdd, Nat.reduceLeDiff, Nat.reduceEqDiff, Nat.reduceBEq, Nat.reduceLT, h, hb4, e, h5]) | (refine go ?_; try simp -implicitDefEqProofs only [go_sem, Nat.reduceAdd, Nat.reduceLeDiff, Nat.reduceEqDiff, Nat.reduceBEq, Nat.reduceLT, hb4, e, h5]) | ((with_reducible refine wpC_id ?_); simp -implicitDefEqProofs only [go_sem, Nat.reduceAdd, Nat.reduceLeDiff, Nat.reduceEqDiff, Nat.reduceBEq, Nat.reduceLT, hb4, e, h5]) | ((with_reducible first | refine quiet_id ?_ | refine wrote_id ?_ | refine resQ_id ?_); simp -implicitDefEqProofs only [go_sem, Nat.reduceAdd, Nat.reduceLeDiff, Nat.reduceEqDiff, Nat.reduceBEq, Nat.reduceLT, hb4, e, h5]) | fail)
              exact ⟨n - 1, by omega, j + 1, acc ++ [32] ++ d.text, bNot (sEq d.text [39]), H4, by omega, hB4, by simp; omega, by rw [hJ, joinF, if_pos hk, if_neg (by simp [h7]), if_pos rfl], by rw [bNot_bNot, ← htk]⟩
          | false =>
            repeat' (first | (refine wpC_split rfl rfl (fun h => ?_) (fun h => ?_) <;> (try simp -implicitDefEqProofs only [go_sem, Nat.reduceAdd, Nat.reduceLeDiff, Nat.reduceEqDiff, Nat.reduceBEq, Nat.reduceLT, h, hb, h7, e])) | (refine plan_split rfl rfl (fun h => ?_) (fun h => ?_) <;> simp -implicitDefEqProofs only [go_sem, Nat.reduceAdd, Nat.reduceLeDiff, Nat.reduceEqDiff, Nat.reduceBEq, Nat.reduceLT, h, hb, h7, e]) | (refine planD_split rfl rfl (fun h => ?_) (fun h => ?_) <;> simp -implicitDefEqProofs only [go_sem, Nat.reduceAdd, Nat.reduceLeDiff, Nat.reduceEqDiff, Nat.reduceBEq, Nat.reduceLT, h, hb, h7, e]) | (refine go ?_; try simp -implicitDefEqProofs only [go_sem, Nat.reduceAdd, Nat.reduceLeDiff, Nat.reduceEqDiff, Nat.reduceBEq, Nat.reduceLT, hb, h7, e]) | ((with_reducible refine wpC_id ?_); simp -implicitDefEqProofs only [go_sem, Nat.reduceAdd, Nat.reduceLeDiff, Nat.reduceEqDiff, Nat.reduceBEq, Nat.reduceLT, hb, h7, e]) | ((with_reducible first | refine quiet_id ?_ | refine wrote_id ?_ | refine resQ_id ?_); simp -implicitDefEqProofs only [go_sem, Nat.reduceAdd, Nat.reduceLeDiff, Nat.reduceEqDiff, Nat.reduceBEq, Nat.reduceLT, hb, h7, e]) | fail)
            refine WriteString_calls hB hne (by omega) fun H4 hB4 k4 => ?_
            have hb4 := k4 id _ hb
            simp -implicitDefEqProofs only [go_sem, Nat.reduceAdd, Nat.reduceLeDiff, Nat.reduceEqDiff, Nat.reduceBEq, Nat.reduceLT]
            cases h5 : iEq d.kind 5 with
            | true =>
              repeat' (first | (refine wpC_split rfl rfl (fun h => ?_) (fun h => ?_) <;> (try simp -implicitDefEqProofs only [go_sem, Nat.reduceAdd, Nat.reduceLeDiff, Nat.reduceEqDiff, Nat.reduceBEq, Nat.reduceLT, h, hb4, e, h5])) | (refine plan_split rfl rfl (fun h => ?_) (fun h => ?_) <;> simp -implicitDefEqProofs only [go_sem, Nat.reduceAdd, Nat.reduceLeDiff, Nat.reduceEqDiff, Nat.reduceBEq, Nat.reduceLT, h, hb4, e, h5]) | (refine planD_split rfl rfl (fun h => ?_) (fun h => ?_) <;> simp -implicitDefEqProofs only [go_sem, Nat.reduceAdd, Nat.reduceLeDiff, Nat.reduceEqDiff, Nat.reduceBEq, Nat.reduceLT, h, hb4, e, h5]) | (refine go ?_; try simp -implicitDefEqProofs only [go_sem, Nat.reduceAdd, Nat.reduceLeDiff, Nat.reduceEqDiff, Nat.reduceBEq, Nat.reduceLT, hb4, e, h5]) | ((with_reducible refine wpC_id ?_); simp -implicitDefEqProofs only [go_sem, Nat.reduceAdd, Nat.reduceLeDiff, Nat.reduceEqDiff, Nat.reduceBEq, Nat.reduceLT, hb4, e, h5]) | ((with_reducible first | refine quiet_id ?_ | refine wrote_id ?_ | refine resQ_id ?_); simp -implicitDefEqProofs only [go_sem, Nat.reduceAdd, Nat.reduceLeDiff, Nat.reduceEqDiff, Nat.reduceBEq, Nat.reduceLT, hb4, e, h5]) | fail)
              exact ⟨n - 1, by omega, j + 1, acc ++ d.text, bNot (sEq d.text [39]), H4, by omega, hB4, by simp; omega, by rw [hJ, joinF, if_pos hk, if_neg (by simp [h7]), if_neg (by simp)], by rw [bNot_bNot]⟩
            | false =>
              rw [h5, Bool.false_and] at htk
              repeat' (first | (refine wpC_split rfl rfl (fun h => ?_) (fun h => ?_) <;> (try simp -implicitDefEqProofs only [go_sem, Nat.reduceAdd, Nat.reduceLeDiff, Nat.reduceEqDiff, Nat.reduceBEq, Nat.reduceLT, h, hb4, e, h5])) | (refine plan_split rfl rfl (fun h => ?_) (fun h => ?_) <;> simp -implicitDefEqProofs only [go_sem, Nat.reduceAdd, Nat.reduceLeDiff, Nat.reduceEqDiff, Nat.reduceBEq, Nat.reduceLT, h, hb4, e, h5]) | (refine planD_split rfl rfl (fun h => ?_) (fun h => ?_) <;> simp -implicitDefEqProofs only [go_sem, Nat.reduceAdd, Nat.reduceLeDiff, Nat.reduceEqDiff, Nat.reduceBEq, Nat.reduceLT, h, hb4, e, h5]) | (refine go ?_; try simp -implicitDefEqProofs only [go_sem, Nat.reduceAdd, Nat.reduceLeDiff, Nat.reduceEqDiff, Nat.reduceBEq, Nat.reduceLT, hb4, e, h5]) | ((with_reducible refine wpC_id ?_); simp -implicitDefEqProofs only [go_sem, Nat.reduceAdd, Nat.reduceLeDiff, Nat.reduceEqDiff, Nat.reduceBEq, Nat.reduceLT, hb4, e, h5]) | ((with_reducible first | refine quiet_id ?_ | refine wrote_id ?_ | refine resQ_id ?_); simp -implicitDefEqProofs only [go_sem, Nat.reduceAdd, Nat.reduceLeDiff, Nat.reduceEqDiff, Nat.reduceBEq, Nat.reduceLT, hb4, e, h5]) | fail)
              exact ⟨n - 1, by omega, j + 1, acc ++ d.text, bNot (sEq d.text [39]), H4, by omega, hB4, by simp; omega, by rw [hJ, joinF, if_pos hk, if_neg (by simp [h7]), if_neg (by simp)], by rw [bNot_bNot, ← htk]⟩
    · have hge := iLt_false.1 h
      rw [rLen_tok] at hge
      have : j = l.length := by omega
      subst this
      rw [List.drop_length] at hJ
      repeat' (first | (refine wpC_split rfl rfl (fun h => ?_) (fun h => ?_) <;> (try simp -implicitDefEqProofs only [go_sem, Nat.reduceAdd, Nat.reduceLeDiff, Nat.reduceEqDiff, Nat.reduceBEq, Nat.reduceLT, h])) | (refine plan_split rfl rfl (fun h => ?_) (fun h => ?_) <;> simp -implicitDefEqProofs only [go_sem, Nat.reduceAdd, Nat.reduceLeDiff, Nat.reduceEqDiff, Nat.reduceBEq, Nat.reduceLT, h]) | (refine planD_split rfl rfl (fun h => ?_) (fun h => ?_) <;> simp -implicitDefEqProofs only [go_sem, Nat.reduceAdd, Nat.reduceLeDiff, Nat.reduceEqDiff, Nat.reduceBEq, Nat.reduceLT, h]) | (refine go ?_; try simp -implicitDefEqProofs only [go_sem, Nat.reduceAdd, Nat.reduceLeDiff, Nat.reduceEqDiff, Nat.reduceBEq, Nat.reduceLT]) | ((with_reducible refine wpC_id ?_); simp -implicitDefEqProofs only [go_sem, Nat.reduceAdd, Nat.reduceLeDiff, Nat.reduceEqDiff, Nat.reduceBEq, Nat.reduceLT]) | ((with_reducible first | refine quiet_id ?_ | refine wrote_id ?_ | refine resQ_id ?_); simp -implicitDefEqProofs only [go_sem, Nat.reduceAdd, Nat.reduceLeDiff, Nat.reduceEqDiff, Nat.reduceBEq, Nat.reduceLT]) | fail)
      exact ⟨acc, _, H', hH, hacc, hJ, rfl⟩
  · rintro _ ⟨acc, b, H', hH, hacc, hJ, rfl⟩
    rw [hJ]
    repeat' (first | (refine wpC_split rfl rfl (fun h => ?_) (fun h => ?_) <;> (try simp -implicitDefEqProofs only [go_sem, Nat.reduceAdd, Nat.reduceLeDiff, Nat.reduceEqDiff, Nat.reduceBEq, Nat.reduceLT, h])) | (refine plan_split rfl rfl (fun h => ?_) (fun h => ?_) <;> simp -implicitDefEqProofs only [go_sem, Nat.reduceAdd, Nat.reduceLeDiff, Nat.reduceEqDiff, Nat.reduceBEq, Nat.reduceLT, h]) | (refine planD_split rfl rfl (fun h => ?_) (fun h => ?_) <;> simp -implicitDefEqProofs only [go_sem, Nat.reduceAdd, Nat.reduceLeDiff, Nat.reduceEqDiff, Nat.reduceBEq, Nat.reduceLT, h]) | (refine go ?_; try simp -implicitDefEqProofs only [go_sem, Nat.reduceAdd, Nat.reduceLeDiff, Nat.reduceEqDiff, Nat.reduceBEq, Nat.reduceLT]) | ((with_reducible refine wpC_id ?_); simp -implicitDefEqProofs only [go_sem, Nat.reduceAdd, Nat.reduceLeDiff, Nat.reduceEqDiff, Nat.reduceBEq, Nat.reduceLT]) | ((with_reducible first | refine quiet_id ?_ | refine wrote_id ?_ | refine resQ_id ?_); simp -implicitDefEqProofs only [go_sem, Nat.reduceAdd, Nat.reduceLeDiff, Nat.reduceEqDiff, Nat.reduceBEq, Nat.reduceLT]) | fail)
    refine String_calls hH (by omega) fun H2 hle => ?_
    simp -implicitDefEqProofs only [go_sem, Nat.reduceAdd, Nat.reduceLeDiff, Nat.reduceEqDiff, Nat.reduceBEq, Nat.reduceLT]
    repeat' (first | (refine wpC_split rfl rfl (fun h => ?_) (fun h => ?_) <;> (try simp -implicitDefEqProofs only [go_sem, Nat.reduceAdd, Nat.reduceLeDiff, Nat.reduceEqDiff, Nat.reduceBEq, Nat.reduceLT, h])) | (refine plan_split rfl rfl (fun h => ?_) (fun h => ?_) <;> simp -implicitDefEqProofs only [go_sem, Nat.reduceAdd, Nat.reduceLeDiff, Nat.reduceEqDiff, Nat.reduceBEq, Nat.reduceLT, h]) | (refine planD_split rfl rfl (fun h => ?_) (fun h => ?_) <;> simp -implicitDefEqProofs only [go_sem, Nat.reduceAdd, Nat.reduceLeDiff, Nat.reduceEqDiff, Nat.reduceBEq, Nat.reduceLT, h]) | (refine go ?_; try simp -implicitDefEqProofs only [go_sem, Nat.reduceAdd, Nat.reduceLeDiff, Nat.reduceEqDiff, Nat.reduceBEq, Nat.reduceLT]) | ((with_reducible refine wpC_id ?_); simp -implicitDefEqProofs only [go_sem, Nat.reduceAdd, Nat.reduceLeDiff, Nat.reduceEqDiff, Nat.reduceBEq, Nat.reduceLT]) | ((with_reducible first | refine quiet_id ?_ | refine wrote_id ?_ | refine resQ_id ?_); simp -implicitDefEqProofs only [go_sem, Nat.reduceAdd, Nat.reduceLeDiff, Nat.reduceEqDiff, Nat.reduceBEq, Nat.reduceLT]) | fail)
    exact ⟨_, rfl, .refl _, hle⟩

end Go.Proofs.YtkcljempplchkaaDoor

/- LexisJoins: the law answers true. -/
set_option maxRecDepth 100000
set_option linter.unusedVariables false
set_option linter.unusedSimpArgs false
namespace Go.Proofs.YtkcljempplchkaaDoor
open Go.Eng

theorem LawJoins_pure (l : List Token) (hn : l.length * 32 ≤ 140737488355328) (hl : ∀ d ∈ l, d.text.length ≤ 281474976710656) : PureCall lexC f_LawJoins [.sl (tokRows l) .no] (.bool true) := by
  have step : ∀ (t : Tok) {ds : List ADef} {R : Res} (H : Hp), (∀ t H', H.le H' → R (.sl (tokRows l) t) H' ds) → appP 3 32 33 (.sl [] .full) (.sl (tokRows l) .no) H ds R := by
    intro t ds R H h
    by_cases hne : l = []
    · subst hne
      unfold appP
      exact h .full H (fun _ _ h => h)
    · refine appP_full (by cases l with | nil => exact absurd rfl hne | cons x l => simp [tokRows]) (by simp) (tokRows_sz _) (by rw [tokRows_len]; simp; omega) fun id hid => ?_
      exact h _ _ (le_upd hid)
  have z1 : iEq 0 2 = false := by decide
  have z2 : iEq 2 0 = false := by decide
  have z3 : bEq true true = true := rfl
  have z4 : bEq false false = true := rfl
  have z5 : sEq [] [] = true := by decide
  have h2 := fun t => Join_pure l t hn hl
  have h3 := fun t => rJoin_pure (O := lexC) l t hn
  cases hJ : joinF [] false l with
  | some s =>
    rw [hJ] at h2 h3
    simp only [joinT, joinR] at h2 h3
    refine entryF h_LawJoins rfl fun H => ?_; simp -implicitDefEqProofs only [go_sem, Nat.reduceAdd, Nat.reduceLeDiff, Nat.reduceEqDiff, Nat.reduceBEq, Nat.reduceLT, c_LawJoins]
    refine go ?_; simp -implicitDefEqProofs only [go_sem, Nat.reduceAdd, Nat.reduceLeDiff, Nat.reduceEqDiff, Nat.reduceBEq, Nat.reduceLT]
    refine step .no H fun t H' hle => ?_
    simp -implicitDefEqProofs only [go_sem, Nat.reduceAdd, Nat.reduceLeDiff, Nat.reduceEqDiff, Nat.reduceBEq, Nat.reduceLT]
    refine PureCall.step (h2 t) ?_
    simp -implicitDefEqProofs only [go_sem, Nat.reduceAdd, Nat.reduceLeDiff, Nat.reduceEqDiff, Nat.reduceBEq, Nat.reduceLT]
    repeat' (first | ((with_reducible refine PureCall.step (h3 .no) ?_); simp -implicitDefEqProofs only [go_sem, Nat.reduceAdd, Nat.reduceLeDiff, Nat.reduceEqDiff, Nat.reduceBEq, Nat.reduceLT, z1, z2, z3, z4, sEq_self]) | ((with_reducible refine PureCall.step (awake_pure) ?_); simp -implicitDefEqProofs only [go_sem, Nat.reduceAdd, Nat.reduceLeDiff, Nat.reduceEqDiff, Nat.reduceBEq, Nat.reduceLT, z1, z2, z3, z4, sEq_self]) | (refine wpC_split rfl rfl (fun h => ?_) (fun h => ?_) <;> (try simp -implicitDefEqProofs only [go_sem, Nat.reduceAdd, Nat.reduceLeDiff, Nat.reduceEqDiff, Nat.reduceBEq, Nat.reduceLT, h, z1, z2, z3, z4, sEq_self])) | (refine plan_split rfl rfl (fun h => ?_) (fun h => ?_) <;> simp -implicitDefEqProofs only [go_sem, Nat.reduceAdd, Nat.reduceLeDiff, Nat.reduceEqDiff, Nat.reduceBEq, Nat.reduceLT, h, z1, z2, z3, z4, sEq_self]) | (refine planD_split rfl rfl (fun h => ?_) (fun h => ?_) <;> simp -implicitDefEqProofs only [go_sem, Nat.reduceAdd, Nat.reduceLeDiff, Nat.reduceEqDiff, Nat.reduceBEq, Nat.reduceLT, h, z1, z2, z3, z4, sEq_self]) | (refine go ?_; try simp -implicitDefEqProofs only [go_sem, Nat.reduceAdd, Nat.reduceLeDiff, Nat.reduceEqDiff, Nat.reduceBEq, Nat.reduceLT, z1, z2, z3, z4, sEq_self]) | ((with_reducible refine wpC_id ?_); simp -implicitDefEqProofs only [go_sem, Nat.reduceAdd, Nat.reduceLeDiff, Nat.reduceEqDiff, Nat.reduceBEq, Nat.reduceLT, z1, z2, z3, z4, sEq_self]) | ((with_reducible first | refine quiet_id ?_ | refine wrote_id ?_ | refine resQ_id ?_); simp -implicitDefEqProofs only [go_sem, Nat.reduceAdd, Nat.reduceLeDiff, Nat.reduceEqDiff, Nat.reduceBEq, Nat.reduceLT, z1, z2, z3, z4, sEq_self]) | fail)
    exact ⟨_, rfl, .refl _, hle⟩
  | none =>
    rw [hJ] at h2 h3
    simp only [joinT, joinR] at h2 h3
    refine entryF h_LawJoins rfl fun H => ?_; simp -implicitDefEqProofs only [go_sem, Nat.reduceAdd, Nat.reduceLeDiff, Nat.reduceEqDiff, Nat.reduceBEq, Nat.reduceLT, c_LawJoins]
    refine go ?_; simp -implicitDefEqProofs only [go_sem, Nat.reduceAdd, Nat.reduceLeDiff, Nat.reduceEqDiff, Nat.reduceBEq, Nat.reduceLT]
    refine step .no H fun t H' hle => ?_
    simp -implicitDefEqProofs only [go_sem, Nat.reduceAdd, Nat.reduceLeDiff, Nat.reduceEqDiff, Nat.reduceBEq, Nat.reduceLT]
    refine PureCall.step (h2 t) ?_
    simp -implicitDefEqProofs only [go_sem, Nat.reduceAdd, Nat.reduceLeDiff, Nat.reduceEqDiff, Nat.reduceBEq, Nat.reduceLT]
    repeat' (first | ((with_reducible refine PureCall.step (h3 .no) ?_); simp -implicitDefEqProofs only [go_sem, Nat.reduceAdd, Nat.reduceLeDiff, Nat.reduceEqDiff, Nat.reduceBEq, Nat.reduceLT, z1, z2, z3, z4, z5]) | ((with_reducible refine PureCall.step (awake_pure) ?_); simp -implicitDefEqProofs only [go_sem, Nat.reduceAdd, Nat.reduceLeDiff, Nat.reduceEqDiff, Nat.reduceBEq, Nat.reduceLT, z1, z2, z3, z4, z5]) | (refine wpC_split rfl rfl (fun h => ?_) (fun h => ?_) <;> (try simp -implicitDefEqProofs only [go_sem, Nat.reduceAdd, Nat.reduceLeDiff, Nat.reduceEqDiff, Nat.reduceBEq, Nat.reduceLT, h, z1, z2, z3, z4, z5])) | (refine plan_split rfl rfl (fun h => ?_) (fun h => ?_) <;> simp -implicitDefEqProofs only [go_sem, Nat.reduceAdd, Nat.reduceLeDiff, Nat.reduceEqDiff, Nat.reduceBEq, Nat.reduceLT, h, z1, z2, z3, z4, z5]) | (refine planD_split rfl rfl (fun h => ?_) (fun h => ?_) <;> simp -implicitDefEqProofs only [go_sem, Nat.reduceAdd, Nat.reduceLeDiff, Nat.reduceEqDiff, Nat.reduceBEq, Nat.reduceLT, h, z1, z2, z3, z4, z5]) | (refine go ?_; try simp -implicitDefEqProofs only [go_sem, Nat.reduceAdd, Nat.reduceLeDiff, Nat.reduceEqDiff, Nat.reduceBEq, Nat.reduceLT, z1, z2, z3, z4, z5]) | ((with_reducible refine wpC_id ?_); simp -implicitDefEqProofs only [go_sem, Nat.reduceAdd, Nat.reduceLeDiff, Nat.reduceEqDiff, Nat.reduceBEq, Nat.reduceLT, z1, z2, z3, z4, z5]) | ((with_reducible first | refine quiet_id ?_ | refine wrote_id ?_ | refine resQ_id ?_); simp -implicitDefEqProofs only [go_sem, Nat.reduceAdd, Nat.reduceLeDiff, Nat.reduceEqDiff, Nat.reduceBEq, Nat.reduceLT, z1, z2, z3, z4, z5]) | fail)
    exact ⟨_, rfl, .refl _, hle⟩

end Go.Proofs.YtkcljempplchkaaDoor

