/- Deferred calls: what a function does behind its body. -/
import Derived.Test.YtmpoklkgdcofbaaGreatDoorG09E22E22
import Derived.Recover
set_option linter.unusedVariables false
set_option linter.unusedSimpArgs false
namespace Go.Eng
open Go.RowKit (Below)

/-- The panic that is under way, or none: the mode of the frame that leaves. -/
def Mode (G : Gh) (w : World) : Option AVal → FrameMode → Prop
  | none, u => u = .returning
  | some v, u => ∃ x, u = .panicking [{ v := x, recovered := false }] ∧ Rep G w v x

theorem Mode.mono {G G' : Gh} {w w' : World} {p : Option AVal} {u : FrameMode} (h : Mode G w p u) (x : GExt G w G' w') : Mode G' w' p u := by
  cases p with
  | none => exact h
  | some v => obtain ⟨y, h1, h2⟩ := h; exact ⟨y, h1, h2.mono x⟩

/-- The contract of a deferred call: it is entered while a panic is under way, or none; behind it one still is, or none. It does not panic itself. -/
def ADCalls (O : Cfg) (P : Program) (f : FuncId) (args : List AVal) (p : Option AVal) (H : Hp) (R : Option AVal → Hp → Prop) : Prop :=
  (∀ vs w, (callFunc f vs).run P w = .ok (.enter f vs) w) ∧
  ∀ base w0 G w vs u, O.L base w0 → Wr base w0 H G w → Reps G w args vs → Mode G w p u →
    CallsD P f vs.toArray u w fun e u' w' => match e with
      | .outgrown => O.O
      | .panicked _ => False
      | .returned _ => ∃ p' H' G', Mode G' w' p' (settle u') ∧ R p' H' ∧ Wr base w0 H' G' w' ∧ GExt G w G' w' ∧ Fr H G w H' G' w'

theorem ADCalls.mono {O : Cfg} {P : Program} {f : FuncId} {args : List AVal} {p : Option AVal} {H : Hp} {R R' : Option AVal → Hp → Prop} (h : ADCalls O P f args p H R) (hr : ∀ p H, R p H → R' p H) : ADCalls O P f args p H R' :=
  ⟨h.1, fun base w0 G w vs u hL hw hv hm => (h.2 base w0 G w vs u hL hw hv hm).mono fun e u' w' k => by
    cases e with
    | outgrown => exact k
    | panicked c => exact k
    | returned v => obtain ⟨p', H', G', k1, k2, k3⟩ := k; exact ⟨p', H', G', k1, hr _ _ k2, k3⟩⟩

/-- The calls that were deferred, the last one first; then the results are read, or the panic goes on. -/
def leavesA (O : Cfg) (P : Program) (ars : List ARes) (tm : List AVal) (Q : ARet → Hp → Prop) : List ADef → Option AVal → Hp → Prop
  | [], none, H => match resA ⟨tm, H, []⟩ ars with
    | some vs => Q (.ret (one1 vs)) H
    | none => False
  | [], some v, H => Q (.panic v) H
  | d :: ds, p, H => match d.fn with
    | .func g => ADCalls O P g (d.args ++ d.caps) p H fun p' H' => leavesA O P ars tm Q ds p' H'
    | _ => False

def bodyD (O : Cfg) (P : Program) (ars : List ARes) (Q : ARet → Hp → Prop) : Post
  | .normal, s => leavesA O P ars s.tm Q s.ds none s.hp
  | .ret, s => leavesA O P ars s.tm Q s.ds none s.hp
  | .panic v, s => leavesA O P ars s.tm Q s.ds (some v) s.hp
  | _, _ => False

section
variable {O : Cfg} {P : Program} {base : Nat} {w0 : World}

theorem leaves_ok {fn : Func} {ars : List ARes} (hc : compRes P fn.results.toList = some ars) (hL : O.L base w0) {Q : ARet → Hp → Prop} {H0 : Hp} {G0 : Gh} {wA : World} {tm : List AVal} : ∀ (ds : List ADef) (cs : List Deferred) (p : Option AVal) (u : FrameMode) (H : Hp) (G : Gh) (w : World) (tmps : Array Value),
    DsRep G w ds cs → Mode G w p u → Wr base w0 H G w → Reps G w tm tmps.toList → GExt G0 wA G w → Fr H0 G0 wA H G w → leavesA O P ars tm Q ds p H → Leaves P fn tmps (RMeets O base w0 H0 G0 wA Q) cs u w
  | [], cs, p, u, H, G, w, tmps, hd, hm, hw, ht, hx, hf, h => by
    cases cs with
    | cons c cs => exact hd.elim
    | nil =>
      cases p with
      | none =>
        have hm' : u = .returning := hm
        subst hm'
        simp only [leavesA] at h
        cases hr : resA ⟨tm, H, []⟩ ars with
        | none => rw [hr] at h; exact h.elim
        | some vs =>
          rw [hr] at h
          obtain ⟨v, e1, e2⟩ := results_run (P := P) (s := ⟨tm, H, []⟩) (a := ⟨tmps, []⟩) hw ht hc hr
          exact ⟨v, e1, _, H, G, e2, h, hw, hx, hf⟩
      | some v =>
        obtain ⟨x, rfl, hr⟩ := hm
        exact ⟨v, x, H, G, rfl, hr, h, hw, hx, hf⟩
  | d :: ds, cs, p, u, H, G, w, tmps, hd, hm, hw, ht, hx, hf, h => by
    cases cs with
    | nil => exact hd.elim
    | cons c cs =>
      obtain ⟨⟨caps, h1, h2, h3⟩, hds⟩ := hd
      simp only [leavesA] at h
      split at h
      · rename_i g hg
        obtain ⟨hent, hcall⟩ := h
        obtain ⟨tgt, cargs⟩ := c
        simp only at h1 h3
        subst h1
        have hu : u ≠ .run := by
          cases p with
          | none => have hm' : u = .returning := hm; rw [hm']; simp
          | some v => obtain ⟨x, rfl, _⟩ := hm; simp
        rw [hg]
        refine leaves_cons (f := g) (args := cargs ++ caps.toArray) hu (by simp only [invoke, hent]) ?_
        have := hcall base w0 G w (cargs.toList ++ caps) u hL hw (h3.append h2) hm
        rw [show (cargs.toList ++ caps).toArray = cargs ++ caps.toArray by apply Array.ext'; simp] at this
        refine this.mono fun e u' w' k => ?_
        cases e with
        | outgrown => exact k
        | panicked ch => exact k.elim
        | returned r =>
          obtain ⟨p', H', G', k1, k2, k3, k4, k5⟩ := k
          exact leaves_ok hc hL ds cs p' (settle u') H' G' w' tmps (hds.mono k4) k1 k3 (ht.mono k4) (hx.trans k4) (hf.trans hx.size k5) k2
      · exact h.elim

/-- A function that defers calls. -/
theorem acallsD_of_wp {f : FuncId} {fn : Func} {c : Code} {args : List AVal} {H : Hp} {Q : ARet → Hp → Prop} {ars : List ARes} {n : Nat} (hf : P.funcs[f]? = some fn) (hb : fn.body = some c) (hn : (fn.name == "runtime.NumGoroutine") = false)
    (hr : compRes P fn.results.toList = some ars) (hnt : fn.ntmps = n)
    (h : AWp O P c (bodyD O P ars Q) ⟨args ++ List.replicate (n - args.length) (.tup []), H, []⟩) : ACalls O P f args H Q := by
  intro base w0 G w vs hL hw hvs
  have hcall : (callFunc f vs.toArray).run P w = .ok (.enter f vs.toArray) w := by
    simp only [callFunc, Sem.run_bind, run_program, Result.andThen_ok, hf, hn, hb]
    rfl
  refine .inl ⟨hcall, calls_of_wp_defers hf hb ?_⟩
  have hlen := hvs.1
  have ht : Reps G w (args ++ List.replicate (n - args.length) (.tup [])) ({ tmps := vs.toArray ++ Array.replicate (fn.ntmps - vs.toArray.size) undef, defers := [] } : Act).tmps.toList := by
    have e : (vs.toArray ++ Array.replicate (fn.ntmps - vs.toArray.size) undef).toList = vs ++ List.replicate (n - args.length) undef := by
      simp [hnt, hlen]
    simp only [e]
    refine hvs.append ⟨by simp, fun i a v ha hv => ?_⟩
    rw [List.getElem?_replicate] at ha hv
    split at ha
    · rename_i hi
      rw [if_pos hi] at hv
      cases ha; cases hv
      exact Rep.tup' Reps.nil
    · cases ha
  refine Code.wp_mono ?_ (h base w0 G w _ hL hw ht trivial)
  intro e a' w' hm
  cases e with
  | normal =>
    obtain ⟨s', G', h1, hg⟩ := hm
    exact leaves_ok hr hL s'.ds a'.defers none .returning s'.hp G' w' a'.tmps hg.ds rfl hg.wr hg.tm hg.ext hg.fr h1
  | ret =>
    obtain ⟨s', G', h1, hg⟩ := hm
    exact leaves_ok hr hL s'.ds a'.defers none .returning s'.hp G' w' a'.tmps hg.ds rfl hg.wr hg.tm hg.ext hg.fr h1
  | panic ch =>
    obtain ⟨v, u, s', G', rfl, e2, h1, hg⟩ := hm
    exact leaves_ok hr hL s'.ds a'.defers (some v) _ s'.hp G' w' a'.tmps hg.ds ⟨u, rfl, e2⟩ hg.wr hg.tm hg.ext hg.fr h1
  | outgrown => exact hm
  | exit id => obtain ⟨s', G', h1, hg⟩ := hm; exact h1.elim
  | goto l => obtain ⟨s', G', h1, hg⟩ := hm; exact h1.elim
end
end Go.Eng

/- Numbers renamed: what an operation answers does not hang on how objects are numbered. -/
set_option linter.unusedVariables false
set_option linter.unusedSimpArgs false
namespace Go.Eng

def Tok.ren (ρ : Nat → Nat) : Tok → Tok
  | .own i s => .own (ρ i) s
  | .no => .no
  | .full => .full
  | .frz => .frz
  | .nil => .nil

mutual
def AVal.ren (ρ : Nat → Nat) : AVal → AVal
  | .bool b => .bool b
  | .int k n => .int k n
  | .str s => .str s
  | .agg cs => .agg (renL ρ cs)
  | .sl rows t => .sl (renR ρ rows) (t.ren ρ)
  | .slm i n s => .slm (ρ i) n s
  | .ref i o => .ref (ρ i) o
  | .ip cs => .ip (renL ρ cs)
  | .nilptr => .nilptr
  | .map i => .map (ρ i)
  | .nilmap => .nilmap
  | .func f a b => .func f (renL ρ a) (renL ρ b)
  | .nilfunc => .nilfunc
  | .iface t v => .iface t (v.ren ρ)
  | .nilif => .nilif
  | .tup cs => .tup (renL ρ cs)
  | .unk => .unk
def renL (ρ : Nat → Nat) : List AVal → List AVal
  | [] => []
  | v :: vs => v.ren ρ :: renL ρ vs
def renR (ρ : Nat → Nat) : List (List AVal) → List (List AVal)
  | [] => []
  | r :: rs => renL ρ r :: renR ρ rs
end

def Tok.bnd (k : Nat) : Tok → Bool
  | .own i _ => Nat.blt i k
  | _ => true

mutual
/-- All numbers in it are below k. -/
def AVal.bnd (k : Nat) : AVal → Bool
  | .agg cs => bndL k cs
  | .sl rows t => bndR k rows && t.bnd k
  | .slm i _ _ => Nat.blt i k
  | .ref i _ => Nat.blt i k
  | .ip cs => bndL k cs
  | .map i => Nat.blt i k
  | .func _ a b => bndL k a && bndL k b
  | .iface _ v => v.bnd k
  | .tup cs => bndL k cs
  | _ => true
def bndL (k : Nat) : List AVal → Bool
  | [] => true
  | v :: vs => v.bnd k && bndL k vs
def bndR (k : Nat) : List (List AVal) → Bool
  | [] => true
  | r :: rs => bndL k r && bndR k rs
end

theorem renL_map (ρ : Nat → Nat) (l : List AVal) : renL ρ l = l.map (AVal.ren ρ) := by
  induction l with
  | nil => rfl
  | cons v l ih => rw [renL, ih]; rfl
theorem renR_map (ρ : Nat → Nat) (l : List (List AVal)) : renR ρ l = l.map (renL ρ) := by
  induction l with
  | nil => rfl
  | cons v l ih => rw [renR, ih]; rfl

-- renamings that agree on what occurs
mutual
theorem AVal.ren_congr {ρ ρ' : Nat → Nat} {k : Nat} (h : ∀ i, i < k → ρ i = ρ' i) : ∀ v : AVal, v.bnd k = true → v.ren ρ = v.ren ρ'
  | .bool b, _ => rfl
  | .int k n, _ => rfl
  | .str s, _ => rfl
  | .agg cs, hb => by rw [AVal.ren, AVal.ren, renL_congr h cs hb]
  | .sl rows t, hb => by
    have hb' : bndR k rows = true ∧ t.bnd k = true := by simpa only [AVal.bnd, Bool.and_eq_true] using hb
    rw [AVal.ren, AVal.ren, renR_congr h rows hb'.1]
    cases t with
    | own i s => have := hb'.2; simp only [Tok.bnd, Nat.blt_eq] at this; simp only [Tok.ren, h i this]
    | no => rfl
    | full => rfl
    | frz => rfl
    | nil => rfl
  | .slm i n s, hb => by rw [AVal.bnd, Nat.blt_eq] at hb; rw [AVal.ren, AVal.ren, h i hb]
  | .ref i o, hb => by rw [AVal.bnd, Nat.blt_eq] at hb; rw [AVal.ren, AVal.ren, h i hb]
  | .ip cs, hb => by rw [AVal.ren, AVal.ren, renL_congr h cs hb]
  | .nilptr, _ => rfl
  | .map i, hb => by rw [AVal.bnd, Nat.blt_eq] at hb; rw [AVal.ren, AVal.ren, h i hb]
  | .nilmap, _ => rfl
  | .func f a b, hb => by
    rw [AVal.bnd, Bool.and_eq_true] at hb
    rw [AVal.ren, AVal.ren, renL_congr h a hb.1, renL_congr h b hb.2]
  | .nilfunc, _ => rfl
  | .iface t v, hb => by rw [AVal.ren, AVal.ren, AVal.ren_congr h v hb]
  | .nilif, _ => rfl
  | .tup cs, hb => by rw [AVal.ren, AVal.ren, renL_congr h cs hb]
  | .unk, _ => rfl
theorem renL_congr {ρ ρ' : Nat → Nat} {k : Nat} (h : ∀ i, i < k → ρ i = ρ' i) : ∀ l : List AVal, bndL k l = true → renL ρ l = renL ρ' l
  | [], _ => rfl
  | v :: vs, hb => by
    rw [bndL, Bool.and_eq_true] at hb
    rw [renL, renL, AVal.ren_congr h v hb.1, renL_congr h vs hb.2]
theorem renR_congr {ρ ρ' : Nat → Nat} {k : Nat} (h : ∀ i, i < k → ρ i = ρ' i) : ∀ l : List (List AVal), bndR k l = true → renR ρ l = renR ρ' l
  | [], _ => rfl
  | v :: vs, hb => by
    rw [bndR, Bool.and_eq_true] at hb
    rw [renR, renR, renL_congr h v hb.1, renR_congr h vs hb.2]
end

def Ob.ren (ρ : Nat → Nat) : Ob → Ob
  | .cells cs o => .cells (renL ρ cs) o
  | .map es => .map (es.map fun p => (p.1.ren ρ, p.2.ren ρ))
  | .tok n sz o => .tok n sz o
  | .gone => .gone
def Ob.bnd (k : Nat) : Ob → Bool
  | .cells cs _ => bndL k cs
  | .map es => es.all fun p => p.1.bnd k && p.2.bnd k
  | .tok _ _ _ => true
  | .gone => true

end Go.Eng

/- Numbers renamed: the operations that write nothing. -/
set_option linter.unusedVariables false
set_option linter.unusedSimpArgs false
namespace Go.Eng

theorem ren_id0 {ρ : Nat → Nat} {v : AVal} (h : v.bnd 0 = true) : ∀ ρ' : Nat → Nat, v.ren ρ = v.ren ρ' := fun ρ' => AVal.ren_congr (k := 0) (fun i hi => by omega) v h

mutual
theorem AVal.ren_same : ∀ v : AVal, v.ren (fun i => i) = v
  | .bool b => rfl
  | .int k n => rfl
  | .str s => rfl
  | .agg cs => by rw [AVal.ren, renL_same]
  | .sl rows t => by rw [AVal.ren, renR_same]; cases t <;> rfl
  | .slm i n s => rfl
  | .ref i o => rfl
  | .ip cs => by rw [AVal.ren, renL_same]
  | .nilptr => rfl
  | .map i => rfl
  | .nilmap => rfl
  | .func f a b => by rw [AVal.ren, renL_same, renL_same]
  | .nilfunc => rfl
  | .iface t v => by rw [AVal.ren, AVal.ren_same]
  | .nilif => rfl
  | .tup cs => by rw [AVal.ren, renL_same]
  | .unk => rfl
theorem renL_same : ∀ l : List AVal, renL (fun i => i) l = l
  | [] => rfl
  | v :: vs => by rw [renL, AVal.ren_same, renL_same]
theorem renR_same : ∀ l : List (List AVal), renR (fun i => i) l = l
  | [] => rfl
  | v :: vs => by rw [renR, renL_same, renR_same]
end

theorem ren_const (ρ : Nat → Nat) {v : AVal} (h : v.bnd 0 = true) : v.ren ρ = v := (ren_id0 h _).trans (AVal.ren_same v)

def Opd.clo : Opd → Bool
  | .c v => v.bnd 0
  | _ => true

theorem renL_getD (ρ : Nat → Nat) (tm : List AVal) (i : Nat) : (renL ρ tm).getD i .unk = (tm.getD i .unk).ren ρ := by
  rw [renL_map, List.getD_eq_getElem?_getD, List.getD_eq_getElem?_getD, List.getElem?_map]
  cases tm[i]? <;> rfl

theorem ev_ren (ρ : Nat → Nat) (tm : List AVal) {o : Opd} (h : o.clo = true) : ev (renL ρ tm) o = (ev tm o).ren ρ := by
  cases o with
  | t i => exact renL_getD ρ tm i
  | c v => exact (ren_const ρ h).symm
  | f f => rfl

theorem known_ren (ρ : Nat → Nat) (v : AVal) : (v.ren ρ).known = v.known := by cases v <;> rfl
theorem one_ren (ρ : Nat → Nat) (v : AVal) : (v.ren ρ).one = v.one := by cases v <;> rfl
theorem cells_ren (ρ : Nat → Nat) (v : AVal) : (v.ren ρ).cells = renL ρ v.cells := by
  cases v <;> first | rfl | (simp [AVal.ren, AVal.cells, renL])
theorem renL_len (ρ : Nat → Nat) (l : List AVal) : (renL ρ l).length = l.length := by rw [renL_map, List.length_map]
theorem renL_app (ρ : Nat → Nat) (a b : List AVal) : renL ρ (a ++ b) = renL ρ a ++ renL ρ b := by simp [renL_map]
theorem renL_take (ρ : Nat → Nat) (n : Nat) (a : List AVal) : renL ρ (a.take n) = (renL ρ a).take n := by simp [renL_map, List.map_take]
theorem renL_drop (ρ : Nat → Nat) (n : Nat) (a : List AVal) : renL ρ (a.drop n) = (renL ρ a).drop n := by simp [renL_map, List.map_drop]
theorem renL_get (ρ : Nat → Nat) (a : List AVal) (i : Nat) : (renL ρ a)[i]? = (a[i]?).map (AVal.ren ρ) := by rw [renL_map, List.getElem?_map]
theorem renR_len (ρ : Nat → Nat) (l : List (List AVal)) : (renR ρ l).length = l.length := by rw [renR_map, List.length_map]
theorem renR_app (ρ : Nat → Nat) (a b : List (List AVal)) : renR ρ (a ++ b) = renR ρ a ++ renR ρ b := by simp [renR_map]
theorem renR_take (ρ : Nat → Nat) (n : Nat) (a : List (List AVal)) : renR ρ (a.take n) = (renR ρ a).take n := by simp [renR_map, List.map_take]
theorem renR_drop (ρ : Nat → Nat) (n : Nat) (a : List (List AVal)) : renR ρ (a.drop n) = (renR ρ a).drop n := by simp [renR_map, List.map_drop]
theorem renR_get (ρ : Nat → Nat) (a : List (List AVal)) (i : Nat) : (renR ρ a)[i]? = (a[i]?).map (renL ρ) := by rw [renR_map, List.getElem?_map]

/-- The store, renamed: what is known of an object is known of the renamed one. -/
def HRen (ρ : Nat → Nat) (H H' : Hp) : Prop := ∀ i o, H i = some o → H' (ρ i) = some (o.ren ρ)

theorem binA_ren {ρ : Nat → Nat} {op : BinOp} {x y v : AVal} (h : binA op x y = some v) : binA op (x.ren ρ) (y.ren ρ) = some (v.ren ρ) := by
  cases x <;> cases y <;> simp only [binA, reduceCtorEq] at h
  · rename_i k a k' b
    simp only [AVal.ren, binA]
    split at h
    · rename_i hk
      rw [if_pos hk]
      cases op <;> simp only [reduceCtorEq, Option.some.injEq] at h ⊢ <;> first | (subst h; rfl) | (split at h <;> first | (cases h; done) | (rename_i hb; rw [if_neg hb]; cases h; rfl))
    · cases h
  · rename_i a b
    simp only [AVal.ren, binA]
    cases op <;> simp only [reduceCtorEq, Option.some.injEq] at h ⊢ <;> first | (subst h; rfl) | (split at h <;> first | (cases h; done) | (rename_i hb; rw [if_pos hb]; cases h; rfl))

theorem isNilA_ren {ρ : Nat → Nat} {nk : NK} {x : AVal} {b : Bool} (h : isNilA nk x = some b) : isNilA nk (x.ren ρ) = some b := by
  cases nk <;> cases x <;> simp only [isNilA, reduceCtorEq] at h <;> first | exact h | skip
  all_goals (rename_i rows t; cases rows with | nil => simp [isNilA] at h | cons r rs => simp only [AVal.ren, renR, isNilA] at h ⊢; exact h)

theorem eqCell_ren {ρ : Nat → Nat} {k : KK} {x y : AVal} {b : Bool} (h : eqCell k x y = some b) : eqCell k (x.ren ρ) (y.ren ρ) = some b := by
  cases k <;> cases x <;> cases y <;> simp only [eqCell, reduceCtorEq] at h <;> first | exact h | skip

theorem eqCells_ren {ρ : Nat → Nat} : ∀ {ks : List (Nat × KK)} {xs ys : List AVal} {b : Bool}, eqCells ks xs ys = some b → eqCells ks (renL ρ xs) (renL ρ ys) = some b
  | [], xs, ys, b, h => h
  | (off, k) :: rest, xs, ys, b, h => by
    simp only [eqCells] at h ⊢
    rw [renL_get, renL_get]
    cases hx : xs[off]? with
    | none => simp [hx] at h
    | some x =>
      cases hy : ys[off]? with
      | none => simp [hx, hy] at h
      | some y =>
        simp only [hx, hy, Option.map_some] at h ⊢
        cases he : eqCell k x y with
        | none => simp [he] at h
        | some c =>
          rw [eqCell_ren he]
          simp only [he] at h
          cases c with
          | true => exact eqCells_ren h
          | false => exact h

theorem findA_ren {ρ : Nat → Nat} {kk : KK} {k : AVal} : ∀ {es : List (AVal × AVal)} {r : Option AVal}, findA kk k es = some r → findA kk (k.ren ρ) (es.map fun p => (p.1.ren ρ, p.2.ren ρ)) = some (r.map (AVal.ren ρ))
  | [], r, h => by simp only [findA, Option.some.injEq] at h; subst h; rfl
  | (k', v) :: rest, r, h => by
    simp only [findA, List.map_cons] at h ⊢
    cases he : eqCell kk k k' with
    | none => simp [he] at h
    | some c =>
      rw [eqCell_ren he]
      simp only [he] at h
      cases c with
      | true => simp only [Option.some.injEq] at h ⊢; subst h; rfl
      | false => exact findA_ren h

end Go.Eng

/- Numbers renamed: every operation that writes nothing. -/
set_option linter.unusedVariables false
set_option linter.unusedSimpArgs false
namespace Go.Eng

def AOp.clo (op : AOp) : Bool :=
  op.opds.all Opd.clo && match op with
    | .build z _ => bndL 0 z
    | .tas _ _ z _ => z.bnd 0
    | .look _ _ z _ _ => z.bnd 0
    | .alloc z => bndL 0 z
    | .allocT _ z => bndL 0 z
    | _ => true

section
variable {ρ : Nat → Nat}

theorem renL_const {l : List AVal} (h : bndL 0 l = true) : renL ρ l = l :=
  (renL_congr (k := 0) (fun i hi => by omega) l h).trans (renL_same l)

theorem takeA_ren {k : Option Nat} {cs : List AVal} {v : AVal} (h : takeA k cs = some v) : takeA k (renL ρ cs) = some (v.ren ρ) := by
  cases k with
  | none => simp only [takeA] at h ⊢; rw [renL_get, h]; rfl
  | some n =>
    simp only [takeA] at h ⊢
    rw [renL_len]
    split at h
    · rename_i hn
      rw [if_pos hn]
      cases h
      rw [AVal.ren, renL_take]
    · cases h

theorem loadA_ren {H H' : Hp} (hH : HRen ρ H H') {k : Option Nat} {p v : AVal} (h : loadA H k p = some v) : loadA H' k (p.ren ρ) = some (v.ren ρ) := by
  cases p <;> simp only [loadA, reduceCtorEq] at h
  case ip cs => simp only [AVal.ren, loadA]; exact takeA_ren h
  case ref i o =>
    simp only [AVal.ren, loadA]
    cases hi : H i with
    | none => simp [hi] at h
    | some ob =>
      rw [hH i ob hi]
      cases ob <;> simp only [hi, reduceCtorEq] at h
      case cells cs ty => simp only [Ob.ren]; rw [← renL_drop]; exact takeA_ren h

theorem partA_ren {k : Option Nat} {off : Nat} {cs : List AVal} {v : AVal} (h : partA k off cs = some v) : partA k off (renL ρ cs) = some (v.ren ρ) := by
  cases k with
  | none => simp only [partA] at h ⊢; rw [renL_get, h]; rfl
  | some n =>
    simp only [partA] at h ⊢
    rw [renL_len]
    split at h
    · rename_i hn
      rw [if_pos hn]
      cases h
      rw [AVal.ren, renL_take, renL_drop]
    · cases h

theorem fillA_ren : ∀ {l : List (Nat × Nat × AVal)} {z r : List AVal}, fillA z l = some r → fillA (renL ρ z) (l.map fun p => (p.1, p.2.1, p.2.2.ren ρ)) = some (renL ρ r)
  | [], z, r, h => by simp only [fillA, Option.some.injEq] at h; subst h; rfl
  | (off, n, v) :: rest, z, r, h => by
    simp only [fillA, List.map_cons] at h ⊢
    rw [known_ren, cells_ren, renL_len, renL_len]
    split at h
    · rename_i hc
      rw [if_pos hc]
      have := fillA_ren h
      rw [renL_app, renL_app, renL_take, renL_drop] at this
      exact this
    · cases h

theorem rowsA_ren {sz : Nat} : ∀ {xs : List AVal} {rows : List (List AVal)}, rowsA sz xs = some rows → rowsA sz (renL ρ xs) = some (renR ρ rows)
  | [], rows, h => by simp only [rowsA, Option.some.injEq] at h; subst h; rfl
  | x :: rest, rows, h => by
    simp only [rowsA, renL] at h ⊢
    rw [known_ren, cells_ren, renL_len]
    split at h
    · rename_i hc
      rw [if_pos hc]
      rw [Option.map_eq_some_iff] at h
      obtain ⟨r, h1, rfl⟩ := h
      rw [rowsA_ren h1]; rfl
    · cases h

theorem bytesOf_ren : ∀ {rows : List (List AVal)} {s : List UInt8}, bytesOf rows = some s → bytesOf (renR ρ rows) = some s
  | [], s, h => h
  | r :: rest, s, h => by
    unfold bytesOf at h
    split at h
    · rename_i e; cases e
    · rename_i n rest' e
      cases e
      simp only [renR, renL, AVal.ren, bytesOf]
      split at h
      · rename_i hn
        rw [if_pos hn]
        rw [Option.map_eq_some_iff] at h ⊢
        obtain ⟨t, h1, h2⟩ := h
        exact ⟨t, bytesOf_ren h1, h2⟩
      · cases h
    · cases h

theorem bnd_ren {o : Option AVal} {d n : Nat} (h : Eng.bnd o d = some n) : Eng.bnd (o.map (AVal.ren ρ)) d = some n := by
  cases o with
  | none => exact h
  | some v => cases v <;> simp only [Eng.bnd, reduceCtorEq] at h <;> exact h

theorem slSA_ren {s : List UInt8} {lo hi : Option AVal} {v : AVal} (h : slSA s lo hi = some v) : slSA s (lo.map (AVal.ren ρ)) (hi.map (AVal.ren ρ)) = some (v.ren ρ) := by
  unfold slSA at h ⊢
  split at h
  · rename_i a b h1 h2
    rw [bnd_ren h1, bnd_ren h2]
    simp only
    split at h
    · rename_i hc; rw [if_pos hc]; cases h; rfl
    · cases h
  · cases h

theorem all_renR {sz : Nat} (rows : List (List AVal)) : (renR ρ rows).all (fun r => r.length == sz) = rows.all (fun r => r.length == sz) := by
  induction rows with
  | nil => rfl
  | cons r rs ih => rw [renR, List.all_cons, List.all_cons, ih, renL_len]

theorem slLA_ren {sz : Nat} {rows : List (List AVal)} {t : Tok} {lo hi mx : Option AVal} {v : AVal} (h : slLA sz rows t lo hi mx = some v) :
    slLA sz (renR ρ rows) (t.ren ρ) (lo.map (AVal.ren ρ)) (hi.map (AVal.ren ρ)) (mx.map (AVal.ren ρ)) = some (v.ren ρ) := by
  have hs : ∀ o : Option AVal, (o.map (AVal.ren ρ)).isSome = o.isSome := fun o => by cases o <;> rfl
  have hn : ∀ o : Option AVal, (o.map (AVal.ren ρ)).isNone = o.isNone := fun o => by cases o <;> rfl
  have ht : (t.ren ρ = .full) = (t = .full) := by cases t <;> simp [Tok.ren]
  unfold slLA at h ⊢
  rw [renR_len, all_renR]
  simp only [hs, hn, ht]
  split at h
  · rename_i m hh l h1 h2 h3
    rw [bnd_ren h1, bnd_ren h2, bnd_ren h3]
    simp only
    split at h
    · rename_i hc
      rw [if_pos hc]
      split at h
      · rename_i ha
        rw [if_pos ha]
        cases h
        rw [AVal.ren, renR_drop, renR_take]
        congr 2
        split
        · rfl
        · split <;> rfl
      · cases h
    · cases h
  · cases h

theorem slMA_ren {sz id n sz' : Nat} {lo hi mx : Option AVal} {v : AVal} (h : slMA sz id n sz' lo hi mx = some v) : slMA sz (ρ id) n sz' (lo.map (AVal.ren ρ)) (hi.map (AVal.ren ρ)) (mx.map (AVal.ren ρ)) = some (v.ren ρ) := by
  unfold slMA at h ⊢
  split at h
  · rename_i h' e2 e3
    rw [bnd_ren e2, bnd_ren e3]
    simp only [Option.map_none]
    split at h
    · rename_i hc; rw [if_pos hc]; cases h; rfl
    · cases h
  · cases h
theorem iaddrM_ren {sz id n sz' : Nat} {k : Int} {v : AVal} (h : iaddrM sz id n sz' k = some v) : iaddrM sz (ρ id) n sz' k = some (v.ren ρ) := by
  unfold iaddrM at h ⊢
  split at h
  · rename_i hc; rw [if_pos hc]; cases h; rfl
  · cases h
theorem iaddrA_ren {sz : Nat} {rows : List (List AVal)} {n : Int} {v : AVal} (h : iaddrA sz rows n = some v) : iaddrA sz (renR ρ rows) n = some (v.ren ρ) := by
  unfold iaddrA at h ⊢
  split at h
  · rename_i hn
    rw [if_pos hn, renR_get]
    cases hr : rows[n.toNat]? with
    | none => simp [hr] at h
    | some r =>
      simp only [hr, Option.map_some] at h ⊢
      rw [renL_len]
      split at h
      · rename_i hc; rw [if_pos hc]; cases h; rfl
      · cases h
  · cases h

theorem nilckA_ren {x v : AVal} (h : nilckA x = some v) : nilckA (x.ren ρ) = some (v.ren ρ) := by
  cases x <;> simp only [nilckA, reduceCtorEq, Option.some.injEq] at h
  case ref i o => subst h; rfl
  case ip cs => subst h; rfl
  case func f a b => cases f <;> simp only [nilckA, reduceCtorEq, Option.some.injEq] at h; subst h; rfl

theorem faddrA_ren {off : Nat} {x v : AVal} (h : faddrA off x = some v) : faddrA off (x.ren ρ) = some (v.ren ρ) := by
  cases x <;> simp only [faddrA, reduceCtorEq, Option.some.injEq] at h
  case ref i o => subst h; rfl
  case ip cs =>
    simp only [AVal.ren, faddrA, renL_len]
    split at h
    · rename_i hc; rw [if_pos hc]; cases h; rw [AVal.ren, renL_drop]
    · cases h

theorem tasA_ren {ok : Bool} {t : TypeId} {z x v : AVal} (hz : z.bnd 0 = true) (h : tasA ok t z x = some v) : tasA ok t z (x.ren ρ) = some (v.ren ρ) := by
  have ez := ren_const ρ hz
  cases x <;> simp only [tasA, reduceCtorEq] at h
  case iface t' y =>
    simp only [AVal.ren, tasA]
    split at h
    · rename_i ht
      rw [if_pos ht]
      cases h
      cases ok <;> simp [AVal.ren, renL]
    · rename_i ht
      rw [if_neg ht]
      split at h
      · rename_i ho; rw [if_pos ho]; cases h; simp [AVal.ren, renL, ez]
      · cases h
  case nilif =>
    simp only [AVal.ren, tasA]
    split at h
    · rename_i ho; rw [if_pos ho]; cases h; simp [AVal.ren, renL, ez]
    · cases h

theorem lookA_ren {H H' : Hp} (hH : HRen ρ H H') {ok : Bool} {kk : KK} {z m k v : AVal} (hz : z.bnd 0 = true) (h : lookA H ok kk z m k = some v) : lookA H' ok kk z (m.ren ρ) (k.ren ρ) = some (v.ren ρ) := by
  have ez := ren_const ρ hz
  cases m <;> simp only [lookA, reduceCtorEq] at h
  case map id =>
    simp only [AVal.ren, lookA]
    cases hi : H id with
    | none => simp [hi] at h
    | some ob =>
      rw [hH id ob hi]
      cases ob <;> simp only [hi, reduceCtorEq] at h
      case map es =>
        simp only [Ob.ren]
        rw [Option.map_eq_some_iff] at h
        obtain ⟨r, h1, h2⟩ := h
        rw [findA_ren h1]
        simp only [Option.map_some, Option.some.injEq]
        subst h2
        cases r <;> cases ok <;> simp [AVal.ren, renL, ez]
  case nilmap =>
    simp only [AVal.ren, lookA]
    cases h
    cases ok <;> simp [AVal.ren, renL, ez]

end
end Go.Eng

/- Numbers renamed: rop. -/
set_option linter.unusedVariables false
set_option linter.unusedSimpArgs false
namespace Go.Eng
section
variable {ρ : Nat → Nat}

theorem evs_ren (tm : List AVal) {ps : List Opd} (h : ps.all Opd.clo = true) : ps.map (ev (renL ρ tm)) = renL ρ (ps.map (ev tm)) := by
  induction ps with
  | nil => rfl
  | cons p ps ih =>
    rw [List.all_cons, Bool.and_eq_true] at h
    rw [List.map_cons, List.map_cons, renL, ev_ren ρ tm h.1, ih h.2]

theorem evo_ren (tm : List AVal) {o : Option Opd} (h : (oo o).all Opd.clo = true) : o.map (ev (renL ρ tm)) = (o.map (ev tm)).map (AVal.ren ρ) := by
  cases o with
  | none => rfl
  | some o => simp only [oo, List.all_cons, List.all_nil, Bool.and_true] at h; simp only [Option.map_some, ev_ren ρ tm h]

theorem str_rows_ren (s : List UInt8) : renR ρ (s.map fun b => [AVal.int .u8 (b.toNat : Int)]) = s.map fun b => [AVal.int .u8 (b.toNat : Int)] := by
  induction s with
  | nil => rfl
  | cons b s ih => rw [List.map_cons, renR, ih]; rfl

theorem rop_ren {H H' : Hp} (hH : HRen ρ H H') {op : AOp} {tm : List AVal} {v : AVal} (hc : op.clo = true) (h : rop op tm H = some v) : rop op (renL ρ tm) H' = some (v.ren ρ) := by
  unfold AOp.clo at hc
  rw [Bool.and_eq_true] at hc
  obtain ⟨hc, hz⟩ := hc
  cases op with
  | mv x =>
    simp only [AOp.opds, List.all_cons, List.all_nil, Bool.and_true] at hc
    simp only [rop, Option.some.injEq] at h ⊢
    rw [ev_ren ρ tm hc, h]
  | pick c x y =>
    simp only [AOp.opds, List.all_cons, List.all_nil, Bool.and_true, Bool.and_eq_true] at hc
    simp only [rop] at h ⊢
    rw [ev_ren ρ tm hc.1, ev_ren ρ tm hc.2.1, ev_ren ρ tm hc.2.2]
    generalize ev tm c = cv at h
    cases cv <;> simp only [reduceCtorEq, Option.some.injEq] at h
    subst h
    rename_i b
    cases b <;> rfl
  | build z ps =>
    simp only [rop] at h ⊢
    rw [Option.map_eq_some_iff] at h
    obtain ⟨r, h1, rfl⟩ := h
    have hp : (ps.map fun p => (p.1, p.2.1, ev (renL ρ tm) p.2.2)) = (ps.map fun p => (p.1, p.2.1, ev tm p.2.2)).map fun p => (p.1, p.2.1, p.2.2.ren ρ) := by
      rw [List.map_map]
      apply List.map_congr_left
      intro p hp
      have : p.2.2.clo = true := by
        have := List.all_eq_true.1 hc p.2.2 (by simp only [AOp.opds]; exact List.mem_map_of_mem hp)
        exact this
      simp only [Function.comp, ev_ren ρ tm this]
    rw [hp]
    have := fillA_ren (ρ := ρ) h1
    rw [renL_const (ρ := ρ) hz] at this
    rw [this]; rfl
  | load k x =>
    simp only [AOp.opds, List.all_cons, List.all_nil, Bool.and_true] at hc
    simp only [rop] at h ⊢
    rw [ev_ren ρ tm hc]
    exact loadA_ren hH h
  | nilck x =>
    simp only [AOp.opds, List.all_cons, List.all_nil, Bool.and_true] at hc
    simp only [rop] at h ⊢
    rw [ev_ren ρ tm hc]
    exact nilckA_ren h
  | bin op x y =>
    simp only [AOp.opds, List.all_cons, List.all_nil, Bool.and_true, Bool.and_eq_true] at hc
    simp only [rop] at h ⊢
    rw [ev_ren ρ tm hc.1, ev_ren ρ tm hc.2]
    exact binA_ren h
  | beq ng x y =>
    simp only [AOp.opds, List.all_cons, List.all_nil, Bool.and_true, Bool.and_eq_true] at hc
    simp only [rop] at h ⊢
    rw [ev_ren ρ tm hc.1, ev_ren ρ tm hc.2]
    generalize ev tm x = a at h
    generalize ev tm y = b at h
    cases a <;> cases b <;> simp only [reduceCtorEq, Option.some.injEq] at h
    subst h; rfl
  | isnil ng nk x =>
    simp only [AOp.opds, List.all_cons, List.all_nil, Bool.and_true] at hc
    simp only [rop] at h ⊢
    rw [ev_ren ρ tm hc]
    rw [Option.map_eq_some_iff] at h
    obtain ⟨b, h1, rfl⟩ := h
    rw [isNilA_ren h1]; rfl
  | sleq ng ks x y =>
    simp only [AOp.opds, List.all_cons, List.all_nil, Bool.and_true, Bool.and_eq_true] at hc
    simp only [rop] at h ⊢
    rw [ev_ren ρ tm hc.1, ev_ren ρ tm hc.2]
    generalize ev tm x = a at h
    generalize ev tm y = b at h
    cases a <;> cases b <;> simp only [reduceCtorEq] at h
    rw [Option.map_eq_some_iff] at h
    obtain ⟨r, h1, rfl⟩ := h
    simp only [AVal.ren]
    rw [eqCells_ren h1]; rfl
  | not x =>
    simp only [AOp.opds, List.all_cons, List.all_nil, Bool.and_true] at hc
    simp only [rop] at h ⊢
    rw [ev_ren ρ tm hc]
    generalize ev tm x = a at h
    cases a <;> simp only [reduceCtorEq, Option.some.injEq] at h
    subst h; rfl
  | neg x =>
    simp only [AOp.opds, List.all_cons, List.all_nil, Bool.and_true] at hc
    simp only [rop] at h ⊢
    rw [ev_ren ρ tm hc]
    generalize ev tm x = a at h
    cases a <;> simp only [reduceCtorEq, Option.some.injEq] at h
    subst h; rfl
  | cint k x =>
    simp only [AOp.opds, List.all_cons, List.all_nil, Bool.and_true] at hc
    simp only [rop] at h ⊢
    rw [ev_ren ρ tm hc]
    generalize ev tm x = a at h
    cases a <;> simp only [reduceCtorEq, Option.some.injEq] at h
    subst h; rfl
  | cstr x =>
    simp only [AOp.opds, List.all_cons, List.all_nil, Bool.and_true] at hc
    simp only [rop] at h ⊢
    rw [ev_ren ρ tm hc]
    generalize ev tm x = a at h
    cases a <;> simp only [reduceCtorEq, Option.some.injEq] at h
    subst h; rfl
  | b2s x =>
    simp only [AOp.opds, List.all_cons, List.all_nil, Bool.and_true] at hc
    simp only [rop] at h ⊢
    rw [ev_ren ρ tm hc]
    generalize ev tm x = a at h
    cases a <;> simp only [reduceCtorEq] at h
    rw [Option.map_eq_some_iff] at h
    obtain ⟨r, h1, rfl⟩ := h
    simp only [AVal.ren]
    rw [bytesOf_ren h1]; rfl
  | s2b x =>
    simp only [AOp.opds, List.all_cons, List.all_nil, Bool.and_true] at hc
    simp only [rop] at h ⊢
    rw [ev_ren ρ tm hc]
    generalize ev tm x = a at h
    cases a <;> simp only [reduceCtorEq, Option.some.injEq] at h
    subst h
    rename_i s
    show some (AVal.sl (s.map fun b => [AVal.int .u8 (b.toNat : Int)]) .frz) = some (AVal.sl (renR ρ (s.map fun b => [AVal.int .u8 (b.toNat : Int)])) .frz)
    rw [str_rows_ren]
  | sls x =>
    simp only [AOp.opds, List.all_cons, List.all_nil, Bool.and_true] at hc
    simp only [rop] at h ⊢
    rw [ev_ren ρ tm hc]
    generalize ev tm x = a at h
    split at h
    · cases h; rfl
    · cases h
  | mkif t x =>
    simp only [AOp.opds, List.all_cons, List.all_nil, Bool.and_true] at hc
    simp only [rop, Option.some.injEq] at h ⊢
    rw [ev_ren ρ tm hc, ← h]; rfl
  | mkfn fn f c =>
    simp only [AOp.opds, List.all_append, Bool.and_eq_true] at hc
    simp only [rop, Option.some.injEq] at h ⊢
    rw [evs_ren tm hc.1, evs_ren tm hc.2, ← h]; rfl
  | slS x lo hi =>
    simp only [AOp.opds, List.all_cons, List.all_append, Bool.and_eq_true] at hc
    simp only [rop] at h ⊢
    rw [ev_ren ρ tm hc.1, evo_ren tm hc.2.1, evo_ren tm hc.2.2]
    generalize ev tm x = a at h
    cases a <;> simp only [reduceCtorEq] at h
    exact slSA_ren h
  | slL sz x lo hi mx =>
    simp only [AOp.opds, List.all_cons, List.all_append, Bool.and_eq_true] at hc
    simp only [rop] at h ⊢
    rw [ev_ren ρ tm hc.1, evo_ren tm hc.2.1.1, evo_ren tm hc.2.1.2, evo_ren tm hc.2.2]
    generalize ev tm x = a at h
    cases a <;> simp only [reduceCtorEq] at h
    · exact slLA_ren h
    · exact slMA_ren h
  | faddr off x =>
    simp only [AOp.opds, List.all_cons, List.all_nil, Bool.and_true] at hc
    simp only [rop] at h ⊢
    rw [ev_ren ρ tm hc]
    exact faddrA_ren h
  | field k off x =>
    simp only [AOp.opds, List.all_cons, List.all_nil, Bool.and_true] at hc
    simp only [rop] at h ⊢
    rw [ev_ren ρ tm hc]
    generalize ev tm x = a at h
    cases a <;> simp only [reduceCtorEq] at h
    exact partA_ren h
  | iaddr sz x i =>
    simp only [AOp.opds, List.all_cons, List.all_nil, Bool.and_true, Bool.and_eq_true] at hc
    simp only [rop] at h ⊢
    rw [ev_ren ρ tm hc.1, ev_ren ρ tm hc.2]
    generalize ev tm x = a at h
    generalize ev tm i = b at h
    cases a <;> cases b <;> simp only [reduceCtorEq] at h
    · exact iaddrA_ren h
    · exact iaddrM_ren h
  | ixS x i =>
    simp only [AOp.opds, List.all_cons, List.all_nil, Bool.and_true, Bool.and_eq_true] at hc
    simp only [rop] at h ⊢
    rw [ev_ren ρ tm hc.1, ev_ren ρ tm hc.2]
    generalize ev tm x = a at h
    generalize ev tm i = b at h
    cases a <;> cases b <;> simp only [reduceCtorEq] at h
    simp only [AVal.ren]
    split at h
    · rename_i hn
      rw [if_pos hn]
      rw [Option.map_eq_some_iff] at h
      obtain ⟨r, h1, rfl⟩ := h
      rw [h1]; rfl
    · cases h
  | ext x i =>
    simp only [AOp.opds, List.all_cons, List.all_nil, Bool.and_true] at hc
    simp only [rop] at h ⊢
    rw [ev_ren ρ tm hc]
    generalize ev tm x = a at h
    cases a <;> simp only [reduceCtorEq] at h
    simp only [AVal.ren]
    rw [renL_get, h]; rfl
  | lenS x =>
    simp only [AOp.opds, List.all_cons, List.all_nil, Bool.and_true] at hc
    simp only [rop] at h ⊢
    rw [ev_ren ρ tm hc]
    generalize ev tm x = a at h
    cases a <;> simp only [reduceCtorEq, Option.some.injEq] at h
    subst h; rfl
  | lenL x =>
    simp only [AOp.opds, List.all_cons, List.all_nil, Bool.and_true] at hc
    simp only [rop] at h ⊢
    rw [ev_ren ρ tm hc]
    generalize ev tm x = a at h
    cases a <;> simp only [reduceCtorEq, Option.some.injEq] at h
    · subst h
      simp only [AVal.ren, renR_len]
    · subst h; rfl
  | bsl sz ps =>
    simp only [AOp.opds] at hc
    simp only [rop] at h ⊢
    rw [evs_ren tm hc]
    rw [Option.map_eq_some_iff] at h
    obtain ⟨r, h1, rfl⟩ := h
    rw [rowsA_ren h1]; rfl
  | bslf sz ps =>
    simp only [AOp.opds] at hc
    simp only [rop] at h ⊢
    rw [evs_ren tm hc]
    rw [Option.map_eq_some_iff] at h
    obtain ⟨r, h1, rfl⟩ := h
    rw [rowsA_ren h1]; rfl
  | tas ok t z x =>
    simp only [AOp.opds, List.all_cons, List.all_nil, Bool.and_true] at hc
    simp only [rop] at h ⊢
    rw [ev_ren ρ tm hc]
    exact tasA_ren hz h
  | look ok kk z m k =>
    simp only [AOp.opds, List.all_cons, List.all_nil, Bool.and_true, Bool.and_eq_true] at hc
    simp only [rop] at h ⊢
    rw [ev_ren ρ tm hc.1, ev_ren ρ tm hc.2]
    exact lookA_ren hH hz h
  | lenM m =>
    simp only [AOp.opds, List.all_cons, List.all_nil, Bool.and_true] at hc
    simp only [rop] at h ⊢
    rw [ev_ren ρ tm hc]
    generalize ev tm m = a at h
    cases a <;> simp only [reduceCtorEq, Option.some.injEq] at h
    case map id =>
      simp only [AVal.ren]
      cases hi : H id with
      | none => simp [hi] at h
      | some ob =>
        rw [hH id ob hi]
        cases ob <;> simp only [hi, reduceCtorEq, Option.some.injEq] at h
        subst h
        simp [Ob.ren, AVal.ren]
    case nilmap => subst h; rfl
  | maxi x y =>
    simp only [AOp.opds, List.all_cons, List.all_nil, Bool.and_true, Bool.and_eq_true] at hc
    simp only [rop] at h ⊢
    rw [ev_ren ρ tm hc.1, ev_ren ρ tm hc.2]
    generalize ev tm x = a at h
    generalize ev tm y = b at h
    cases a <;> cases b <;> simp only [reduceCtorEq, Option.some.injEq] at h
    subst h; rfl
  | mini x y =>
    simp only [AOp.opds, List.all_cons, List.all_nil, Bool.and_true, Bool.and_eq_true] at hc
    simp only [rop] at h ⊢
    rw [ev_ren ρ tm hc.1, ev_ren ρ tm hc.2]
    generalize ev tm x = a at h
    generalize ev tm y = b at h
    cases a <;> cases b <;> simp only [reduceCtorEq, Option.some.injEq] at h
    subst h; rfl
  | _ => simp [rop] at h
end
end Go.Eng

/- Numbers renamed: what is written. The interpreter's operations. -/
set_option linter.unusedVariables false
set_option linter.unusedSimpArgs false
namespace Go.Eng
section
variable {ρ : Nat → Nat}

theorem all_one_ren (l : List AVal) : (renL ρ l).all AVal.one = l.all AVal.one := by
  induction l with
  | nil => rfl
  | cons v l ih => rw [renL, List.all_cons, List.all_cons, ih, one_ren]

theorem setA_ren {kk : KK} {k v : AVal} : ∀ {es es' : List (AVal × AVal)}, setA kk k v es = some es' → setA kk (k.ren ρ) (v.ren ρ) (es.map fun p => (p.1.ren ρ, p.2.ren ρ)) = some (es'.map fun p => (p.1.ren ρ, p.2.ren ρ))
  | [], es', h => by simp only [setA, Option.some.injEq] at h; subst h; rfl
  | (k', v') :: rest, es', h => by
    simp only [setA, List.map_cons] at h ⊢
    cases he : eqCell kk k k' with
    | none => simp [he] at h
    | some c =>
      rw [eqCell_ren he]
      simp only [he] at h
      cases c with
      | true => simp only [Option.some.injEq] at h ⊢; subst h; rfl
      | false =>
        rw [Option.map_eq_some_iff] at h
        obtain ⟨r, h1, rfl⟩ := h
        rw [setA_ren h1]; rfl

def gone0 : Option Ob → Option Ob
  | some .gone => none
  | o => o
/-- The heap as a list: number i is its i-th object. -/
def hpF (hp : List Ob) : Hp := fun i => gone0 hp[i]?
def Ob.here : Ob → Bool
  | .gone => false
  | _ => true
theorem gone0_some {o : Option Ob} {ob : Ob} (h : gone0 o = some ob) : o = some ob ∧ ob.here = true := by
  cases o with
  | none => cases h
  | some o => cases o <;> first | (cases h; done) | (cases h; exact ⟨rfl, rfl⟩)

/-- A store in which at least these objects lie, at the numbers that ρ says. -/
structure HpOk (ρ : Nat → Nat) (hp : List Ob) (H : Hp) : Prop where
  at_ : ∀ i o, hp[i]? = some o → o.here = true → H (ρ i) = some (o.ren ρ)
  inj : ∀ i j o o', hp[i]? = some o → hp[j]? = some o' → o.here = true → o'.here = true → ρ i = ρ j → i = j

theorem HpOk.hren {hp : List Ob} {H : Hp} (h : HpOk ρ hp H) : HRen ρ (hpF hp) H := fun i o hi => by
  obtain ⟨h1, h2⟩ := gone0_some hi
  exact h.at_ i o h1 h2

theorem Ob.ren_congr {ρ ρ' : Nat → Nat} {k : Nat} (h : ∀ i, i < k → ρ i = ρ' i) {o : Ob} (hb : o.bnd k = true) : o.ren ρ = o.ren ρ' := by
  cases o with
  | cells cs t => simp only [Ob.bnd] at hb; simp only [Ob.ren, renL_congr h cs hb]
  | map es =>
    simp only [Ob.bnd, List.all_eq_true, Bool.and_eq_true] at hb
    simp only [Ob.ren]
    congr 1
    apply List.map_congr_left
    intro p hp
    rw [AVal.ren_congr h p.1 (hb p hp).1, AVal.ren_congr h p.2 (hb p hp).2]
  | tok n sz o => rfl
  | gone => rfl

/-- A number put at its place. -/
def updR (ρ : Nat → Nat) (k id : Nat) : Nat → Nat := fun i => if i = k then id else ρ i

theorem updR_lt {k id : Nat} : ∀ i, i < k → ρ i = updR ρ k id i := fun i hi => by unfold updR; rw [if_neg (by omega)]

/-- A new object. -/
theorem HpOk.new {hp : List Ob} {H : Hp} (h : HpOk ρ hp H) (hb : ∀ o ∈ hp, o.bnd hp.length = true) {id : Nat} (hid : H id = none) {o : Ob} (ho : o.bnd hp.length = true) :
    HpOk (updR ρ hp.length id) (hp ++ [o]) (H.upd id (o.ren ρ)) := by
  have hne : ∀ i ob, hp[i]? = some ob → ob.here = true → ρ i ≠ id := fun i ob hi hh e => by
    have := h.at_ i ob hi hh
    rw [e, hid] at this; cases this
  have heq : ∀ i, i < hp.length → updR ρ hp.length id i = ρ i := fun i hi => (updR_lt i hi).symm
  have hk : updR ρ hp.length id hp.length = id := by simp [updR]
  have cases_ : ∀ i ob, (hp ++ [o])[i]? = some ob → (i < hp.length ∧ hp[i]? = some ob) ∨ (i = hp.length ∧ ob = o) := fun i ob hi => by
    rcases Nat.lt_or_ge i hp.length with hl | hl
    · rw [List.getElem?_append_left hl] at hi; exact .inl ⟨hl, hi⟩
    · have hl' : i < hp.length + 1 := by have := (List.getElem?_eq_some_iff.1 hi).1; simpa using this
      obtain rfl : i = hp.length := by omega
      rw [List.getElem?_append_right (Nat.le_refl _)] at hi
      simp only [Nat.sub_self, List.getElem?_cons_zero, Option.some.injEq] at hi
      exact .inr ⟨rfl, hi.symm⟩
  refine ⟨fun i ob hi hh => ?_, fun i j oi oj hi hj hhi hhj he => ?_⟩
  · rcases cases_ i ob hi with ⟨hl, hi⟩ | ⟨rfl, rfl⟩
    · rw [heq i hl, Hp.upd_ne _ _ (hne i ob hi hh), h.at_ i ob hi hh]
      rw [Ob.ren_congr updR_lt (hb ob (List.mem_of_getElem? hi))]
    · rw [hk, Hp.upd_same, Ob.ren_congr updR_lt ho]
  · rcases cases_ i oi hi with ⟨hl, hi2⟩ | ⟨rfl, rfl⟩
    · rcases cases_ j oj hj with ⟨hm, hj2⟩ | ⟨rfl, rfl⟩
      · rw [heq i hl, heq j hm] at he; exact h.inj i j oi oj hi2 hj2 hhi hhj he
      · rw [heq i hl, hk] at he; exact absurd he (hne i oi hi2 hhi)
    · rcases cases_ j oj hj with ⟨hm, hj2⟩ | ⟨rfl, rfl⟩
      · rw [heq j hm, hk] at he; exact absurd he.symm (hne j oj hj2 hhj)
      · rfl

/-- An object written. -/
theorem HpOk.set {hp : List Ob} {H : Hp} (h : HpOk ρ hp H) {i : Nat} {o0 : Ob} (hi : hp[i]? = some o0) (h0 : o0.here = true) (o : Ob) : HpOk ρ (hp.set i o) (H.upd (ρ i) (o.ren ρ)) := by
  have old : ∀ j ob, (hp.set i o)[j]? = some ob → (j = i ∧ ob = o) ∨ (j ≠ i ∧ hp[j]? = some ob) := fun j ob hj => by
    rw [List.getElem?_set] at hj
    split at hj
    · rename_i e; subst e
      split at hj
      · cases hj; exact .inl ⟨rfl, rfl⟩
      · cases hj
    · rename_i e; exact .inr ⟨fun e' => e e'.symm, hj⟩
  refine ⟨fun j ob hj hh => ?_, fun a b oa ob ha hb hha hhb he => ?_⟩
  · rcases old j ob hj with ⟨rfl, rfl⟩ | ⟨hne, hj⟩
    · exact Hp.upd_same _ _ _
    · rw [Hp.upd_ne _ _ (fun e' => hne (h.inj j i ob o0 hj hi hh h0 e'))]
      exact h.at_ j ob hj hh
  · rcases old a oa ha with ⟨rfl, rfl⟩ | ⟨hna, ha2⟩
    · rcases old b ob hb with ⟨rfl, rfl⟩ | ⟨hnb, hb2⟩
      · rfl
      · exact (h.inj a b o0 ob hi hb2 h0 hhb he)
    · rcases old b ob hb with ⟨rfl, rfl⟩ | ⟨hnb, hb2⟩
      · exact h.inj a b oa o0 ha2 hi hha h0 he
      · exact h.inj a b oa ob ha2 hb2 hha hhb he

/-- An object forgotten. -/
theorem HpOk.kill {hp : List Ob} {H : Hp} (h : HpOk ρ hp H) {i : Nat} {o0 : Ob} (hi : hp[i]? = some o0) (h0 : o0.here = true) : HpOk ρ (hp.set i .gone) (H.del (ρ i)) := by
  have old : ∀ j ob, (hp.set i .gone)[j]? = some ob → ob.here = true → j ≠ i ∧ hp[j]? = some ob := fun j ob hj hh => by
    rw [List.getElem?_set] at hj
    split at hj
    · rename_i e; subst e
      split at hj
      · cases hj; cases hh
      · cases hj
    · rename_i e; exact ⟨fun e' => e e'.symm, hj⟩
  refine ⟨fun j ob hj hh => ?_, fun a b oa ob ha hb hha hhb he => h.inj a b oa ob (old a oa ha hha).2 (old b ob hb hhb).2 hha hhb he⟩
  obtain ⟨hne, hj⟩ := old j ob hj hh
  rw [Hp.del_ne _ (fun e' => hne (h.inj j i ob o0 hj hi hh h0 e'))]
  exact h.at_ j ob hj hh

end
end Go.Eng

/- The interpreter: operations. -/
set_option linter.unusedVariables false
set_option linter.unusedSimpArgs false
namespace Go.Eng

def appI (sz bytes : Nat) (e : TypeId) (x y : AVal) (hp : List Ob) : Option (AVal × List Ob) :=
  match x, y with
  | .slm id n sz', .sl rows2 _ =>
    if rows2.isEmpty = false ∧ sz' = sz ∧ rows2.all (fun r => r.length == sz) = true ∧ (n + rows2.length) * bytes ≤ 140737488355328 ∧ rows2.flatten.all AVal.one = true then
      match hp[id]? with
      | some (.cells cs _) => if n * sz ≤ cs.length then some (.slm hp.length (n + rows2.length) sz, hp.set id .gone ++ [.cells (cs.take (n * sz) ++ rows2.flatten)]) else none
      | _ => none
    else none
  | .sl rows t, .sl rows2 _ =>
    if rows2.isEmpty = true then some (.sl rows t, hp)
    else if sz = 17 ∧ rows.isEmpty = true ∧ (t = .full ∨ t = .nil) then
      if rows2.all (fun r => r.length == sz) = true ∧ rows2.length * bytes ≤ 140737488355328 then some (.slm hp.length rows2.length sz, hp ++ [.cells rows2.flatten (some e)]) else none
    else if rows.all (fun r => r.length == sz) = true ∧ rows2.all (fun r => r.length == sz) = true ∧ (rows.length + rows2.length) * bytes ≤ 140737488355328 then
      match t with
      | .full => some (.sl (rows ++ rows2) (.own hp.length sz), hp ++ [.tok (rows.length + rows2.length) sz (some e)])
      | .nil => some (.sl (rows ++ rows2) (.own hp.length sz), hp ++ [.tok (rows.length + rows2.length) sz (some e)])
      | .own id sz' => match hp[id]? with
        | some (.tok n s o) => if sz' = sz ∧ s = sz ∧ n = rows.length ∧ rows2.flatten.all AVal.one = true then some (.sl (rows ++ rows2) (.own id sz), hp.set id (.tok (rows.length + rows2.length) sz (tkO o e))) else none
        | _ => none
      | _ => none
    else none
  | _, _ => none

/-- An operation that calls nothing, defers nothing and does not panic. -/
def opI (op : AOp) (tm : List AVal) (hp : List Ob) : Option (AVal × List Ob) :=
  match op with
  | .alloc z => some (.ref hp.length 0, hp ++ [.cells z])
  | .allocT t z => some (.ref hp.length 0, hp ++ [.cells z (some t)])
  | .box x => if (ev tm x).known = true then some (.ref hp.length 0, hp ++ [.cells (ev tm x).cells]) else none
  | .mkmap => some (.map hp.length, hp ++ [.map []])
  | .store n x v => match ev tm x with
    | .ref i o => match hp[i]? with
      | some (.cells cs ty) => if (ev tm v).known = true ∧ (ev tm v).cells.length = n ∧ (ev tm v).cells.all AVal.one = true ∧ o + n ≤ cs.length then some (.tup [], hp.set i (.cells (cs.take o ++ (ev tm v).cells ++ cs.drop (o + n)) ty)) else none
      | _ => none
    | _ => none
  | .mset kk m k v => match ev tm m with
    | .map i => match hp[i]? with
      | some (.map es) => (setA kk (ev tm k) (ev tm v) es).map fun es' => (.tup [], hp.set i (.map es'))
      | _ => none
    | _ => none
  | .app sz bytes e x y => appI sz bytes e (ev tm x) (ev tm y) hp
  | .apps bytes e x y => match ev tm y with
    | .str l => appI 1 bytes e (ev tm x) (.sl (byteRows l) .no) hp
    | _ => none
  | .call _ _ => none
  | .dfr _ _ => none
  | .pnc _ => none
  | op => (rop op tm (hpF hp)).map fun v => (v, hp)

/-- Behind it: the renaming has grown. -/
def Grown (ρ : Nat → Nat) (k : Nat) (ρ' : Nat → Nat) : Prop := ∀ i, i < k → ρ i = ρ' i

section
variable {ρ : Nat → Nat} {O : Cfg} {P : Program}

theorem byteRows_ren (l : List UInt8) : renR ρ (byteRows l) = byteRows l := str_rows_ren l

theorem flatten_ren (rows : List (List AVal)) : (renR ρ rows).flatten = renL ρ rows.flatten := by
  induction rows with
  | nil => rfl
  | cons r rs ih => rw [renR, List.flatten_cons, List.flatten_cons, renL_app, ih]

theorem isEmpty_renR (rows : List (List AVal)) : (renR ρ rows).isEmpty = rows.isEmpty := by cases rows <;> rfl

theorem lens_of_all {sz : Nat} {rows : List (List AVal)} (h : rows.all (fun r => r.length == sz) = true) : ∀ r ∈ rows, r.length = sz := fun r hr => by
  have := List.all_eq_true.1 h r hr
  simpa using this

theorem appI_ok {sz bytes : Nat} {e : TypeId} {x y v : AVal} {hp hp' : List Ob} {H : Hp} {ds : List ADef} {R : Res} (h : appI sz bytes e x y hp = some (v, hp')) (hH : HpOk ρ hp H) (hb : ∀ o ∈ hp, o.bnd hp.length = true) (hx : x.bnd hp.length = true) (hy : y.bnd hp.length = true)
    (k : ∀ ρ' H', Grown ρ hp.length ρ' → HpOk ρ' hp' H' → R (v.ren ρ') H' ds) : appP sz bytes e (x.ren ρ) (y.ren ρ) H ds R := by
  unfold appI at h
  split at h
  · rename_i id n sz' rows2 t2
    split at h
    · rename_i hc
      obtain ⟨c0, rfl, c1, c2, c3⟩ := hc
      split at h
      · rename_i cs o0 hid
        split at h
        · rename_i hn
          cases h
          have hbr2 : bndR hp.length rows2 = true ∧ t2.bnd hp.length = true := by simpa only [AVal.bnd, Bool.and_eq_true] using hy
          have hbc : bndL hp.length cs = true := hb _ (List.mem_of_getElem? hid)
          have hnew : ∀ o ∈ hp.set id .gone, o.bnd hp.length = true := fun o ho => by
            rcases List.mem_or_eq_of_mem_set ho with ho | rfl
            · exact hb o ho
            · rfl
          have hbn : bndL hp.length (cs.take (n * sz') ++ rows2.flatten) = true := by
            have app : ∀ a b : List AVal, bndL hp.length a = true → bndL hp.length b = true → bndL hp.length (a ++ b) = true := fun a b ha hb => by
              induction a with
              | nil => exact hb
              | cons r rs ih => rw [bndL, Bool.and_eq_true] at ha; rw [List.cons_append, bndL, ha.1, ih ha.2]; rfl
            refine app _ _ ?_ ?_
            · have tk : ∀ (m : Nat) (l : List AVal), bndL hp.length l = true → bndL hp.length (l.take m) = true := fun m l => by
                induction l generalizing m with
                | nil => intro _; simp [bndL]
                | cons v vs ih =>
                  intro h
                  rw [bndL, Bool.and_eq_true] at h
                  cases m with
                  | zero => rfl
                  | succ m => rw [List.take_succ_cons, bndL, h.1, ih m h.2]; rfl
              exact tk _ _ hbc
            · have fl : ∀ l : List (List AVal), bndR hp.length l = true → bndL hp.length l.flatten = true := fun l => by
                induction l with
                | nil => intro _; rfl
                | cons r rs ih => intro h; rw [bndR, Bool.and_eq_true] at h; rw [List.flatten_cons]; exact app _ _ h.1 (ih h.2)
              exact fl _ hbr2.1
          refine .inr ?_
          rw [AVal.ren, AVal.ren]
          unfold appM
          refine ⟨fun e => ?_, rfl, lens_of_all (by rw [all_renR]; exact c1), by rw [renR_len]; exact c2, by rw [flatten_ren, all_one_ren]; exact c3, renL ρ cs, o0, hH.at_ id _ hid rfl, by rw [renL_len]; exact hn, fun id' hid' => ?_⟩
          · have : rows2.isEmpty = true := by rw [← isEmpty_renR (ρ := ρ), e]; rfl
            rw [this] at c0; cases c0
          · have hk := hH.kill hid rfl
            have hn1 := hk.new (o := .cells (cs.take (n * sz') ++ rows2.flatten)) (by rw [List.length_set]; exact hnew) (id := id') (by unfold Hp.del; split; rfl; exact hid') (by rw [List.length_set]; exact hbn)
            rw [List.length_set] at hn1
            have := k (updR ρ hp.length id') _ (fun i hi => updR_lt i hi) hn1
            rw [AVal.ren, show updR ρ hp.length id' hp.length = id' by simp [updR]] at this
            rw [renR_len]
            simp only [Ob.ren, renL_app, renL_take, ← flatten_ren] at this
            exact this
        · cases h
      · cases h
    · cases h
  · rename_i rows t rows2 t2
    split at h
    · rename_i he
      refine .inl ?_
      rw [AVal.ren, AVal.ren]
      unfold app0
      simp only
      rw [isEmpty_renR]
      rw [if_pos he]
      cases h
      exact k ρ H (fun _ _ => rfl) hH
    · rename_i he
      split at h
      · rename_i hz
        obtain ⟨hz, hre, htt⟩ := hz
        have hr0 : rows = [] := by simpa using hre
        subst hr0
        split at h
        · rename_i hc
          cases h
          refine .inr ?_
          rw [AVal.ren, AVal.ren]
          have hbr2 : bndR hp.length rows2 = true ∧ t2.bnd hp.length = true := by simpa only [AVal.bnd, Bool.and_eq_true] using hy
          have hbn : bndL hp.length rows2.flatten = true := by
            have app : ∀ a b : List AVal, bndL hp.length a = true → bndL hp.length b = true → bndL hp.length (a ++ b) = true := fun a b ha hb => by
              induction a with
              | nil => exact hb
              | cons r rs ih => rw [bndL, Bool.and_eq_true] at ha; rw [List.cons_append, bndL, ha.1, ih ha.2]; rfl
            have fl : ∀ l : List (List AVal), bndR hp.length l = true → bndL hp.length l.flatten = true := fun l => by
              induction l with
              | nil => intro _; rfl
              | cons r rs ih => intro h; rw [bndR, Bool.and_eq_true] at h; rw [List.flatten_cons]; exact app _ _ h.1 (ih h.2)
            exact fl _ hbr2.1
          show appM sz bytes e (.sl (renR ρ []) (t.ren ρ)) (.sl (renR ρ rows2) (t2.ren ρ)) H ds R
          rw [renR]
          unfold appM
          refine ⟨fun e => ?_, ?_, lens_of_all (by rw [all_renR]; exact hc.1), by rw [renR_len]; exact hc.2, fun id' hid' => ?_⟩
          · have : rows2.isEmpty = true := by rw [← isEmpty_renR (ρ := ρ), e]; rfl
            exact he this
          · rcases htt with rfl | rfl
            · exact .inl rfl
            · exact .inr rfl
          · have hn1 := hH.new (o := .cells rows2.flatten (some e)) hb hid' hbn
            have := k (updR ρ hp.length id') _ (fun i hi => updR_lt i hi) hn1
            rw [AVal.ren, show updR ρ hp.length id' hp.length = id' by simp [updR]] at this
            rw [renR_len]
            simp only [Ob.ren, ← flatten_ren] at this
            exact this
        · cases h
      refine .inl ?_
      rw [AVal.ren, AVal.ren]
      unfold app0
      simp only
      rw [isEmpty_renR]
      rw [if_neg he]
      split at h
      · rename_i hc
        obtain ⟨c1, c2, c3⟩ := hc
        rw [renR_len, renR_len]
        have hrows : renR ρ rows ++ renR ρ rows2 = renR ρ (rows ++ rows2) := (renR_app ρ rows rows2).symm
        refine ⟨lens_of_all (by rw [all_renR]; exact c1), lens_of_all (by rw [all_renR]; exact c2), c3, ?_⟩
        have hbr : bndR hp.length rows = true ∧ t.bnd hp.length = true := by simpa only [AVal.bnd, Bool.and_eq_true] using hx
        have hbr2 : bndR hp.length rows2 = true ∧ t2.bnd hp.length = true := by simpa only [AVal.bnd, Bool.and_eq_true] using hy
        have hball : ∀ a b : List (List AVal), bndR hp.length a = true → bndR hp.length b = true → bndR hp.length (a ++ b) = true := by
          intro a b ha hb
          induction a with
          | nil => exact hb
          | cons r rs ih =>
            rw [bndR, Bool.and_eq_true] at ha
            rw [List.cons_append, bndR, ha.1, ih ha.2]; rfl
        have hrr : ∀ ρ', Grown ρ hp.length ρ' → renR ρ (rows ++ rows2) = renR ρ' (rows ++ rows2) := fun ρ' hg => renR_congr hg _ (hball _ _ hbr.1 hbr2.1)
        have fresh : some (AVal.sl (rows ++ rows2) (.own hp.length sz), hp ++ [Ob.tok (rows.length + rows2.length) sz (some e)]) = some (v, hp') →
            ∀ id, H id = none → R (.sl (renR ρ rows ++ renR ρ rows2) (.own id sz)) (H.upd id (.tok (rows.length + rows2.length) sz (some e))) ds := by
          intro h id hid
          cases h
          have hn := hH.new hb hid (o := .tok (rows.length + rows2.length) sz (some e)) rfl
          have := k (updR ρ hp.length id) _ (fun i hi => updR_lt i hi) hn
          rw [AVal.ren, Tok.ren, ← hrr _ (fun i hi => updR_lt i hi), show updR ρ hp.length id hp.length = id by simp [updR]] at this
          rw [hrows]
          exact this
        cases t with
        | full => exact fresh h
        | nil => exact fresh h
        | no => cases h
        | frz => cases h
        | own i s =>
          simp only [Tok.ren]
          have hil : i < hp.length := by have := hbr.2; simpa only [Tok.bnd, Nat.blt_eq] using this
          cases hi : hp[i]? with
          | none => simp [hi] at h
          | some ob =>
            cases ob <;> simp only [hi, reduceCtorEq] at h
            rename_i n s' o
            split at h
            · rename_i hc
              obtain ⟨q1, q2, q3, q4⟩ := hc
              subst q1 q2 q3
              cases h
              refine ⟨rfl, by rw [flatten_ren, all_one_ren]; exact q4, o, hH.at_ i _ hi rfl, ?_⟩
              have := k ρ _ (fun _ _ => rfl) (hH.set hi rfl _)
              rw [AVal.ren, Tok.ren, ← hrows] at this
              exact this
            · cases h
      · cases h
  · cases h

end
end Go.Eng

/- The interpreter's operations are sound. -/
set_option linter.unusedVariables false
set_option linter.unusedSimpArgs false
namespace Go.Eng
section
variable {ρ : Nat → Nat} {O : Cfg} {P : Program}

theorem getD_bnd {k : Nat} {tm : List AVal} (h : bndL k tm = true) (i : Nat) : (tm.getD i .unk).bnd k = true := by
  induction tm generalizing i with
  | nil => rfl
  | cons v vs ih =>
    rw [bndL, Bool.and_eq_true] at h
    cases i with
    | zero => exact h.1
    | succ i => exact ih h.2 i

mutual
theorem AVal.bnd_le {k k' : Nat} (h : k ≤ k') : ∀ v : AVal, v.bnd k = true → v.bnd k' = true
  | .bool b, _ => rfl
  | .int _ _, _ => rfl
  | .str _, _ => rfl
  | .agg cs, hb => bndL_le h cs hb
  | .sl rows t, hb => by
    have hb' : bndR k rows = true ∧ t.bnd k = true := by simpa only [AVal.bnd, Bool.and_eq_true] using hb
    have : bndR k' rows = true ∧ t.bnd k' = true := ⟨bndR_le h rows hb'.1, by
      cases t with
      | own i s => have := hb'.2; simp only [Tok.bnd, Nat.blt_eq] at this ⊢; omega
      | _ => rfl⟩
    simpa only [AVal.bnd, Bool.and_eq_true] using this
  | .slm i n s, hb => by simp only [AVal.bnd, Nat.blt_eq] at hb ⊢; omega
  | .ref i o, hb => by simp only [AVal.bnd, Nat.blt_eq] at hb ⊢; omega
  | .ip cs, hb => bndL_le h cs hb
  | .nilptr, _ => rfl
  | .map i, hb => by simp only [AVal.bnd, Nat.blt_eq] at hb ⊢; omega
  | .nilmap, _ => rfl
  | .func f a b, hb => by
    simp only [AVal.bnd, Bool.and_eq_true] at hb ⊢
    exact ⟨bndL_le h a hb.1, bndL_le h b hb.2⟩
  | .nilfunc, _ => rfl
  | .iface t v, hb => AVal.bnd_le h v hb
  | .nilif, _ => rfl
  | .tup cs, hb => bndL_le h cs hb
  | .unk, _ => rfl
theorem bndL_le {k k' : Nat} (h : k ≤ k') : ∀ l : List AVal, bndL k l = true → bndL k' l = true
  | [], _ => rfl
  | v :: vs, hb => by
    rw [bndL, Bool.and_eq_true] at hb ⊢
    exact ⟨AVal.bnd_le h v hb.1, bndL_le h vs hb.2⟩
theorem bndR_le {k k' : Nat} (h : k ≤ k') : ∀ l : List (List AVal), bndR k l = true → bndR k' l = true
  | [], _ => rfl
  | v :: vs, hb => by
    rw [bndR, Bool.and_eq_true] at hb ⊢
    exact ⟨bndL_le h v hb.1, bndR_le h vs hb.2⟩
end

theorem ev_bnd {k : Nat} {tm : List AVal} (h : bndL k tm = true) {o : Opd} (hc : o.clo = true) : (ev tm o).bnd k = true := by
  cases o with
  | t i => exact getD_bnd h i
  | c v => exact AVal.bnd_le (Nat.zero_le k) v hc
  | f f => rfl

theorem cells_bnd {k : Nat} {v : AVal} (h : v.bnd k = true) : bndL k v.cells = true := by
  cases v <;> first | exact h | (simp only [AVal.cells, bndL, Bool.and_true]; exact h)

theorem byteRows_bnd (k : Nat) (l : List UInt8) : bndR k (byteRows l) = true := by
  induction l with
  | nil => rfl
  | cons c l ih =>
    show bndR k ([AVal.int .u8 (c.toNat : Int)] :: byteRows l) = true
    rw [bndR, ih]; rfl

theorem opI_ok {op : AOp} {tm : List AVal} {hp hp' : List Ob} {v : AVal} {H : Hp} {ds : List ADef} {R E : Res} (hc : op.clo = true) (h : opI op tm hp = some (v, hp')) (hH : HpOk ρ hp H) (hb : ∀ o ∈ hp, o.bnd hp.length = true) (ht : bndL hp.length tm = true)
    (k : ∀ ρ' H', Grown ρ hp.length ρ' → HpOk ρ' hp' H' → R (v.ren ρ') H' ds) : opR O P op (renL ρ tm) H ds R E := by
  have hc0 := hc
  unfold AOp.clo at hc
  rw [Bool.and_eq_true] at hc
  obtain ⟨hco, hz⟩ := hc
  have quiet : ∀ (hr : (rop op tm (hpF hp)).map (fun v => (v, hp)) = some (v, hp')), (match rop op (renL ρ tm) H with | some v => R v H ds | none => False) := by
    intro hr
    rw [Option.map_eq_some_iff] at hr
    obtain ⟨u, h1, h2⟩ := hr
    cases h2
    rw [rop_ren hH.hren hc0 h1]
    exact k ρ H (fun _ _ => rfl) hH
  have newO : ∀ (o : Ob) (id : Nat), H id = none → o.bnd hp.length = true → Grown ρ hp.length (updR ρ hp.length id) ∧ HpOk (updR ρ hp.length id) (hp ++ [o]) (H.upd id (o.ren ρ)) := fun o id hid ho =>
    ⟨fun i hi => updR_lt i hi, hH.new hb hid ho⟩
  have hk : ∀ id, updR ρ hp.length id hp.length = id := fun id => by simp [updR]
  cases op with
  | alloc z =>
    simp only [opI, Option.some.injEq, Prod.mk.injEq] at h
    obtain ⟨rfl, rfl⟩ := h
    intro id hid
    obtain ⟨g1, g2⟩ := newO (.cells z) id hid (bndL_le (Nat.zero_le _) z hz)
    have := k _ _ g1 g2
    simp only [AVal.ren, hk, Ob.ren, renL_const hz] at this
    exact this
  | allocT t z =>
    simp only [opI, Option.some.injEq, Prod.mk.injEq] at h
    obtain ⟨rfl, rfl⟩ := h
    intro id hid
    obtain ⟨g1, g2⟩ := newO (.cells z (some t)) id hid (bndL_le (Nat.zero_le _) z hz)
    have := k _ _ g1 g2
    simp only [AVal.ren, hk, Ob.ren, renL_const hz] at this
    exact this
  | box x =>
    simp only [AOp.opds, List.all_cons, List.all_nil, Bool.and_true] at hco
    simp only [opI] at h
    split at h
    · rename_i hkn
      simp only [Option.some.injEq, Prod.mk.injEq] at h
      obtain ⟨rfl, rfl⟩ := h
      simp only [opR]
      rw [ev_ren ρ tm hco, known_ren, cells_ren]
      refine ⟨hkn, fun id hid => ?_⟩
      obtain ⟨g1, g2⟩ := newO (.cells (ev tm x).cells) id hid (cells_bnd (ev_bnd ht hco))
      have := k _ _ g1 g2
      simp only [AVal.ren, hk, Ob.ren] at this
      exact this
    · cases h
  | mkmap =>
    simp only [opI, Option.some.injEq, Prod.mk.injEq] at h
    obtain ⟨rfl, rfl⟩ := h
    intro id hid
    obtain ⟨g1, g2⟩ := newO (.map []) id hid rfl
    have := k _ _ g1 g2
    simp only [AVal.ren, hk, Ob.ren, List.map_nil] at this
    exact this
  | store n x y =>
    simp only [AOp.opds, List.all_cons, List.all_nil, Bool.and_true, Bool.and_eq_true] at hco
    simp only [opI] at h
    simp only [opR]
    rw [ev_ren ρ tm hco.1, ev_ren ρ tm hco.2]
    cases hx : ev tm x <;> simp only [hx, reduceCtorEq] at h
    rename_i i o
    simp only [AVal.ren, storeA]
    cases hi : hp[i]? with
    | none => simp [hi] at h
    | some ob =>
      cases ob <;> simp only [hi, reduceCtorEq] at h
      rename_i cs ty
      rw [hH.at_ i _ hi rfl]
      simp only [Ob.ren]
      rw [known_ren, cells_ren, renL_len, renL_len, all_one_ren]
      split at h
      · rename_i hcc
        rw [if_pos hcc]
        simp only [Option.some.injEq, Prod.mk.injEq] at h
        obtain ⟨rfl, rfl⟩ := h
        have := k ρ _ (fun _ _ => rfl) (hH.set hi rfl _)
        simp only [Ob.ren, renL_app, renL_take, renL_drop, AVal.ren, renL] at this
        exact this
      · cases h
  | mset kk m kx y =>
    simp only [AOp.opds, List.all_cons, List.all_nil, Bool.and_true, Bool.and_eq_true] at hco
    simp only [opI] at h
    simp only [opR]
    rw [ev_ren ρ tm hco.1, ev_ren ρ tm hco.2.1, ev_ren ρ tm hco.2.2]
    cases hx : ev tm m <;> simp only [hx, reduceCtorEq] at h
    rename_i i
    simp only [AVal.ren, msetA]
    cases hi : hp[i]? with
    | none => simp [hi] at h
    | some ob =>
      cases ob <;> simp only [hi, reduceCtorEq] at h
      rename_i es
      rw [hH.at_ i _ hi rfl]
      simp only [Ob.ren]
      rw [Option.map_eq_some_iff] at h
      obtain ⟨es', h1, h2⟩ := h
      simp only [Prod.mk.injEq] at h2
      obtain ⟨rfl, rfl⟩ := h2
      rw [setA_ren h1]
      have := k ρ _ (fun _ _ => rfl) (hH.set hi rfl _)
      simp only [Ob.ren, AVal.ren, renL] at this
      exact this
  | app sz bytes e x y =>
    simp only [AOp.opds, List.all_cons, List.all_nil, Bool.and_true, Bool.and_eq_true] at hco
    simp only [opI] at h
    simp only [opR]
    rw [ev_ren ρ tm hco.1, ev_ren ρ tm hco.2]
    exact appI_ok h hH hb (ev_bnd ht hco.1) (ev_bnd ht hco.2) k
  | apps bytes e x y =>
    simp only [AOp.opds, List.all_cons, List.all_nil, Bool.and_true, Bool.and_eq_true] at hco
    simp only [opI] at h
    simp only [opR, appsP]
    rw [ev_ren ρ tm hco.1, ev_ren ρ tm hco.2]
    cases hy : ev tm y <;> simp only [hy, reduceCtorEq] at h
    rename_i l
    simp only [AVal.ren]
    have := appI_ok (ρ := ρ) (ds := ds) (R := R) h hH hb (ev_bnd ht hco.1) (by simp only [AVal.bnd, byteRows_bnd, Tok.bnd, Bool.and_self]) k
    simp only [AVal.ren, byteRows_ren, Tok.ren] at this
    exact this
  | call f args => simp [opI] at h
  | dfr f args => simp [opI] at h
  | pnc x => simp [opI] at h
  | _ => exact quiet h
end
end Go.Eng

/- The interpreter's heap stays within its numbers. -/
set_option linter.unusedVariables false
set_option linter.unusedSimpArgs false
namespace Go.Eng

def HB (hp : List Ob) : Prop := ∀ o ∈ hp, o.bnd hp.length = true

theorem Ob.bnd_le {k k' : Nat} (h : k ≤ k') {o : Ob} (hb : o.bnd k = true) : o.bnd k' = true := by
  cases o with
  | cells cs t => exact bndL_le h cs hb
  | map es =>
    simp only [Ob.bnd, List.all_eq_true, Bool.and_eq_true] at hb ⊢
    exact fun p hp => ⟨AVal.bnd_le h _ (hb p hp).1, AVal.bnd_le h _ (hb p hp).2⟩
  | tok n s o => rfl
  | gone => rfl

theorem HB.new {hp : List Ob} (h : HB hp) {o : Ob} (ho : o.bnd hp.length = true) : HB (hp ++ [o]) := by
  intro x hx
  rw [List.length_append, List.length_singleton]
  rcases List.mem_append.1 hx with hx | hx
  · exact Ob.bnd_le (Nat.le_succ _) (h x hx)
  · simp only [List.mem_singleton] at hx; subst hx; exact Ob.bnd_le (Nat.le_succ _) ho
theorem HB.set {hp : List Ob} (h : HB hp) {i : Nat} {o : Ob} (ho : o.bnd hp.length = true) : HB (hp.set i o) := by
  intro x hx
  rw [List.length_set]
  rcases List.mem_or_eq_of_mem_set hx with hx | hx
  · exact h x hx
  · subst hx; exact ho

theorem bndL_app {k : Nat} {a b : List AVal} (ha : bndL k a = true) (hb : bndL k b = true) : bndL k (a ++ b) = true := by
  induction a with
  | nil => exact hb
  | cons v vs ih => rw [bndL, Bool.and_eq_true] at ha; rw [List.cons_append, bndL, ha.1, ih ha.2]; rfl
theorem bndL_iff {k : Nat} {a : List AVal} : bndL k a = true ↔ ∀ v ∈ a, v.bnd k = true := by
  induction a with
  | nil => simp [bndL]
  | cons v vs ih => rw [bndL, Bool.and_eq_true, ih]; simp
theorem bndL_take {k n : Nat} {a : List AVal} (h : bndL k a = true) : bndL k (a.take n) = true := bndL_iff.2 fun v hv => bndL_iff.1 h v (List.mem_of_mem_take hv)
theorem bndL_drop {k n : Nat} {a : List AVal} (h : bndL k a = true) : bndL k (a.drop n) = true := bndL_iff.2 fun v hv => bndL_iff.1 h v (List.mem_of_mem_drop hv)

theorem setA_bnd {kk : KK} {b : Nat} {k v : AVal} (hk : k.bnd b = true) (hv : v.bnd b = true) : ∀ {es es' : List (AVal × AVal)}, setA kk k v es = some es' → (∀ p ∈ es, p.1.bnd b = true ∧ p.2.bnd b = true) → ∀ p ∈ es', p.1.bnd b = true ∧ p.2.bnd b = true
  | [], es', h, _ => by
    simp only [setA, Option.some.injEq] at h; subst h
    intro p hp; simp only [List.mem_singleton] at hp; subst hp; exact ⟨hk, hv⟩
  | (k', v') :: rest, es', h, hb => by
    simp only [setA] at h
    cases he : eqCell kk k k' with
    | none => simp [he] at h
    | some c =>
      simp only [he] at h
      cases c with
      | true =>
        simp only [Option.some.injEq] at h; subst h
        intro p hp
        rcases List.mem_cons.1 hp with rfl | hp
        · exact ⟨hk, hv⟩
        · exact hb p (by simp [hp])
      | false =>
        rw [Option.map_eq_some_iff] at h
        obtain ⟨r, h1, rfl⟩ := h
        intro p hp
        rcases List.mem_cons.1 hp with rfl | hp
        · exact hb _ (by simp)
        · exact setA_bnd hk hv h1 (fun q hq => hb q (by simp [hq])) p hp

theorem bndR_flat {k : Nat} : ∀ {l : List (List AVal)}, bndR k l = true → bndL k l.flatten = true
  | [], _ => rfl
  | r :: rs, h => by
    rw [bndR, Bool.and_eq_true] at h
    rw [List.flatten_cons]
    exact bndL_app h.1 (bndR_flat h.2)

theorem appI_bnd {sz bytes : Nat} {e : TypeId} {x y v : AVal} {hp hp' : List Ob} (h : appI sz bytes e x y hp = some (v, hp')) (hb : HB hp) (hy : y.bnd hp.length = true) : HB hp' ∧ hp.length ≤ hp'.length := by
  unfold appI at h
  split at h
  · split at h
    · split at h
      · rename_i hid
        split at h
        · cases h
          simp only [AVal.bnd, Bool.and_eq_true] at hy
          refine ⟨HB.new (HB.set hb (o := .gone) rfl) ?_, by simp⟩
          rw [List.length_set]
          exact bndL_app (bndL_take (hb _ (List.mem_of_getElem? hid))) (bndR_flat hy.1)
        · cases h
      · cases h
    · cases h
  · split at h
    · cases h; exact ⟨hb, Nat.le_refl _⟩
    · split at h
      · split at h
        · cases h
          simp only [AVal.bnd, Bool.and_eq_true] at hy
          exact ⟨hb.new (bndR_flat hy.1), by simp⟩
        · cases h
      split at h
      · split at h
        · cases h; exact ⟨hb.new rfl, by simp⟩
        · cases h; exact ⟨hb.new rfl, by simp⟩
        · split at h
          · split at h
            · cases h; exact ⟨hb.set rfl, by simp⟩
            · cases h
          · cases h
        · cases h
      · cases h
  · cases h

theorem opI_bnd {op : AOp} {tm : List AVal} {hp hp' : List Ob} {v : AVal} (hc : op.clo = true) (h : opI op tm hp = some (v, hp')) (hb : HB hp) (ht : bndL hp.length tm = true) : HB hp' ∧ hp.length ≤ hp'.length := by
  unfold AOp.clo at hc
  rw [Bool.and_eq_true] at hc
  obtain ⟨hco, hz⟩ := hc
  have quiet : ∀ (hr : (rop op tm (hpF hp)).map (fun v => (v, hp)) = some (v, hp')), HB hp' ∧ hp.length ≤ hp'.length := by
    intro hr
    rw [Option.map_eq_some_iff] at hr
    obtain ⟨u, h1, h2⟩ := hr
    cases h2
    exact ⟨hb, Nat.le_refl _⟩
  cases op with
  | alloc z =>
    simp only [opI, Option.some.injEq, Prod.mk.injEq] at h
    obtain ⟨rfl, rfl⟩ := h
    exact ⟨hb.new (bndL_le (Nat.zero_le _) z hz), by simp⟩
  | allocT t z =>
    simp only [opI, Option.some.injEq, Prod.mk.injEq] at h
    obtain ⟨rfl, rfl⟩ := h
    exact ⟨hb.new (bndL_le (Nat.zero_le _) z hz), by simp⟩
  | box x =>
    simp only [AOp.opds, List.all_cons, List.all_nil, Bool.and_true] at hco
    simp only [opI] at h
    split at h
    · simp only [Option.some.injEq, Prod.mk.injEq] at h
      obtain ⟨rfl, rfl⟩ := h
      exact ⟨hb.new (cells_bnd (ev_bnd ht hco)), by simp⟩
    · cases h
  | mkmap =>
    simp only [opI, Option.some.injEq, Prod.mk.injEq] at h
    obtain ⟨rfl, rfl⟩ := h
    exact ⟨hb.new rfl, by simp⟩
  | store n x y =>
    simp only [AOp.opds, List.all_cons, List.all_nil, Bool.and_true, Bool.and_eq_true] at hco
    simp only [opI] at h
    cases hx : ev tm x <;> simp only [hx, reduceCtorEq] at h
    rename_i i o
    cases hi : hp[i]? with
    | none => simp [hi] at h
    | some ob =>
      cases ob <;> simp only [hi, reduceCtorEq] at h
      rename_i cs ty
      split at h
      · simp only [Option.some.injEq, Prod.mk.injEq] at h
        obtain ⟨rfl, rfl⟩ := h
        have hcs : bndL hp.length cs = true := hb _ (List.mem_of_getElem? hi)
        exact ⟨hb.set (bndL_app (bndL_app (bndL_take hcs) (cells_bnd (ev_bnd ht hco.2))) (bndL_drop hcs)), by simp⟩
      · cases h
  | mset kk m kx y =>
    simp only [AOp.opds, List.all_cons, List.all_nil, Bool.and_true, Bool.and_eq_true] at hco
    simp only [opI] at h
    cases hx : ev tm m <;> simp only [hx, reduceCtorEq] at h
    rename_i i
    cases hi : hp[i]? with
    | none => simp [hi] at h
    | some ob =>
      cases ob <;> simp only [hi, reduceCtorEq] at h
      rename_i es
      rw [Option.map_eq_some_iff] at h
      obtain ⟨es', h1, h2⟩ := h
      simp only [Prod.mk.injEq] at h2
      obtain ⟨rfl, rfl⟩ := h2
      have hes := hb _ (List.mem_of_getElem? hi)
      simp only [Ob.bnd, List.all_eq_true, Bool.and_eq_true] at hes
      refine ⟨hb.set ?_, by simp⟩
      simp only [Ob.bnd, List.all_eq_true, Bool.and_eq_true]
      exact setA_bnd (ev_bnd ht hco.2.1) (ev_bnd ht hco.2.2) h1 hes
  | app sz bytes e x y =>
    simp only [AOp.opds, List.all_cons, List.all_nil, Bool.and_true, Bool.and_eq_true] at hco
    exact appI_bnd h hb (ev_bnd ht hco.2)
  | apps bytes e x y =>
    simp only [opI] at h
    split at h
    · refine appI_bnd h hb ?_
      rw [AVal.bnd, byteRows_bnd]; rfl
    · cases h
  | call f args => simp [opI] at h
  | dfr f args => simp [opI] at h
  | pnc x => simp [opI] at h
  | _ => exact quiet h
end Go.Eng

/- The interpreter: regions. -/
set_option linter.unusedVariables false
set_option linter.unusedSimpArgs false
namespace Go.Eng

structure IS where
  tm : List AVal
  hp : List Ob
  ds : List ADef

def renDs (ρ : Nat → Nat) (ds : List ADef) : List ADef := ds.map fun d => ⟨d.fn, renL ρ d.caps, renL ρ d.args⟩
def bndDs (k : Nat) (ds : List ADef) : Bool := ds.all fun d => bndL k d.caps && bndL k d.args

def ARet.ren (ρ : Nat → Nat) : ARet → ARet
  | .ret v => .ret (v.ren ρ)
  | .panic v => .panic (v.ren ρ)
def ARet.bnd (k : Nat) : ARet → Bool
  | .ret v => v.bnd k
  | .panic v => v.bnd k

abbrev CallI := FuncId → List AVal → List Ob → Option (ARet × List Ob)

/-- What comes of one operation. -/
inductive OpOut where
  | go (v : AVal) (hp : List Ob) (ds : List ADef)
  | pnc (v : AVal) (hp : List Ob)

def opStep (cI : CallI) (op : AOp) (tm : List AVal) (hp : List Ob) (ds : List ADef) : Option OpOut :=
  match op with
  | .call f args => match ev tm f with
    | .func (.func g) fs cs => match cI g (fs ++ args.map (ev tm) ++ cs) hp with
      | some (.ret v, hp') => some (.go v hp' ds)
      | some (.panic v, hp') => some (.pnc v hp')
      | none => none
    | _ => none
  | .dfr f args => match ev tm f with
    | .func fn fs cs => some (.go (.tup []) hp (⟨fn, cs, fs ++ args.map (ev tm)⟩ :: ds))
    | _ => none
  | .pnc x => match ev tm x with
    | .iface t v => some (.pnc (.iface t v) hp)
    | _ => none
  | op => match opI op tm hp with
    | some (v, hp') => if v.bnd hp'.length = true then some (.go v hp' ds) else none
    | none => none

/-- A region: none: it came to its end; some v: it panicked. -/
def runOps (cI : CallI) (sp : List AVal) : List AOper → IS → Option (Option AVal × IS)
  | [], s => some (none, s)
  | o :: rest, s => match gdA o.gd s.tm with
    | some false => runOps cI sp rest ⟨setTm s.tm o.dst (.tup []), s.hp, s.ds⟩
    | some true => if o.op.clo = true then match opStep cI o.op s.tm s.hp s.ds with
      | some (.go v hp' ds') => runOps cI sp rest ⟨setTm s.tm o.dst v, hp', ds'⟩
      | some (.pnc v hp') => some (some v, ⟨sp, hp', s.ds⟩)
      | none => none
      else none
    | none => none

/-- The machine's abstract state is the interpreter's, renamed. -/
structure RSt (ρ : Nat → Nat) (t : IS) (s : S) : Prop where
  tm : s.tm = renL ρ t.tm
  hp : HpOk ρ t.hp s.hp
  ds : s.ds = renDs ρ t.ds

structure IOk (t : IS) : Prop where
  hp : HB t.hp
  tm : bndL t.hp.length t.tm = true
  ds : bndDs t.hp.length t.ds = true

def CallOkI (O : Cfg) (P : Program) (cI : CallI) : Prop :=
  ∀ g args hp r hp', cI g args hp = some (r, hp') → HB hp → bndL hp.length args = true → HB hp' ∧ hp.length ≤ hp'.length ∧ r.bnd hp'.length = true ∧
    ∀ ρ H, HpOk ρ hp H → ACalls O P g (renL ρ args) H fun r' H' => ∃ ρ', Grown ρ hp.length ρ' ∧ HpOk ρ' hp' H' ∧ r' = r.ren ρ'

theorem Grown.trans {ρ ρ' ρ'' : Nat → Nat} {k k' : Nat} (h : Grown ρ k ρ') (hk : k ≤ k') (h' : Grown ρ' k' ρ'') : Grown ρ k ρ'' := fun i hi => (h i hi).trans (h' i (by omega))

theorem setTm_ren (ρ : Nat → Nat) (tm : List AVal) (d : Option Nat) (v : AVal) : setTm (renL ρ tm) d (v.ren ρ) = renL ρ (setTm tm d v) := by
  cases d with
  | none => rfl
  | some d => simp only [setTm, renL_map, List.map_set]
theorem setTm_bnd {k : Nat} {tm : List AVal} {d : Option Nat} {v : AVal} (h : bndL k tm = true) (hv : v.bnd k = true) : bndL k (setTm tm d v) = true := by
  cases d with
  | none => exact h
  | some d =>
    refine bndL_iff.2 fun x hx => ?_
    rcases List.mem_or_eq_of_mem_set hx with hx | hx
    · exact bndL_iff.1 h x hx
    · subst hx; exact hv
theorem gdA_ren (ρ : Nat → Nat) {gd : Option (Nat × Bool)} {tm : List AVal} {b : Bool} (h : gdA gd tm = some b) : gdA gd (renL ρ tm) = some b := by
  cases gd with
  | none => exact h
  | some p =>
    obtain ⟨t, c⟩ := p
    simp only [gdA] at h ⊢
    rw [renL_getD]
    generalize tm.getD t .unk = v at h
    cases v <;> first | exact h | (cases h; done) | skip
    rename_i vs
    cases vs with
    | nil => exact h
    | cons x xs => cases h
theorem bndDs_le {k k' : Nat} (h : k ≤ k') {ds : List ADef} (hb : bndDs k ds = true) : bndDs k' ds = true := by
  simp only [bndDs, List.all_eq_true, Bool.and_eq_true] at hb ⊢
  exact fun d hd => ⟨bndL_le h _ (hb d hd).1, bndL_le h _ (hb d hd).2⟩
theorem renDs_congr {ρ ρ' : Nat → Nat} {k : Nat} (h : Grown ρ k ρ') {ds : List ADef} (hb : bndDs k ds = true) : renDs ρ ds = renDs ρ' ds := by
  unfold renDs
  apply List.map_congr_left
  intro d hd
  simp only [bndDs, List.all_eq_true, Bool.and_eq_true] at hb
  rw [renL_congr h _ (hb d hd).1, renL_congr h _ (hb d hd).2]

end Go.Eng

/- The interpreter's regions are sound. -/
set_option linter.unusedVariables false
set_option linter.unusedSimpArgs false
namespace Go.Eng
section
variable {O : Cfg} {P : Program} {cI : CallI}

theorem bnd_args {k : Nat} {tm : List AVal} (h : bndL k tm = true) {args : List Opd} (hc : args.all Opd.clo = true) : bndL k (args.map (ev tm)) = true := by
  refine bndL_iff.2 fun v hv => ?_
  obtain ⟨o, ho, rfl⟩ := List.mem_map.1 hv
  exact ev_bnd h (List.all_eq_true.1 hc o ho)

/-- What is asked of what comes of an operation. -/
def OutOk (k : Nat) (ds : List ADef) : OpOut → Prop
  | .go v hp' ds' => HB hp' ∧ k ≤ hp'.length ∧ v.bnd hp'.length = true ∧ bndDs hp'.length ds' = true
  | .pnc v hp' => HB hp' ∧ k ≤ hp'.length ∧ v.bnd hp'.length = true ∧ bndDs hp'.length ds = true

theorem clo_opds {op : AOp} (hc : op.clo = true) : op.opds.all Opd.clo = true := by
  unfold AOp.clo at hc
  rw [Bool.and_eq_true] at hc
  exact hc.1

theorem opStep_bnd (hcI : CallOkI O P cI) {op : AOp} {tm : List AVal} {hp : List Ob} {ds : List ADef} {r : OpOut} (hc : op.clo = true) (h : opStep cI op tm hp ds = some r) (hb : HB hp) (ht : bndL hp.length tm = true) (hd : bndDs hp.length ds = true) : OutOk hp.length ds r := by
  have hco := clo_opds hc
  have quiet : (match opI op tm hp with
    | some (v, hp') => if v.bnd hp'.length = true then some (OpOut.go v hp' ds) else none
    | none => none) = some r → OutOk hp.length ds r := by
    intro hq
    cases ho : opI op tm hp with
    | none => simp [ho] at hq
    | some p =>
      obtain ⟨v, hp'⟩ := p
      simp only [ho] at hq
      split at hq
      · rename_i hv
        cases hq
        obtain ⟨h1, h2⟩ := opI_bnd hc ho hb ht
        exact ⟨h1, h2, hv, bndDs_le h2 hd⟩
      · cases hq
  cases op with
  | call f args =>
    simp only [AOp.opds, List.all_cons, Bool.and_eq_true] at hco
    simp only [opStep] at h
    split at h
    · rename_i g fs cs hf
      have hfb := ev_bnd ht hco.1
      rw [hf] at hfb
      simp only [AVal.bnd, Bool.and_eq_true] at hfb
      have hab : bndL hp.length (fs ++ args.map (ev tm) ++ cs) = true := bndL_app (bndL_app hfb.1 (bnd_args ht hco.2)) hfb.2
      split at h
      · rename_i v hp' hcall
        cases h
        obtain ⟨h1, h2, h3, _⟩ := hcI _ _ _ _ _ hcall hb hab
        exact ⟨h1, h2, h3, bndDs_le h2 hd⟩
      · rename_i v hp' hcall
        cases h
        obtain ⟨h1, h2, h3, _⟩ := hcI _ _ _ _ _ hcall hb hab
        exact ⟨h1, h2, h3, bndDs_le h2 hd⟩
      · cases h
    · cases h
  | dfr f args =>
    simp only [AOp.opds, List.all_cons, Bool.and_eq_true] at hco
    simp only [opStep] at h
    split at h
    · rename_i fn fs cs hf
      have hfb := ev_bnd ht hco.1
      rw [hf] at hfb
      simp only [AVal.bnd, Bool.and_eq_true] at hfb
      cases h
      refine ⟨hb, Nat.le_refl _, rfl, ?_⟩
      simp only [bndDs, List.all_cons, Bool.and_eq_true] at hd ⊢
      exact ⟨⟨hfb.2, bndL_app hfb.1 (bnd_args ht hco.2)⟩, hd⟩
    · cases h
  | pnc x =>
    simp only [AOp.opds, List.all_cons, List.all_nil, Bool.and_true] at hco
    simp only [opStep] at h
    split at h
    · rename_i t v hx
      cases h
      have := ev_bnd ht hco
      rw [hx] at this
      exact ⟨hb, Nat.le_refl _, this, hd⟩
    · cases h
  | _ => exact quiet h

theorem runOps_bnd (hcI : CallOkI O P cI) {spI : List AVal} : ∀ (as : List AOper) (t t' : IS) (out : Option AVal), runOps cI spI as t = some (out, t') → IOk t → bndL t.hp.length spI = true →
    IOk t' ∧ t.hp.length ≤ t'.hp.length ∧ ∀ v, out = some v → v.bnd t'.hp.length = true
  | [], t, t', out, h, hI, hs => by
    simp only [runOps, Option.some.injEq, Prod.mk.injEq] at h
    obtain ⟨rfl, rfl⟩ := h
    exact ⟨hI, Nat.le_refl _, fun v h => by cases h⟩
  | o :: rest, t, t', out, h, hI, hs => by
    simp only [runOps] at h
    split at h
    · exact runOps_bnd hcI rest ⟨setTm t.tm o.dst (.tup []), t.hp, t.ds⟩ t' out h ⟨hI.hp, setTm_bnd hI.tm rfl, hI.ds⟩ hs
    · split at h
      · rename_i hc
        split at h
        · rename_i v hp' ds' hst
          obtain ⟨h1, h2, h3, h4⟩ := opStep_bnd hcI hc hst hI.hp hI.tm hI.ds
          obtain ⟨k1, k2, k3⟩ := runOps_bnd hcI rest ⟨setTm t.tm o.dst v, hp', ds'⟩ t' out h ⟨h1, setTm_bnd (bndL_le h2 _ hI.tm) h3, h4⟩ (bndL_le h2 _ hs)
          exact ⟨k1, Nat.le_trans h2 k2, k3⟩
        · rename_i v hp' hst
          obtain ⟨h1, h2, h3, h4⟩ := opStep_bnd hcI hc hst hI.hp hI.tm hI.ds
          cases h
          exact ⟨⟨h1, bndL_le h2 _ hs, h4⟩, h2, fun w hw => by cases hw; exact h3⟩
        · cases h
      · cases h
    · cases h
end
end Go.Eng

/- The interpreter's regions are sound: against the plan. -/
set_option linter.unusedVariables false
set_option linter.unusedSimpArgs false
namespace Go.Eng
section
variable {O : Cfg} {P : Program} {cI : CallI} {ρ : Nat → Nat}

theorem opStep_ok (hcI : CallOkI O P cI) {op : AOp} {tm : List AVal} {hp : List Ob} {ds : List ADef} {r : OpOut} (hc : op.clo = true) (h : opStep cI op tm hp ds = some r) (hb : HB hp) (ht : bndL hp.length tm = true) (hd : bndDs hp.length ds = true)
    {H : Hp} (hH : HpOk ρ hp H) {R E : Res}
    (k : match r with
      | .go v hp' ds' => ∀ ρ' H', Grown ρ hp.length ρ' → HpOk ρ' hp' H' → R (v.ren ρ') H' (renDs ρ' ds')
      | .pnc v hp' => ∀ ρ' H', Grown ρ hp.length ρ' → HpOk ρ' hp' H' → E (v.ren ρ') H' (renDs ρ' ds)) :
    opR O P op (renL ρ tm) H (renDs ρ ds) R E := by
  have hco := clo_opds hc
  have quiet : (match opI op tm hp with
    | some (v, hp') => if v.bnd hp'.length = true then some (OpOut.go v hp' ds) else none
    | none => none) = some r → opR O P op (renL ρ tm) H (renDs ρ ds) R E := by
    intro hq
    cases ho : opI op tm hp with
    | none => simp [ho] at hq
    | some p =>
      obtain ⟨v, hp'⟩ := p
      simp only [ho] at hq
      split at hq
      · cases hq
        refine opI_ok hc ho hH hb ht fun ρ' H' hg hh => ?_
        rw [renDs_congr hg hd]
        exact k ρ' H' hg hh
      · cases hq
  cases op with
  | call f args =>
    simp only [AOp.opds, List.all_cons, Bool.and_eq_true] at hco
    simp only [opStep] at h
    split at h
    · rename_i g fs cs hf
      have hfb := ev_bnd ht hco.1
      rw [hf] at hfb
      simp only [AVal.bnd, Bool.and_eq_true] at hfb
      have hab : bndL hp.length (fs ++ args.map (ev tm) ++ cs) = true := bndL_app (bndL_app hfb.1 (bnd_args ht hco.2)) hfb.2
      simp only [opR]
      rw [ev_ren ρ tm hco.1, hf]
      simp only [AVal.ren]
      rw [evs_ren tm hco.2, ← renL_app, ← renL_app]
      split at h
      · rename_i v hp' hcall
        cases h
        obtain ⟨_, _, _, h4⟩ := hcI _ _ _ _ _ hcall hb hab
        refine (h4 ρ H hH).mono fun r' H' hr => ?_
        obtain ⟨ρ', hg, hh, rfl⟩ := hr
        show R (v.ren ρ') H' (renDs ρ ds)
        rw [renDs_congr hg hd]
        exact k ρ' H' hg hh
      · rename_i v hp' hcall
        cases h
        obtain ⟨_, _, _, h4⟩ := hcI _ _ _ _ _ hcall hb hab
        refine (h4 ρ H hH).mono fun r' H' hr => ?_
        obtain ⟨ρ', hg, hh, rfl⟩ := hr
        show E (v.ren ρ') H' (renDs ρ ds)
        rw [renDs_congr hg hd]
        exact k ρ' H' hg hh
      · cases h
    · cases h
  | dfr f args =>
    simp only [AOp.opds, List.all_cons, Bool.and_eq_true] at hco
    simp only [opStep] at h
    split at h
    · rename_i fn fs cs hf
      cases h
      simp only [opR]
      rw [ev_ren ρ tm hco.1, hf]
      simp only [AVal.ren]
      have := k ρ H (fun _ _ => rfl) hH
      rw [evs_ren tm hco.2, ← renL_app]
      exact this
    · cases h
  | pnc x =>
    simp only [AOp.opds, List.all_cons, List.all_nil, Bool.and_true] at hco
    simp only [opStep] at h
    split at h
    · rename_i t v hx
      cases h
      simp only [opR]
      rw [ev_ren ρ tm hco, hx]
      exact k ρ H (fun _ _ => rfl) hH
    · cases h
  | _ => exact quiet h

theorem runOps_ok (hcI : CallOkI O P cI) {Q : Post} {sp : S} {spI : List AVal} : ∀ (as : List AOper) (t t' : IS) (out : Option AVal) (ρ : Nat → Nat) (s : S), runOps cI spI as t = some (out, t') → IOk t → RSt ρ t s → sp.tm = renL ρ spI → bndL t.hp.length spI = true →
    (∀ ρ' s', Grown ρ t.hp.length ρ' → RSt ρ' t' s' → match out with | none => Q .normal s' | some v => Q (.panic (v.ren ρ')) s') → plan O P Q sp as s
  | [], t, t', out, ρ, s, h, hI, hR, hsp, hsb, k => by
    simp only [runOps, Option.some.injEq, Prod.mk.injEq] at h
    obtain ⟨rfl, rfl⟩ := h
    exact k ρ s (fun _ _ => rfl) hR
  | o :: rest, t, t', out, ρ, s, h, hI, hR, hsp, hsb, k => by
    simp only [runOps] at h
    simp only [plan]
    rw [hR.tm]
    split at h
    · rename_i hg
      rw [gdA_ren ρ hg]
      refine runOps_ok hcI rest ⟨setTm t.tm o.dst (.tup []), t.hp, t.ds⟩ t' out ρ _ h ⟨hI.hp, setTm_bnd hI.tm rfl, hI.ds⟩ ⟨?_, hR.hp, hR.ds⟩ hsp hsb k
      show setTm s.tm o.dst (.tup []) = _
      rw [hR.tm]
      exact setTm_ren ρ t.tm o.dst (.tup [])
    · rename_i hg
      rw [gdA_ren ρ hg]
      split at h
      · rename_i hc
        split at h
        · rename_i v hp' ds' hst
          obtain ⟨h1, h2, h3, h4⟩ := opStep_bnd hcI hc hst hI.hp hI.tm hI.ds
          simp only
          rw [hR.ds]
          refine opStep_ok hcI hc hst hI.hp hI.tm hI.ds hR.hp ?_
          intro ρ1 H1 hg1 hh1
          refine runOps_ok hcI rest ⟨setTm t.tm o.dst v, hp', ds'⟩ t' out ρ1 _ h ⟨h1, setTm_bnd (bndL_le h2 _ hI.tm) h3, h4⟩ ⟨?_, hh1, rfl⟩ ?_ (bndL_le h2 _ hsb) fun ρ2 s2 hg2 hr2 => k ρ2 s2 (hg1.trans h2 hg2) hr2
          · show setTm s.tm o.dst (v.ren ρ1) = renL ρ1 (setTm t.tm o.dst v)
            rw [hR.tm, renL_congr hg1 _ hI.tm, setTm_ren]
          · rw [hsp]; exact renL_congr hg1 _ hsb
        · rename_i v hp' hst
          obtain ⟨h1, h2, h3, h4⟩ := opStep_bnd hcI hc hst hI.hp hI.tm hI.ds
          cases h
          simp only
          rw [hR.ds]
          refine opStep_ok hcI hc hst hI.hp hI.tm hI.ds hR.hp ?_
          intro ρ1 H1 hg1 hh1
          refine k ρ1 ⟨sp.tm, H1, renDs ρ1 t.ds⟩ hg1 ⟨?_, hh1, rfl⟩
          show sp.tm = renL ρ1 spI
          rw [hsp]; exact renL_congr hg1 _ hsb
        · cases h
      · cases h
    · cases h
end
end Go.Eng

/- The interpreter: regions whose order the machine draws. -/
set_option linter.unusedVariables false
set_option linter.unusedSimpArgs false
namespace Go.Eng

mutual
/-- Surely the same. -/
def AVal.eqA : AVal → AVal → Bool
  | .bool a, .bool b => a == b
  | .int k a, .int k' b => decide (k = k') && decide (a = b)
  | .str a, .str b => decide (a = b)
  | .agg a, .agg b => eqAL a b
  | .sl a t, .sl b u => eqAR a b && decide (t = u)
  | .slm i n s, .slm j m r => decide (i = j) && decide (n = m) && decide (s = r)
  | .ref i o, .ref j p => decide (i = j) && decide (o = p)
  | .ip a, .ip b => eqAL a b
  | .nilptr, .nilptr => true
  | .map i, .map j => decide (i = j)
  | .nilmap, .nilmap => true
  | .nilfunc, .nilfunc => true
  | .iface t v, .iface u w => decide (t = u) && v.eqA w
  | .nilif, .nilif => true
  | .tup a, .tup b => eqAL a b
  | _, _ => false
def eqAL : List AVal → List AVal → Bool
  | [], [] => true
  | a :: as, b :: bs => a.eqA b && eqAL as bs
  | _, _ => false
def eqAR : List (List AVal) → List (List AVal) → Bool
  | [], [] => true
  | a :: as, b :: bs => eqAL a b && eqAR as bs
  | _, _ => false
end

mutual
theorem AVal.eqA_ok : ∀ {a b : AVal}, a.eqA b = true → a = b
  | .bool a, b, h => by cases b <;> simp_all [AVal.eqA]
  | .int k a, b, h => by cases b <;> simp_all [AVal.eqA]
  | .str a, b, h => by cases b <;> simp_all [AVal.eqA]
  | .agg a, b, h => by
    cases b <;> simp only [AVal.eqA, Bool.false_eq_true] at h
    rw [eqAL_ok h]
  | .sl a t, b, h => by
    cases b <;> simp only [AVal.eqA, Bool.false_eq_true, Bool.and_eq_true, decide_eq_true_eq] at h
    rw [eqAR_ok h.1, h.2]
  | .slm i n s, b, h => by cases b <;> simp_all [AVal.eqA]
  | .ref i o, b, h => by cases b <;> simp_all [AVal.eqA]
  | .ip a, b, h => by
    cases b <;> simp only [AVal.eqA, Bool.false_eq_true] at h
    rw [eqAL_ok h]
  | .nilptr, b, h => by cases b <;> simp_all [AVal.eqA]
  | .map i, b, h => by cases b <;> simp_all [AVal.eqA]
  | .nilmap, b, h => by cases b <;> simp_all [AVal.eqA]
  | .func f x y, b, h => by cases b <;> simp only [AVal.eqA, Bool.false_eq_true] at h
  | .nilfunc, b, h => by cases b <;> simp_all [AVal.eqA]
  | .iface t v, b, h => by
    cases b <;> simp only [AVal.eqA, Bool.false_eq_true, Bool.and_eq_true, decide_eq_true_eq] at h
    rw [h.1, AVal.eqA_ok h.2]
  | .nilif, b, h => by cases b <;> simp_all [AVal.eqA]
  | .tup a, b, h => by
    cases b <;> simp only [AVal.eqA, Bool.false_eq_true] at h
    rw [eqAL_ok h]
  | .unk, b, h => by cases b <;> simp only [AVal.eqA, Bool.false_eq_true] at h
theorem eqAL_ok : ∀ {a b : List AVal}, eqAL a b = true → a = b
  | [], [], _ => rfl
  | [], _ :: _, h => by simp [eqAL] at h
  | _ :: _, [], h => by simp [eqAL] at h
  | a :: as, b :: bs, h => by
    rw [eqAL, Bool.and_eq_true] at h
    rw [AVal.eqA_ok h.1, eqAL_ok h.2]
theorem eqAR_ok : ∀ {a b : List (List AVal)}, eqAR a b = true → a = b
  | [], [], _ => rfl
  | [], _ :: _, h => by simp [eqAR] at h
  | _ :: _, [], h => by simp [eqAR] at h
  | a :: as, b :: bs, h => by
    rw [eqAR, Bool.and_eq_true] at h
    rw [eqAL_ok h.1, eqAR_ok h.2]
end

def chkI (t : IS) (r : AOper) : Bool :=
  match gdA r.gd t.tm with
  | some true => r.op.clo && match rop r.op t.tm (hpF t.hp) with
    | some v => v.eqA (getTm t.tm r.dst)
    | none => false
  | some false => true
  | none => false

theorem getTm_ren (ρ : Nat → Nat) (tm : List AVal) (d : Option Nat) : getTm (renL ρ tm) d = (getTm tm d).ren ρ := by
  cases d with
  | none => rfl
  | some d => exact renL_getD ρ tm d

theorem chkI_ok {ρ : Nat → Nat} {t : IS} {s : S} (hR : RSt ρ t s) {r : AOper} (h : chkI t r = true) : chkOk s r := by
  unfold chkI at h
  unfold chkOk
  rw [hR.tm]
  split at h
  · rename_i hg
    rw [gdA_ren ρ hg]
    rw [Bool.and_eq_true] at h
    obtain ⟨hc, h⟩ := h
    split at h
    · rename_i v hv
      simp only
      rw [rop_ren hR.hp.hren hc hv, getTm_ren, AVal.eqA_ok h]
    · cases h
  · rename_i hg
    rw [gdA_ren ρ hg]
    trivial
  · cases h

theorem chkAll_ok {ρ : Nat → Nat} {t : IS} {s : S} (hR : RSt ρ t s) : ∀ {l : List AOper}, l.all (chkI t) = true → chkAll s l
  | [], _ => trivial
  | r :: rest, h => by
    rw [List.all_cons, Bool.and_eq_true] at h
    exact ⟨chkI_ok hR h.1, chkAll_ok hR h.2⟩

def runOpsD (cI : CallI) (sp : List AVal) : List AOperD → IS → Option (Option AVal × IS)
  | [], s => some (none, s)
  | o :: rest, s => match gdA o.op.gd s.tm with
    | some false => runOpsD cI sp rest ⟨setTm s.tm o.op.dst (.tup []), s.hp, s.ds⟩
    | some true => if o.op.op.clo = true then match opStep cI o.op.op s.tm s.hp s.ds with
      | some (.go v hp' ds') => if o.chk.all (chkI ⟨setTm s.tm o.op.dst v, hp', ds'⟩) = true then runOpsD cI sp rest ⟨setTm s.tm o.op.dst v, hp', ds'⟩ else none
      | some (.pnc v hp') => some (some v, ⟨sp, hp', s.ds⟩)
      | none => none
      else none
    | none => none

section
variable {O : Cfg} {P : Program} {cI : CallI}

theorem runOpsD_bnd (hcI : CallOkI O P cI) {spI : List AVal} : ∀ (as : List AOperD) (t t' : IS) (out : Option AVal), runOpsD cI spI as t = some (out, t') → IOk t → bndL t.hp.length spI = true →
    IOk t' ∧ t.hp.length ≤ t'.hp.length ∧ ∀ v, out = some v → v.bnd t'.hp.length = true
  | [], t, t', out, h, hI, hs => by
    simp only [runOpsD, Option.some.injEq, Prod.mk.injEq] at h
    obtain ⟨rfl, rfl⟩ := h
    exact ⟨hI, Nat.le_refl _, fun v h => by cases h⟩
  | o :: rest, t, t', out, h, hI, hs => by
    simp only [runOpsD] at h
    split at h
    · exact runOpsD_bnd hcI rest ⟨setTm t.tm o.op.dst (.tup []), t.hp, t.ds⟩ t' out h ⟨hI.hp, setTm_bnd hI.tm rfl, hI.ds⟩ hs
    · split at h
      · rename_i hc
        split at h
        · rename_i v hp' ds' hst
          obtain ⟨h1, h2, h3, h4⟩ := opStep_bnd hcI hc hst hI.hp hI.tm hI.ds
          split at h
          · obtain ⟨k1, k2, k3⟩ := runOpsD_bnd hcI rest ⟨setTm t.tm o.op.dst v, hp', ds'⟩ t' out h ⟨h1, setTm_bnd (bndL_le h2 _ hI.tm) h3, h4⟩ (bndL_le h2 _ hs)
            exact ⟨k1, Nat.le_trans h2 k2, k3⟩
          · cases h
        · rename_i v hp' hst
          obtain ⟨h1, h2, h3, h4⟩ := opStep_bnd hcI hc hst hI.hp hI.tm hI.ds
          cases h
          exact ⟨⟨h1, bndL_le h2 _ hs, h4⟩, h2, fun w hw => by cases hw; exact h3⟩
        · cases h
      · cases h
    · cases h

theorem runOpsD_ok (hcI : CallOkI O P cI) {Q : Post} {sp : S} {spI : List AVal} : ∀ (as : List AOperD) (t t' : IS) (out : Option AVal) (ρ : Nat → Nat) (s : S), runOpsD cI spI as t = some (out, t') → IOk t → RSt ρ t s → sp.tm = renL ρ spI → bndL t.hp.length spI = true →
    (∀ ρ' s', Grown ρ t.hp.length ρ' → RSt ρ' t' s' → match out with | none => Q .normal s' | some v => Q (.panic (v.ren ρ')) s') → planD O P Q sp as s
  | [], t, t', out, ρ, s, h, hI, hR, hsp, hsb, k => by
    simp only [runOpsD, Option.some.injEq, Prod.mk.injEq] at h
    obtain ⟨rfl, rfl⟩ := h
    exact k ρ s (fun _ _ => rfl) hR
  | o :: rest, t, t', out, ρ, s, h, hI, hR, hsp, hsb, k => by
    simp only [runOpsD] at h
    simp only [planD]
    rw [hR.tm]
    split at h
    · rename_i hg
      rw [gdA_ren ρ hg]
      refine runOpsD_ok hcI rest ⟨setTm t.tm o.op.dst (.tup []), t.hp, t.ds⟩ t' out ρ _ h ⟨hI.hp, setTm_bnd hI.tm rfl, hI.ds⟩ ⟨?_, hR.hp, hR.ds⟩ hsp hsb k
      show setTm s.tm o.op.dst (.tup []) = _
      rw [hR.tm]
      exact setTm_ren ρ t.tm o.op.dst (.tup [])
    · rename_i hg
      rw [gdA_ren ρ hg]
      split at h
      · rename_i hc
        split at h
        · rename_i v hp' ds' hst
          obtain ⟨h1, h2, h3, h4⟩ := opStep_bnd hcI hc hst hI.hp hI.tm hI.ds
          split at h
          · rename_i hchk
            simp only
            rw [hR.ds]
            refine opStep_ok hcI hc hst hI.hp hI.tm hI.ds hR.hp ?_
            intro ρ1 H1 hg1 hh1
            have hR1 : RSt ρ1 ⟨setTm t.tm o.op.dst v, hp', ds'⟩ ⟨setTm s.tm o.op.dst (v.ren ρ1), H1, renDs ρ1 ds'⟩ := ⟨by
              show setTm s.tm o.op.dst (v.ren ρ1) = renL ρ1 (setTm t.tm o.op.dst v)
              rw [hR.tm, renL_congr hg1 _ hI.tm, setTm_ren], hh1, rfl⟩
            refine ⟨chkAll_ok hR1 hchk, ?_⟩
            refine runOpsD_ok hcI rest ⟨setTm t.tm o.op.dst v, hp', ds'⟩ t' out ρ1 _ h ⟨h1, setTm_bnd (bndL_le h2 _ hI.tm) h3, h4⟩ hR1 ?_ (bndL_le h2 _ hsb) fun ρ2 s2 hg2 hr2 => k ρ2 s2 (hg1.trans h2 hg2) hr2
            rw [hsp]; exact renL_congr hg1 _ hsb
          · cases h
        · rename_i v hp' hst
          obtain ⟨h1, h2, h3, h4⟩ := opStep_bnd hcI hc hst hI.hp hI.tm hI.ds
          cases h
          simp only
          rw [hR.ds]
          refine opStep_ok hcI hc hst hI.hp hI.tm hI.ds hR.hp ?_
          intro ρ1 H1 hg1 hh1
          refine k ρ1 ⟨sp.tm, H1, renDs ρ1 t.ds⟩ hg1 ⟨?_, hh1, rfl⟩
          show sp.tm = renL ρ1 spI
          rw [hsp]; exact renL_congr hg1 _ hsb
        · cases h
      · cases h
    · cases h
end
end Go.Eng

/- The interpreter: statements. -/
set_option linter.unusedVariables false
set_option linter.unusedSimpArgs false
namespace Go.Eng

inductive IEx where
  | normal
  | exit (id : Nat)
  | goto (l : Nat)
  | ret
  | panic (v : AVal)

def IEx.ren (ρ : Nat → Nat) : IEx → AEx
  | .normal => .normal
  | .exit i => .exit i
  | .goto l => .goto l
  | .ret => .ret
  | .panic v => .panic (v.ren ρ)
def IEx.bnd (k : Nat) : IEx → Bool
  | .panic v => v.bnd k
  | _ => true

def dropI (dr : Bool) (o : Opd) (t : IS) : IS :=
  match dr, o with
  | true, .t i => ⟨t.tm.set i .unk, t.hp, t.ds⟩
  | _, _ => t

def forgetT (tm : List AVal) : List AOper → List AVal
  | [] => tm
  | o :: rest => forgetT (setTm tm o.dst .unk) rest
def forgetTD (tm : List AVal) : List AOperD → List AVal
  | [] => tm
  | o :: rest => forgetTD (setTm tm o.op.dst .unk) rest

def regOut (d : List Nat) : Option (Option AVal × IS) → Option (IEx × IS)
  | some (none, t) => some (.normal, ⟨killTm d t.tm, t.hp, t.ds⟩)
  | some (some v, t) => some (.panic v, t)
  | none => none

def blkOut (id : Nat) : Option (IEx × IS) → Option (IEx × IS)
  | some (.exit id', t) => if id' = id then some (.normal, t) else some (.exit id', t)
  | r => r

def scpOut : Option (IEx × IS) → Option (IEx × IS)
  | some (.goto _, _) => none
  | r => r

def condI (v : AVal) (a b : Unit → Option (IEx × IS)) : Option (IEx × IS) :=
  match v with
  | .bool true => a ()
  | .bool false => b ()
  | _ => none

/-- A statement; the number bounds how deep statements nest and how often loops go round. -/
def runC (cI : CallI) : Nat → ACode → IS → Option (IEx × IS)
  | 0, _, _ => none
  | n + 1, c, t => match c with
    | .skip => some (.normal, t)
    | .ret => some (.ret, t)
    | .exit id => some (.exit id, t)
    | .goto l => some (.goto l, t)
    | .label _ => some (.normal, t)
    | .block id b => blkOut id (runC cI n b t)
    | .scope b => scpOut (runC cI n b t)
    | .loop b => match runC cI n b t with
      | some (.normal, t') => runC cI n (.loop b) t'
      | r => r
    | .seq a b => match runC cI n a t with
      | some (.normal, t') => runC cI n b t'
      | r => r
    | .cond o dr a b => condI (ev t.tm o) (fun _ => runC cI n a (dropI dr o t)) (fun _ => runC cI n b (dropI dr o t))
    | .reg as d => regOut d (runOps cI (forgetT t.tm as) as t)
    | .dreg as d => regOut d (runOpsD cI (forgetTD t.tm as) as t)

theorem forget_eq : ∀ (as : List AOper) (s : S), forget s as = ⟨forgetT s.tm as, s.hp, s.ds⟩
  | [], s => rfl
  | o :: rest, s => forget_eq rest _
theorem forgetD_eq : ∀ (as : List AOperD) (s : S), forgetD s as = ⟨forgetTD s.tm as, s.hp, s.ds⟩
  | [], s => rfl
  | o :: rest, s => forgetD_eq rest _
theorem forgetT_ren (ρ : Nat → Nat) : ∀ (as : List AOper) (tm : List AVal), forgetT (renL ρ tm) as = renL ρ (forgetT tm as)
  | [], tm => rfl
  | o :: rest, tm => by
    rw [forgetT, forgetT, ← forgetT_ren ρ rest, ← setTm_ren ρ tm o.dst .unk]; rfl
theorem forgetTD_ren (ρ : Nat → Nat) : ∀ (as : List AOperD) (tm : List AVal), forgetTD (renL ρ tm) as = renL ρ (forgetTD tm as)
  | [], tm => rfl
  | o :: rest, tm => by
    rw [forgetTD, forgetTD, ← forgetTD_ren ρ rest, ← setTm_ren ρ tm o.op.dst .unk]; rfl
theorem forgetT_bnd {k : Nat} : ∀ (as : List AOper) (tm : List AVal), bndL k tm = true → bndL k (forgetT tm as) = true
  | [], tm, h => h
  | o :: rest, tm, h => forgetT_bnd rest _ (setTm_bnd h rfl)
theorem forgetTD_bnd {k : Nat} : ∀ (as : List AOperD) (tm : List AVal), bndL k tm = true → bndL k (forgetTD tm as) = true
  | [], tm, h => h
  | o :: rest, tm, h => forgetTD_bnd rest _ (setTm_bnd h rfl)

theorem killTm_ren (ρ : Nat → Nat) (d : List Nat) (tm : List AVal) : killTm d (renL ρ tm) = renL ρ (killTm d tm) := by
  apply List.ext_getElem?
  intro i
  simp only [killTm, renL_map, List.getElem?_map, List.getElem?_mapIdx, Option.map_map]
  cases tm[i]? with
  | none => rfl
  | some v =>
    simp only [Option.map_some, Function.comp_apply]
    split <;> rfl
theorem killTm_bnd {k : Nat} (d : List Nat) {tm : List AVal} (h : bndL k tm = true) : bndL k (killTm d tm) = true := by
  rw [bndL_iff] at h ⊢
  intro v hv
  simp only [killTm, List.mem_mapIdx] at hv
  obtain ⟨i, hi, rfl⟩ := hv
  split
  · exact h _ (List.getElem_mem hi)
  · rfl
theorem set_bnd {k : Nat} {tm : List AVal} {i : Nat} {v : AVal} (h : bndL k tm = true) (hv : v.bnd k = true) : bndL k (tm.set i v) = true := setTm_bnd (d := some i) h hv

theorem dropI_ok {ρ : Nat → Nat} {t : IS} {s : S} (h : RSt ρ t s) (dr : Bool) (o : Opd) : RSt ρ (dropI dr o t) (dropO dr o s) := by
  unfold dropI dropO
  split
  · refine ⟨?_, h.hp, h.ds⟩
    simp only
    rw [h.tm]
    exact setTm_ren ρ t.tm (some _) .unk
  · split
    · simp_all
    · exact h
theorem dropI_iok {t : IS} (h : IOk t) (dr : Bool) (o : Opd) : IOk (dropI dr o t) ∧ (dropI dr o t).hp = t.hp := by
  unfold dropI
  split
  · exact ⟨⟨h.hp, set_bnd h.tm rfl, h.ds⟩, rfl⟩
  · exact ⟨h, rfl⟩

section
variable {O : Cfg} {P : Program} {cI : CallI}

theorem runC_bnd (hcI : CallOkI O P cI) : ∀ (n : Nat) (c : ACode) (t t' : IS) (out : IEx), runC cI n c t = some (out, t') → IOk t → IOk t' ∧ t.hp.length ≤ t'.hp.length ∧ out.bnd t'.hp.length = true := by
  intro n
  induction n with
  | zero => intro c t t' out h; simp [runC] at h
  | succ n ih =>
    intro c t t' out h hI
    cases c with
    | skip => simp only [runC, Option.some.injEq, Prod.mk.injEq] at h; obtain ⟨rfl, rfl⟩ := h; exact ⟨hI, Nat.le_refl _, rfl⟩
    | ret => simp only [runC, Option.some.injEq, Prod.mk.injEq] at h; obtain ⟨rfl, rfl⟩ := h; exact ⟨hI, Nat.le_refl _, rfl⟩
    | exit id => simp only [runC, Option.some.injEq, Prod.mk.injEq] at h; obtain ⟨rfl, rfl⟩ := h; exact ⟨hI, Nat.le_refl _, rfl⟩
    | goto id => simp only [runC, Option.some.injEq, Prod.mk.injEq] at h; obtain ⟨rfl, rfl⟩ := h; exact ⟨hI, Nat.le_refl _, rfl⟩
    | label id => simp only [runC, Option.some.injEq, Prod.mk.injEq] at h; obtain ⟨rfl, rfl⟩ := h; exact ⟨hI, Nat.le_refl _, rfl⟩
    | block id b =>
      simp only [runC] at h
      cases hr : runC cI n b t with
      | none => rw [hr] at h; simp [blkOut] at h
      | some p =>
        obtain ⟨o1, t1⟩ := p
        obtain ⟨h1, h2, h3⟩ := ih b t t1 o1 hr hI
        rw [hr] at h
        cases o1 with
        | exit i =>
          simp only [blkOut] at h
          split at h <;> (simp only [Option.some.injEq, Prod.mk.injEq] at h; obtain ⟨rfl, rfl⟩ := h; exact ⟨h1, h2, rfl⟩)
        | _ => simp only [blkOut, Option.some.injEq, Prod.mk.injEq] at h; obtain ⟨rfl, rfl⟩ := h; exact ⟨h1, h2, h3⟩
    | scope b =>
      simp only [runC] at h
      cases hr : runC cI n b t with
      | none => rw [hr] at h; simp [scpOut] at h
      | some p =>
        obtain ⟨o1, t1⟩ := p
        obtain ⟨h1, h2, h3⟩ := ih b t t1 o1 hr hI
        rw [hr] at h
        cases o1 with
        | goto i => simp [scpOut] at h
        | _ => simp only [scpOut, Option.some.injEq, Prod.mk.injEq] at h; obtain ⟨rfl, rfl⟩ := h; exact ⟨h1, h2, h3⟩
    | loop b =>
      simp only [runC] at h
      cases hr : runC cI n b t with
      | none => rw [hr] at h; simp at h
      | some p =>
        obtain ⟨o1, t1⟩ := p
        obtain ⟨h1, h2, h3⟩ := ih b t t1 o1 hr hI
        rw [hr] at h
        cases o1 with
        | normal =>
          simp only at h
          obtain ⟨k1, k2, k3⟩ := ih (.loop b) t1 t' out h h1
          exact ⟨k1, Nat.le_trans h2 k2, k3⟩
        | _ => simp only [Option.some.injEq, Prod.mk.injEq] at h; obtain ⟨rfl, rfl⟩ := h; exact ⟨h1, h2, h3⟩
    | seq a b =>
      simp only [runC] at h
      cases hr : runC cI n a t with
      | none => rw [hr] at h; simp at h
      | some p =>
        obtain ⟨o1, t1⟩ := p
        obtain ⟨h1, h2, h3⟩ := ih a t t1 o1 hr hI
        rw [hr] at h
        cases o1 with
        | normal =>
          simp only at h
          obtain ⟨k1, k2, k3⟩ := ih b t1 t' out h h1
          exact ⟨k1, Nat.le_trans h2 k2, k3⟩
        | _ => simp only [Option.some.injEq, Prod.mk.injEq] at h; obtain ⟨rfl, rfl⟩ := h; exact ⟨h1, h2, h3⟩
    | cond o dr a b =>
      simp only [runC] at h
      obtain ⟨d1, d2⟩ := dropI_iok hI dr o
      unfold condI at h
      split at h
      · have := ih a _ t' out h d1; rw [d2] at this; exact this
      · have := ih b _ t' out h d1; rw [d2] at this; exact this
      · cases h
    | reg as d =>
      simp only [runC] at h
      cases hr : runOps cI (forgetT t.tm as) as t with
      | none => rw [hr] at h; simp [regOut] at h
      | some p =>
        obtain ⟨o1, t1⟩ := p
        obtain ⟨h1, h2, h3⟩ := runOps_bnd hcI as t t1 o1 hr hI (forgetT_bnd as _ hI.tm)
        rw [hr] at h
        cases o1 with
        | none => simp only [regOut, Option.some.injEq, Prod.mk.injEq] at h; obtain ⟨rfl, rfl⟩ := h; exact ⟨⟨h1.hp, killTm_bnd d h1.tm, h1.ds⟩, h2, rfl⟩
        | some v => simp only [regOut, Option.some.injEq, Prod.mk.injEq] at h; obtain ⟨rfl, rfl⟩ := h; exact ⟨h1, h2, h3 v rfl⟩
    | dreg as d =>
      simp only [runC] at h
      cases hr : runOpsD cI (forgetTD t.tm as) as t with
      | none => rw [hr] at h; simp [regOut] at h
      | some p =>
        obtain ⟨o1, t1⟩ := p
        obtain ⟨h1, h2, h3⟩ := runOpsD_bnd hcI as t t1 o1 hr hI (forgetTD_bnd as _ hI.tm)
        rw [hr] at h
        cases o1 with
        | none => simp only [regOut, Option.some.injEq, Prod.mk.injEq] at h; obtain ⟨rfl, rfl⟩ := h; exact ⟨⟨h1.hp, killTm_bnd d h1.tm, h1.ds⟩, h2, rfl⟩
        | some v => simp only [regOut, Option.some.injEq, Prod.mk.injEq] at h; obtain ⟨rfl, rfl⟩ := h; exact ⟨h1, h2, h3 v rfl⟩
end

end Go.Eng

/- The interpreter's statements are sound. -/
set_option linter.unusedVariables false
set_option linter.unusedSimpArgs false
namespace Go.Eng
section
variable {O : Cfg} {P : Program} {cI : CallI} {ks : Tab}

/-- What is asked behind a run of the interpreter. -/
def Beh (Q : Post) (ρ : Nat → Nat) (k : Nat) (out : IEx) (t' : IS) : Prop := ∀ ρ' s', Grown ρ k ρ' → RSt ρ' t' s' → Q (out.ren ρ') s'

theorem Grown.refl (ρ : Nat → Nat) (k : Nat) : Grown ρ k ρ := fun _ _ => rfl
theorem Grown.le {ρ ρ' : Nat → Nat} {k k' : Nat} (h : Grown ρ k' ρ') (hk : k ≤ k') : Grown ρ k ρ' := fun i hi => h i (Nat.lt_of_lt_of_le hi hk)

theorem runC_ok (hm : P.follows .mixedOrders = true) (hcI : CallOkI O P cI) : ∀ (n : Nat) (c : ACode) (t t' : IS) (out : IEx), runC cI n c t = some (out, t') → IOk t →
    ∀ (ρ : Nat → Nat) (s : S) (Q : Post), RSt ρ t s → Beh Q ρ t.hp.length out t' → wpC O P ks c Q s := by
  intro n
  induction n using Nat.strongRecOn with
  | _ n ih =>
    intro c t t' out h hI ρ s Q hR hQ
    cases n with
    | zero => simp [runC] at h
    | succ n =>
    cases c with
    | skip => simp only [runC, Option.some.injEq, Prod.mk.injEq] at h; obtain ⟨rfl, rfl⟩ := h; exact hQ ρ s (Grown.refl _ _) hR
    | ret => simp only [runC, Option.some.injEq, Prod.mk.injEq] at h; obtain ⟨rfl, rfl⟩ := h; exact hQ ρ s (Grown.refl _ _) hR
    | exit id => simp only [runC, Option.some.injEq, Prod.mk.injEq] at h; obtain ⟨rfl, rfl⟩ := h; exact hQ ρ s (Grown.refl _ _) hR
    | goto id => simp only [runC, Option.some.injEq, Prod.mk.injEq] at h; obtain ⟨rfl, rfl⟩ := h; exact hQ ρ s (Grown.refl _ _) hR
    | label id => simp only [runC, Option.some.injEq, Prod.mk.injEq] at h; obtain ⟨rfl, rfl⟩ := h; exact hQ ρ s (Grown.refl _ _) hR
    | block id b =>
      simp only [runC] at h
      cases hr : runC cI n b t with
      | none => rw [hr] at h; simp [blkOut] at h
      | some p =>
        obtain ⟨o1, t1⟩ := p
        rw [hr] at h
        refine ih n (Nat.lt_succ_self n) b t t1 o1 hr hI ρ s (inBlk id Q) hR fun ρ' s' hg hs => ?_
        cases o1 with
        | exit i =>
          simp only [blkOut] at h
          simp only [IEx.ren, inBlk]
          split at h
          · rename_i e
            simp only [Option.some.injEq, Prod.mk.injEq] at h; obtain ⟨rfl, rfl⟩ := h
            rw [if_pos e]; exact hQ ρ' s' hg hs
          · rename_i e
            simp only [Option.some.injEq, Prod.mk.injEq] at h; obtain ⟨rfl, rfl⟩ := h
            rw [if_neg e]; exact hQ ρ' s' hg hs
        | _ => simp only [blkOut, Option.some.injEq, Prod.mk.injEq] at h; obtain ⟨rfl, rfl⟩ := h; exact hQ ρ' s' hg hs
    | scope b =>
      simp only [runC] at h
      cases hr : runC cI n b t with
      | none => rw [hr] at h; simp [scpOut] at h
      | some p =>
        obtain ⟨o1, t1⟩ := p
        rw [hr] at h
        refine ih n (Nat.lt_succ_self n) b t t1 o1 hr hI ρ s (noGoA Q) hR fun ρ' s' hg hs => ?_
        cases o1 with
        | goto i => simp [scpOut] at h
        | _ => simp only [scpOut, Option.some.injEq, Prod.mk.injEq] at h; obtain ⟨rfl, rfl⟩ := h; exact hQ ρ' s' hg hs
    | loop b =>
      show AC O P ks (.loop b) Q s
      refine AC.loop (fun m s => m ≤ n + 1 ∧ ∃ t1 ρ1, IOk t1 ∧ RSt ρ1 t1 s ∧ Grown ρ t.hp.length ρ1 ∧ t.hp.length ≤ t1.hp.length ∧ runC cI m (.loop b) t1 = some (out, t')) (n + 1) ⟨Nat.le_refl _, t, ρ, hI, hR, Grown.refl _ _, Nat.le_refl _, h⟩ ?_
      intro m s1 ⟨hmn, t1, ρ1, hI1, hR1, hg1, hl1, hrun⟩
      cases m with
      | zero => simp [runC] at hrun
      | succ m =>
        simp only [runC] at hrun
        cases hr : runC cI m b t1 with
        | none => rw [hr] at hrun; simp at hrun
        | some p =>
          obtain ⟨o2, t2⟩ := p
          rw [hr] at hrun
          obtain ⟨b1, b2, b3⟩ := runC_bnd hcI m b t1 t2 o2 hr hI1
          refine AC.go hm (ih m (by omega) b t1 t2 o2 hr hI1 ρ1 s1 _ hR1 fun ρ2 s2 hg2 hs2 => ?_)
          have hg12 : Grown ρ t.hp.length ρ2 := hg1.trans hl1 hg2
          cases o2 with
          | normal =>
            simp only at hrun
            exact ⟨m, Nat.lt_succ_self m, by omega, t2, ρ2, b1, hs2, hg12, Nat.le_trans hl1 b2, hrun⟩
          | _ => simp only [Option.some.injEq, Prod.mk.injEq] at hrun; obtain ⟨rfl, rfl⟩ := hrun; exact hQ ρ2 s2 hg12 hs2
    | seq a b =>
      simp only [runC] at h
      cases hr : runC cI n a t with
      | none => rw [hr] at h; simp at h
      | some p =>
        obtain ⟨o1, t1⟩ := p
        rw [hr] at h
        obtain ⟨b1, b2, b3⟩ := runC_bnd hcI n a t t1 o1 hr hI
        refine ih n (Nat.lt_succ_self n) a t t1 o1 hr hI ρ s (thenP O P ks b Q) hR fun ρ' s' hg hs => ?_
        cases o1 with
        | normal =>
          simp only at h
          exact AC.go hm (ih n (Nat.lt_succ_self n) b t1 t' out h b1 ρ' s' Q hs fun ρ2 s2 hg2 hs2 => hQ ρ2 s2 (hg.trans b2 hg2) hs2)
        | _ => simp only [Option.some.injEq, Prod.mk.injEq] at h; obtain ⟨rfl, rfl⟩ := h; exact hQ ρ' s' hg hs
    | cond o dr a b =>
      simp only [runC] at h
      obtain ⟨d1, d2⟩ := dropI_iok hI dr o
      have d3 := dropI_ok hR dr o
      have hev : ∀ {x : Bool}, ev t.tm o = .bool x → ev s.tm o = .bool x := by
        intro x hx
        rw [hR.tm]
        cases o with
        | t i => rw [ev_t] at hx ⊢; rw [renL_getD, hx]; rfl
        | c v => rw [ev_c] at hx ⊢; exact hx
        | f f => cases hx
      unfold condI at h
      split at h
      · rename_i hb
        show condA (ev s.tm o) _ _
        rw [hev hb]
        exact ⟨fun _ => ih n (Nat.lt_succ_self n) a _ t' out h d1 ρ _ Q d3 (by rw [d2]; exact hQ), fun e => (by cases e)⟩
      · rename_i hb
        show condA (ev s.tm o) _ _
        rw [hev hb]
        exact ⟨fun e => (by cases e), fun _ => ih n (Nat.lt_succ_self n) b _ t' out h d1 ρ _ Q d3 (by rw [d2]; exact hQ)⟩
      · cases h
    | reg as d =>
      simp only [runC] at h
      cases hr : runOps cI (forgetT t.tm as) as t with
      | none => rw [hr] at h; simp [regOut] at h
      | some p =>
        obtain ⟨o1, t1⟩ := p
        rw [hr] at h
        show plan O P (killP d Q) (forget s as) as s
        refine runOps_ok hcI as t t1 o1 ρ s hr hI hR (spI := forgetT t.tm as) (by rw [forget_eq, hR.tm]; exact forgetT_ren ρ as t.tm) (forgetT_bnd as _ hI.tm) fun ρ' s' hg hs => ?_
        cases o1 with
        | none =>
          simp only [regOut, Option.some.injEq, Prod.mk.injEq] at h; obtain ⟨rfl, rfl⟩ := h
          exact hQ ρ' _ hg ⟨by show killTm d s'.tm = _; rw [hs.tm]; exact killTm_ren ρ' d t1.tm, hs.hp, hs.ds⟩
        | some v =>
          simp only [regOut, Option.some.injEq, Prod.mk.injEq] at h; obtain ⟨rfl, rfl⟩ := h
          exact hQ ρ' s' hg hs
    | dreg as d =>
      simp only [runC] at h
      cases hr : runOpsD cI (forgetTD t.tm as) as t with
      | none => rw [hr] at h; simp [regOut] at h
      | some p =>
        obtain ⟨o1, t1⟩ := p
        rw [hr] at h
        show planD O P (killP d Q) (forgetD s as) as s
        refine runOpsD_ok hcI as t t1 o1 ρ s hr hI hR (spI := forgetTD t.tm as) (by rw [forgetD_eq, hR.tm]; exact forgetTD_ren ρ as t.tm) (forgetTD_bnd as _ hI.tm) fun ρ' s' hg hs => ?_
        cases o1 with
        | none =>
          simp only [regOut, Option.some.injEq, Prod.mk.injEq] at h; obtain ⟨rfl, rfl⟩ := h
          exact hQ ρ' _ hg ⟨by show killTm d s'.tm = _; rw [hs.tm]; exact killTm_ren ρ' d t1.tm, hs.hp, hs.ds⟩
        | some v =>
          simp only [regOut, Option.some.injEq, Prod.mk.injEq] at h; obtain ⟨rfl, rfl⟩ := h
          exact hQ ρ' s' hg hs
end
end Go.Eng

/- Functions that recover. -/
set_option linter.unusedVariables false
set_option linter.unusedSimpArgs false
namespace Go.Eng
open Go.RowKit (Below)

/-- The slot into which a body's first operation recovers; what stands behind that region. -/
def rcvOf (c : Code) : Option (Nat × Code) :=
  match c with
  | .seq (.region _ ops false) rest => match ops.toList with
    | [o] => match o.op, o.dst, o.guard with
      | .call k, some t, none => match k.callee with
        | .builtin .recover => some (t, rest)
        | _ => none
      | _, _, _ => none
    | _ => none
  | _ => none

theorem rcvOf_inv {c : Code} {t : Nat} {rest : Code} (h : rcvOf c = some (t, rest)) : ∃ id o k, c = .seq (.region id #[o] false) rest ∧ o.op = .call k ∧ k.callee = .builtin .recover ∧ o.dst = some t ∧ o.guard = none := by
  unfold rcvOf at h
  split at h
  · rename_i id ops rest'
    split at h
    · rename_i o ho
      split at h
      · rename_i k t' h1 h2 h3
        split at h
        · rename_i hk
          cases h
          refine ⟨id, o, k, ?_, h1, hk, h2, h3⟩
          have : ops = #[o] := by apply Array.ext'; simpa using ho
          rw [this]
        · cases h
      · cases h
    · cases h
  · cases h

def bodyR (R : Option AVal → Hp → Prop) : Post
  | .normal, s => s.ds = [] ∧ R none s.hp
  | .ret, s => s.ds = [] ∧ R none s.hp
  | _, _ => False

section
variable {O : Cfg} {P : Program} {ks : Tab}

theorem wpOpsS_recover {o : Oper} {k : Call} {t : Nat} (h1 : o.op = .call k) (h2 : k.callee = .builtin .recover) (h3 : o.dst = some t) (h4 : o.guard = none) {Q : Exit → Act → List Frame → World → Prop} {a : Act} {cs : List Frame} {w : World}
    (h : match recoverD cs with
      | some (v, cs') => Q .normal (a.put (some t) v) cs' w
      | none => Q .normal (a.put (some t) .nilIface) cs w) : wpOpsS P #[o] Q (List.range (#[o] : Array Oper).size) a cs w := by
  show wpOpsS P #[o] Q [0] a cs w
  obtain ⟨dst, op, ty, pos, after, guard⟩ := o
  simp only at h1 h3 h4
  subst h1 h3 h4
  obtain ⟨callee, args, argTypes⟩ := k
  simp only at h2
  subst h2
  have hw : Region.wanted ⟨some t, .call ⟨.builtin .recover, args, argTypes⟩, ty, pos, after, none⟩ (yielded #[⟨some t, .call ⟨.builtin .recover, args, argTypes⟩, ty, pos, after, none⟩] a.tmps) = true := rfl
  have hr : (execOp a.eval ⟨some t, .call ⟨.builtin .recover, args, argTypes⟩, ty, pos, after, none⟩).run P w = .ok .recover w := by
    simp [execOp, go_sem]
  simp only [wpOpsS, List.getElem?_toArray, List.getElem?_cons_zero, hw, if_true, hr]
  split at h
  · rename_i v cs' e; rw [e]; exact h
  · rename_i e; rw [e]; exact h

theorem adcalls_rcv (hm : P.follows .mixedOrders = true) {f : FuncId} {fn : Func} {c rest : Code} {t n : Nat} {ac : ACode} {args : List AVal} {p : Option AVal} {H : Hp} {R : Option AVal → Hp → Prop}
    (hf : P.funcs[f]? = some fn) (hb : fn.body = some c) (hn : (fn.name == "runtime.NumGoroutine") = false) (hc : rcvOf c = some (t, rest)) (hcomp : compCode P ks rest = some ac) (hres : fn.results = #[]) (hnt : fn.ntmps = n)
    (h : wpC O P ks ac (bodyR R) ⟨setTm (args ++ List.replicate (n - args.length) .unk) (some t) (p.getD .nilif), H, []⟩) : ADCalls O P f args p H R := by
  refine ⟨fun vs w => ?_, fun base w0 G w vs u hL hw hvs hmode => ?_⟩
  · simp only [callFunc, Sem.run_bind, run_program, Result.andThen_ok, hf, hn, hb]
    rfl
  · refine callsD_of_wpS hf hb fun c₀ cs hu => ?_
    obtain ⟨id, o, k, rfl, h1, h2, h3, h4⟩ := rcvOf_inv hc
    refine wpS_seq (wpS_region (wpOpsS_recover h1 h2 h3 h4 ?_))
    have ht0 : Reps G w (args ++ List.replicate (n - args.length) .unk) (vs.toArray ++ Array.replicate (fn.ntmps - vs.toArray.size) undef).toList := by
      have e : (vs.toArray ++ Array.replicate (fn.ntmps - vs.toArray.size) undef).toList = vs ++ List.replicate (n - args.length) undef := by
        simp [hnt, hvs.1]
      rw [e]
      refine hvs.append ⟨by simp, fun i a v ha hv => ?_⟩
      rw [List.getElem?_replicate] at ha
      split at ha
      · cases ha; exact .unk v
      · cases ha
    have main : ∀ (x : Value) (u' : FrameMode), Rep G w (p.getD .nilif) x → settle u' = .returning →
        rest.wpS P (bodyPostS P fn c₀ cs (fun e u' w' => match e with
          | .outgrown => O.O
          | .panicked _ => False
          | .returned _ => ∃ p' H' G', Mode G' w' p' (settle u') ∧ R p' H' ∧ Wr base w0 H' G' w' ∧ GExt G w G' w' ∧ Fr H G w H' G' w'))
          (Act.put ⟨vs.toArray ++ Array.replicate (fn.ntmps - vs.toArray.size) undef, []⟩ (some t) x) ({ c₀ with mode := u' } :: cs) w := by
      intro x u' hx hset
      refine wpS_of_wp (Code.wp_mono ?_ (AC.of hm rest hcomp h base w0 G w _ hL hw ?_ trivial))
      · intro e a' w' hmt
        cases e with
        | normal =>
          obtain ⟨s', G', ⟨hd, hR⟩, hg⟩ := hmt
          have hdd := hg.ds
          rw [hd] at hdd
          have : a'.defers = [] := by
            cases hx : a'.defers with
            | nil => rfl
            | cons d ds => rw [hx] at hdd; exact hdd.elim
          refine ⟨this, u', rfl, .tuple #[], ?_, none, s'.hp, G', hset, hR, hg.wr, hg.ext, hg.fr⟩
          simp [results, hres, go_sem]
        | ret =>
          obtain ⟨s', G', ⟨hd, hR⟩, hg⟩ := hmt
          have hdd := hg.ds
          rw [hd] at hdd
          have : a'.defers = [] := by
            cases hx : a'.defers with
            | nil => rfl
            | cons d ds => rw [hx] at hdd; exact hdd.elim
          refine ⟨this, u', rfl, .tuple #[], ?_, none, s'.hp, G', hset, hR, hg.wr, hg.ext, hg.fr⟩
          simp [results, hres, go_sem]
        | outgrown => exact ⟨u', hmt⟩
        | panic ch => obtain ⟨v, u, s', G', _, _, hq, _⟩ := hmt; exact hq.elim
        | exit i => obtain ⟨s', G', hq, _⟩ := hmt; exact hq.elim
        | goto l => obtain ⟨s', G', hq, _⟩ := hmt; exact hq.elim
      · show Reps G w (setTm _ (some t) _) _
        rw [setTm_some]
        simp only [Act.put]
        rw [Array.toList_setIfInBounds]
        exact ht0.set hx t
    cases p with
    | none =>
      have hmode' : u = .returning := hmode
      subst hmode'
      have : recoverD (c₀ :: cs) = none := by simp [recoverD, hu]
      rw [this]
      show Code.wpS _ _ _ _ _ _
      have e : (c₀ :: cs : List Frame) = { c₀ with mode := .returning } :: cs := by rw [← hu]
      rw [e]
      exact main .nilIface .returning .nilif rfl
    | some v =>
      obtain ⟨x, rfl, hx⟩ := hmode
      have : recoverD (c₀ :: cs) = some (x, { c₀ with mode := .panicking [{ v := x, recovered := true }] } :: cs) := by simp [recoverD, hu]
      rw [this]
      exact main x _ hx rfl

/-- A function that recovers, compiled: its slot, the code behind it, how many slots. -/
structure RFn where
  t : Nat
  code : ACode
  n : Nat

def compRcv (P : Program) (ks : Tab) (f : FuncId) : Option RFn :=
  match P.funcs[f]? with
  | some fn => if (fn.name == "runtime.NumGoroutine") = true then none else match fn.body with
    | some c => match rcvOf c with
      | some (t, rest) => match compCode P ks rest with
        | some ac => if fn.results.isEmpty = true then some ⟨t, ac, fn.ntmps⟩ else none
        | none => none
      | none => none
    | none => none
  | none => none

theorem adcalls_fn (hm : P.follows .mixedOrders = true) {f : FuncId} {F : RFn} (hc : compRcv P ks f = some F) {args : List AVal} {p : Option AVal} {H : Hp} {R : Option AVal → Hp → Prop}
    (h : wpC O P ks F.code (bodyR R) ⟨setTm (args ++ List.replicate (F.n - args.length) .unk) (some F.t) (p.getD .nilif), H, []⟩) : ADCalls O P f args p H R := by
  unfold compRcv at hc
  split at hc
  · rename_i fn hf
    split at hc
    · cases hc
    · rename_i hn
      split at hc
      · rename_i c hb
        split at hc
        · rename_i t rest hr
          split at hc
          · rename_i ac hac
            split at hc
            · rename_i he
              cases hc
              exact adcalls_rcv hm hf hb (by simpa using hn) hr hac (by simpa using he) rfl h
            · cases hc
          · cases hc
        · cases hc
      · cases hc
  · cases hc

/-- A function that defers. -/
theorem acallsD_fn {f : FuncId} {F : AFn} (hc : compFn P ks f = some F) {args : List AVal} {H : Hp} {Q : ARet → Hp → Prop}
    (h : AC O P ks F.code (bodyD O P F.res Q) ⟨args ++ List.replicate (F.n - args.length) .unk, H, []⟩) : ACalls O P f args H Q := by
  unfold compFn at hc
  split at hc
  · rename_i fn hf
    split at hc
    · cases hc
    · rename_i hn
      split at hc
      · rename_i c hb
        split at hc
        · rename_i ac rs h1 h2
          cases hc
          exact acallsD_of_wp hf hb (by simpa using hn) h2 rfl (AC.leT (TmLe.unks args _ _) h c h1)
        · cases hc
      · cases hc
  · cases hc
end
end Go.Eng

/- The interpreter: functions. -/
set_option linter.unusedVariables false
set_option linter.unusedSimpArgs false
namespace Go.Eng

abbrev DCallI := FuncId → List AVal → Option AVal → List Ob → Option (List Ob)

def leavesI (dI : DCallI) (ars : List ARes) (tm : List AVal) : List ADef → Option AVal → List Ob → Option (ARet × List Ob)
  | [], none, hp => match resA ⟨tm, hpF hp, []⟩ ars with
    | some vs => if (one1 vs).bnd hp.length = true then some (.ret (one1 vs), hp) else none
    | none => none
  | [], some v, hp => some (.panic v, hp)
  | d :: ds, p, hp => match d.fn with
    | .func g => match dI g (d.args ++ d.caps) p hp with
      | some hp' => leavesI dI ars tm ds none hp'
      | none => none
    | _ => none

def fnI (cI : CallI) (dI : DCallI) (fuel : Nat) (F : AFn) (args : List AVal) (hp : List Ob) : Option (ARet × List Ob) :=
  match runC cI fuel F.code ⟨args ++ List.replicate (F.n - args.length) .unk, hp, []⟩ with
  | some (.normal, t) => leavesI dI F.res t.tm t.ds none t.hp
  | some (.ret, t) => leavesI dI F.res t.tm t.ds none t.hp
  | some (.panic v, t) => leavesI dI F.res t.tm t.ds (some v) t.hp
  | _ => none

def rcvI (cI : CallI) (fuel : Nat) (F : RFn) (args : List AVal) (p : Option AVal) (hp : List Ob) : Option (List Ob) :=
  match runC cI fuel F.code ⟨setTm (args ++ List.replicate (F.n - args.length) .unk) (some F.t) (p.getD .nilif), hp, []⟩ with
  | some (.normal, t) => if t.ds.isEmpty = true then some t.hp else none
  | some (.ret, t) => if t.ds.isEmpty = true then some t.hp else none
  | _ => none

def lookF {α : Type} : List (FuncId × α) → FuncId → Option α
  | [], _ => none
  | (g, x) :: rest, f => bif Nat.beq g f then some x else lookF rest f

structure Tabs where
  fn : List (FuncId × AFn)
  rc : List (FuncId × RFn)

section
variable {O : Cfg} {P : Program} {cI : CallI} {dI : DCallI} {ρ : Nat → Nat}

def DCallOk (O : Cfg) (P : Program) (dI : DCallI) : Prop :=
  ∀ g args p hp hp', dI g args p hp = some hp' → HB hp → bndL hp.length args = true → (∀ v, p = some v → v.bnd hp.length = true) → HB hp' ∧ hp.length ≤ hp'.length ∧
    ∀ ρ H, HpOk ρ hp H → ADCalls O P g (renL ρ args) (p.map (AVal.ren ρ)) H fun q H' => q = none ∧ ∃ ρ', Grown ρ hp.length ρ' ∧ HpOk ρ' hp' H'

theorem resA_ren {H H' : Hp} (hH : HRen ρ H H') {tm : List AVal} {ds ds' : List ADef} : ∀ {ars : List ARes} {vs : List AVal}, resA ⟨tm, H, ds⟩ ars = some vs → resA ⟨renL ρ tm, H', ds'⟩ ars = some (renL ρ vs)
  | [], vs, h => by simp only [resA, Option.some.injEq] at h; subst h; rfl
  | .tmp t :: rest, vs, h => by
    simp only [resA] at h ⊢
    cases hr : resA ⟨tm, H, ds⟩ rest with
    | none => rw [hr] at h; cases h
    | some us =>
      rw [hr] at h
      simp only [Option.map_some, Option.some.injEq] at h
      subst h
      rw [resA_ren hH hr, renL_getD]
      rfl
  | .cell k t :: rest, vs, h => by
    simp only [resA] at h ⊢
    cases hl : loadA H k (tm.getD t .unk) with
    | none => rw [hl] at h; cases h
    | some v =>
      cases hr : resA ⟨tm, H, ds⟩ rest with
      | none => rw [hl, hr] at h; cases h
      | some us =>
        rw [hl, hr] at h
        simp only [Option.some.injEq] at h
        subst h
        rw [resA_ren hH hr, renL_getD, loadA_ren hH hl]
        rfl
theorem one1_ren (vs : List AVal) : one1 (renL ρ vs) = (one1 vs).ren ρ := by
  cases vs with
  | nil => rfl
  | cons v vs => cases vs <;> rfl

theorem leavesI_ok (hdI : DCallOk O P dI) {ars : List ARes} {tm : List AVal} : ∀ (ds : List ADef) (p : Option AVal) (hp hp' : List Ob) (r : ARet), leavesI dI ars tm ds p hp = some (r, hp') → HB hp → bndL hp.length tm = true → bndDs hp.length ds = true → (∀ v, p = some v → v.bnd hp.length = true) →
    (HB hp' ∧ hp.length ≤ hp'.length ∧ r.bnd hp'.length = true) ∧ ∀ (ρ : Nat → Nat) (H : Hp) (Q : ARet → Hp → Prop), HpOk ρ hp H → (∀ ρ' H', Grown ρ hp.length ρ' → HpOk ρ' hp' H' → Q (r.ren ρ') H') →
      leavesA O P ars (renL ρ tm) Q (renDs ρ ds) (p.map (AVal.ren ρ)) H
  | [], none, hp, hp', r, h, hb, ht, hd, hp0 => by
    simp only [leavesI] at h
    split at h
    · rename_i vs hr
      split at h
      · rename_i hbv
        simp only [Option.some.injEq, Prod.mk.injEq] at h
        obtain ⟨rfl, rfl⟩ := h
        refine ⟨⟨hb, Nat.le_refl _, hbv⟩, fun ρ H Q hH hQ => ?_⟩
        show leavesA O P ars (renL ρ tm) Q [] none H
        simp only [leavesA]
        rw [resA_ren hH.hren hr]
        simp only
        rw [one1_ren]
        exact hQ ρ H (Grown.refl _ _) hH
      · cases h
    · cases h
  | [], some v, hp, hp', r, h, hb, ht, hd, hp0 => by
    simp only [leavesI, Option.some.injEq, Prod.mk.injEq] at h
    obtain ⟨rfl, rfl⟩ := h
    exact ⟨⟨hb, Nat.le_refl _, hp0 v rfl⟩, fun ρ H Q hH hQ => hQ ρ H (Grown.refl _ _) hH⟩
  | d :: ds, p, hp, hp', r, h, hb, ht, hd, hp0 => by
    simp only [leavesI] at h
    split at h
    · rename_i g hg
      split at h
      · rename_i hp1 h1
        have hdd : (bndL hp.length d.caps = true ∧ bndL hp.length d.args = true) ∧ bndDs hp.length ds = true := by
          simpa only [bndDs, List.all_cons, Bool.and_eq_true] using hd
        obtain ⟨k1, k2, k3⟩ := hdI g _ p hp hp1 h1 hb (bndL_app hdd.1.2 hdd.1.1) hp0
        obtain ⟨⟨m1, m2, m3⟩, m4⟩ := leavesI_ok hdI ds none hp1 hp' r h k1 (bndL_le k2 tm ht) (bndDs_le k2 hdd.2) (fun v e => by cases e)
        refine ⟨⟨m1, Nat.le_trans k2 m2, m3⟩, fun ρ H Q hH hQ => ?_⟩
        show leavesA O P ars (renL ρ tm) Q (⟨d.fn, renL ρ d.caps, renL ρ d.args⟩ :: renDs ρ ds) (p.map (AVal.ren ρ)) H
        simp only [leavesA, hg]
        rw [← renL_app]
        refine (k3 ρ H hH).mono fun q H' ⟨hq, ρ', hgr, hH'⟩ => ?_
        subst hq
        rw [renL_congr hgr tm ht, renDs_congr hgr hdd.2]
        exact m4 ρ' H' Q hH' fun ρ'' H'' hg'' hH'' => hQ ρ'' H'' (hgr.trans k2 hg'') hH''
      · cases h
    · cases h

theorem replicate_bnd (k n : Nat) : bndL k (List.replicate n .unk) = true := by
  rw [bndL_iff]
  intro v hv
  rw [List.mem_replicate] at hv
  rw [hv.2]; rfl
theorem renL_replicate (ρ : Nat → Nat) (n : Nat) : renL ρ (List.replicate n .unk) = List.replicate n .unk := by
  rw [renL_map, List.map_replicate]; rfl

theorem fnI_ok (hm : P.follows .mixedOrders = true) (hcI : CallOkI O P cI) (hdI : DCallOk O P dI) {ks : Tab} {g : FuncId} {F : AFn} (hF : compFn P ks g = some F) {fuel : Nat} {args : List AVal} {hp hp' : List Ob} {r : ARet} (h : fnI cI dI fuel F args hp = some (r, hp'))
    (hb : HB hp) (ha : bndL hp.length args = true) : HB hp' ∧ hp.length ≤ hp'.length ∧ r.bnd hp'.length = true ∧
    ∀ ρ H, HpOk ρ hp H → ACalls O P g (renL ρ args) H fun r' H' => ∃ ρ', Grown ρ hp.length ρ' ∧ HpOk ρ' hp' H' ∧ r' = r.ren ρ' := by
  unfold fnI at h
  have hI : IOk ⟨args ++ List.replicate (F.n - args.length) .unk, hp, []⟩ := ⟨hb, bndL_app ha (replicate_bnd _ _), rfl⟩
  have fin : ∀ (out : IEx) (t : IS) (p : Option AVal), runC cI fuel F.code ⟨args ++ List.replicate (F.n - args.length) .unk, hp, []⟩ = some (out, t) → leavesI dI F.res t.tm t.ds p t.hp = some (r, hp') →
      (∀ v, p = some v → out = .panic v) → (∀ (ρ : Nat → Nat) Q (s : S), leavesA O P F.res s.tm Q s.ds (p.map (AVal.ren ρ)) s.hp → bodyD O P F.res Q (out.ren ρ) s) →
      HB hp' ∧ hp.length ≤ hp'.length ∧ r.bnd hp'.length = true ∧
      ∀ ρ H, HpOk ρ hp H → ACalls O P g (renL ρ args) H fun r' H' => ∃ ρ', Grown ρ hp.length ρ' ∧ HpOk ρ' hp' H' ∧ r' = r.ren ρ' := by
    intro out t p hr hl hpo hbody
    obtain ⟨b1, b2, b3⟩ := runC_bnd hcI fuel F.code _ t out hr hI
    obtain ⟨⟨m1, m2, m3⟩, m4⟩ := leavesI_ok hdI t.ds p t.hp hp' r hl b1.hp b1.tm b1.ds (fun v e => by have := hpo v e; subst this; exact b3)
    refine ⟨m1, Nat.le_trans b2 m2, m3, fun ρ H hH => ?_⟩
    refine acallsD_fn hF (AC.go hm ?_)
    have e : renL ρ args ++ List.replicate (F.n - (renL ρ args).length) .unk = renL ρ (args ++ List.replicate (F.n - args.length) .unk) := by
      rw [renL_app, renL_replicate, renL_len]
    rw [e]
    refine runC_ok hm hcI fuel F.code _ t out hr hI ρ _ _ ⟨rfl, hH, rfl⟩ fun ρ' s' hg hs => ?_
    refine hbody ρ' _ s' ?_
    rw [hs.tm, hs.ds]
    exact m4 ρ' s'.hp _ hs.hp fun ρ'' H'' hg'' hH'' => ⟨ρ'', Grown.trans hg b2 hg'', hH'', rfl⟩
  split at h
  · rename_i t hr
    exact fin _ t none hr h (fun v e => by cases e) (fun ρ Q s hl => hl)
  · rename_i t hr
    exact fin _ t none hr h (fun v e => by cases e) (fun ρ Q s hl => hl)
  · rename_i v t hr
    exact fin _ t (some v) hr h (fun v' e => by cases e; rfl) (fun ρ Q s hl => hl)
  · cases h

theorem rcvI_ok (hm : P.follows .mixedOrders = true) (hcI : CallOkI O P cI) {ks : Tab} {g : FuncId} {F : RFn} (hF : compRcv P ks g = some F) {fuel : Nat} {args : List AVal} {p : Option AVal} {hp hp' : List Ob} (h : rcvI cI fuel F args p hp = some hp')
    (hb : HB hp) (ha : bndL hp.length args = true) (hpb : ∀ v, p = some v → v.bnd hp.length = true) : HB hp' ∧ hp.length ≤ hp'.length ∧
    ∀ ρ H, HpOk ρ hp H → ADCalls O P g (renL ρ args) (p.map (AVal.ren ρ)) H fun q H' => q = none ∧ ∃ ρ', Grown ρ hp.length ρ' ∧ HpOk ρ' hp' H' := by
  unfold rcvI at h
  have hpv : (p.getD .nilif).bnd hp.length = true := by
    cases p with
    | none => rfl
    | some v => exact hpb v rfl
  have hI : IOk ⟨setTm (args ++ List.replicate (F.n - args.length) .unk) (some F.t) (p.getD .nilif), hp, []⟩ := ⟨hb, (setTm_bnd (d := some F.t) (bndL_app ha (replicate_bnd hp.length (F.n - args.length))) hpv : bndL hp.length (setTm (args ++ List.replicate (F.n - args.length) .unk) (some F.t) (p.getD .nilif)) = true), rfl⟩
  have fin : ∀ (out : IEx) (t : IS), runC cI fuel F.code ⟨setTm (args ++ List.replicate (F.n - args.length) .unk) (some F.t) (p.getD .nilif), hp, []⟩ = some (out, t) → t.ds.isEmpty = true → t.hp = hp' →
      (∀ (ρ : Nat → Nat) R (s : S), s.ds = [] ∧ R none s.hp → bodyR R (out.ren ρ) s) →
      HB hp' ∧ hp.length ≤ hp'.length ∧
      ∀ ρ H, HpOk ρ hp H → ADCalls O P g (renL ρ args) (p.map (AVal.ren ρ)) H fun q H' => q = none ∧ ∃ ρ', Grown ρ hp.length ρ' ∧ HpOk ρ' hp' H' := by
    intro out t hr hd hh hbody
    subst hh
    obtain ⟨b1, b2, b3⟩ := runC_bnd hcI fuel F.code _ t out hr hI
    refine ⟨b1.hp, b2, fun ρ H hH => ?_⟩
    refine adcalls_fn hm hF ?_
    have e : setTm (renL ρ args ++ List.replicate (F.n - (renL ρ args).length) .unk) (some F.t) ((p.map (AVal.ren ρ)).getD .nilif) = renL ρ (setTm (args ++ List.replicate (F.n - args.length) .unk) (some F.t) (p.getD .nilif)) := by
      rw [← setTm_ren, renL_app, renL_replicate, renL_len]
      cases p <;> rfl
    rw [e]
    refine runC_ok hm hcI fuel F.code _ t out hr hI ρ _ _ ⟨rfl, hH, rfl⟩ fun ρ' s' hg hs => ?_
    refine hbody ρ' _ s' ⟨?_, rfl, ρ', hg, hs.hp⟩
    rw [hs.ds]
    cases hds : t.ds with
    | nil => rfl
    | cons d ds => rw [hds] at hd; cases hd
  split at h
  · rename_i t hr
    split at h
    · rename_i hd; cases h; exact fin _ t hr hd rfl (fun ρ R s hl => hl)
    · cases h
  · rename_i t hr
    split at h
    · rename_i hd; cases h; exact fin _ t hr hd rfl (fun ρ R s hl => hl)
    · cases h
  · cases h

inductive FnsOk (P : Program) : List (FuncId × AFn) → Prop
  | nil : FnsOk P []
  | cons {ks : Tab} {g : FuncId} {F : AFn} {rest : List (FuncId × AFn)} (h : compFn P ks g = some F) (t : FnsOk P rest) : FnsOk P ((g, F) :: rest)
inductive RcsOk (P : Program) : List (FuncId × RFn) → Prop
  | nil : RcsOk P []
  | cons {ks : Tab} {g : FuncId} {F : RFn} {rest : List (FuncId × RFn)} (h : compRcv P ks g = some F) (t : RcsOk P rest) : RcsOk P ((g, F) :: rest)

theorem FnsOk.look {l : List (FuncId × AFn)} (h : FnsOk P l) {g : FuncId} {F : AFn} (hl : lookF l g = some F) : ∃ ks, compFn P ks g = some F := by
  induction h with
  | nil => cases hl
  | @cons ks g' F' rest hc _ ih =>
    unfold lookF at hl
    cases hb : Nat.beq g' g with
    | true =>
      rw [hb] at hl
      cases hl
      have := Nat.eq_of_beq_eq_true hb
      subst this
      exact ⟨ks, hc⟩
    | false => rw [hb] at hl; exact ih hl
theorem RcsOk.look {l : List (FuncId × RFn)} (h : RcsOk P l) {g : FuncId} {F : RFn} (hl : lookF l g = some F) : ∃ ks, compRcv P ks g = some F := by
  induction h with
  | nil => cases hl
  | @cons ks g' F' rest hc _ ih =>
    unfold lookF at hl
    cases hb : Nat.beq g' g with
    | true =>
      rw [hb] at hl
      cases hl
      have := Nat.eq_of_beq_eq_true hb
      subst this
      exact ⟨ks, hc⟩
    | false => rw [hb] at hl; exact ih hl

end
end Go.Eng

/- The interpreter: functions compiled as they are called. -/
set_option linter.unusedVariables false
set_option linter.unusedSimpArgs false
namespace Go.Eng

structure KTabs where
  fn : List (FuncId × Tab)
  rc : List (FuncId × Tab)

def ansI : Option (ARet × List Ob) → Option Bool
  | some (.ret (.bool b), _) => some b
  | _ => none

section
variable {O : Cfg} {P : Program}

/-- Functions of one string that answer a closed value, taken for granted. -/
def orcS (tab : List (FuncId × (List UInt8 → Option AVal))) : CallI := fun g args hp =>
  match lookF tab g, args with
  | some F, [.str s] => match F s with
    | some v => if v.bnd 0 = true then some (.ret v, hp) else none
    | none => none
  | _, _ => none
theorem orcS_ok {tab : List (FuncId × (List UInt8 → Option AVal))} (h : ∀ g F, lookF tab g = some F → ∀ s v, F s = some v → ∀ H, ACalls O P g [.str s] H (fun r H' => r = .ret v ∧ H' = H)) : CallOkI O P (orcS tab) := by
  intro g args hp r hp' hr hb ha
  unfold orcS at hr
  split at hr
  · rename_i F s hF
    split at hr
    · rename_i v hv
      split at hr
      · rename_i hbv
        simp only [Option.some.injEq, Prod.mk.injEq] at hr
        obtain ⟨rfl, rfl⟩ := hr
        refine ⟨hb, Nat.le_refl _, AVal.bnd_le (Nat.zero_le _) v hbv, fun ρ H hH => ?_⟩
        refine (h g F hF s v hv H).mono fun r H' ⟨e1, e2⟩ => ⟨ρ, Grown.refl _ _, ?_, ?_⟩
        · rw [e2]; exact hH
        · rw [e1]; show ARet.ret v = .ret (v.ren ρ); rw [ren_const ρ hbv]
      · cases hr
    · cases hr
  · cases hr
end
end Go.Eng

/- The interpreter, quicker: what an operation answers stays within the numbers. -/
set_option linter.unusedVariables false
set_option linter.unusedSimpArgs false
namespace Go.Eng

def shf (k : Nat) : Nat → Nat := fun i => if i < k then i else i + 1

mutual
theorem AVal.shf_bnd {k : Nat} : ∀ v : AVal, v.ren (shf k) = v → v.bnd k = true
  | .bool b, _ => rfl
  | .int _ _, _ => rfl
  | .str _, _ => rfl
  | .agg cs, h => by rw [AVal.ren, AVal.agg.injEq] at h; rw [AVal.bnd]; exact shfL_bnd cs h
  | .sl rows t, h => by
    rw [AVal.ren, AVal.sl.injEq] at h
    rw [AVal.bnd, shfR_bnd rows h.1, Bool.true_and]
    cases t with
    | own i s =>
      have h2 := h.2
      simp only [Tok.ren, Tok.own.injEq, shf] at h2
      simp only [Tok.bnd, Nat.blt_eq]
      split at h2
      · assumption
      · omega
    | _ => rfl
  | .slm i n s, h => by
    simp only [AVal.ren, AVal.slm.injEq, shf] at h
    simp only [AVal.bnd, Nat.blt_eq]
    split at h
    · assumption
    · omega
  | .ref i o, h => by
    simp only [AVal.ren, AVal.ref.injEq, shf] at h
    simp only [AVal.bnd, Nat.blt_eq]
    split at h
    · assumption
    · omega
  | .ip cs, h => by rw [AVal.ren, AVal.ip.injEq] at h; rw [AVal.bnd]; exact shfL_bnd cs h
  | .nilptr, _ => rfl
  | .map i, h => by
    simp only [AVal.ren, AVal.map.injEq, shf] at h
    simp only [AVal.bnd, Nat.blt_eq]
    split at h
    · assumption
    · omega
  | .nilmap, _ => rfl
  | .func f a b, h => by
    rw [AVal.ren, AVal.func.injEq] at h
    rw [AVal.bnd, shfL_bnd a h.2.1, shfL_bnd b h.2.2]; rfl
  | .nilfunc, _ => rfl
  | .iface t v, h => by rw [AVal.ren, AVal.iface.injEq] at h; rw [AVal.bnd]; exact AVal.shf_bnd v h.2
  | .nilif, _ => rfl
  | .tup cs, h => by rw [AVal.ren, AVal.tup.injEq] at h; rw [AVal.bnd]; exact shfL_bnd cs h
  | .unk, _ => rfl
theorem shfL_bnd {k : Nat} : ∀ l : List AVal, renL (shf k) l = l → bndL k l = true
  | [], _ => rfl
  | v :: vs, h => by
    rw [renL, List.cons.injEq] at h
    rw [bndL, AVal.shf_bnd v h.1, shfL_bnd vs h.2]; rfl
theorem shfR_bnd {k : Nat} : ∀ l : List (List AVal), renR (shf k) l = l → bndR k l = true
  | [], _ => rfl
  | v :: vs, h => by
    rw [renR, List.cons.injEq] at h
    rw [bndR, shfL_bnd v h.1, shfR_bnd vs h.2]; rfl
end

theorem shf_lt {k i : Nat} (h : i < k) : shf k i = i := by simp [shf, h]

theorem rop_bnd {op : AOp} {tm : List AVal} {hp : List Ob} {v : AVal} (hc : op.clo = true) (h : rop op tm (hpF hp) = some v) (hb : HB hp) (ht : bndL hp.length tm = true) : v.bnd hp.length = true := by
  have hlt : ∀ i o, hpF hp i = some o → i < hp.length ∧ o.bnd hp.length = true := fun i o hi => by
    obtain ⟨h1, _⟩ := gone0_some hi
    exact ⟨(List.getElem?_eq_some_iff.1 h1).1, hb o (List.mem_of_getElem? h1)⟩
  have r1 : HRen (shf hp.length) (hpF hp) (hpF hp) := fun i o hi => by
    obtain ⟨h1, h2⟩ := hlt i o hi
    have e : o.ren (shf hp.length) = o.ren (fun i => i) := Ob.ren_congr (fun i hi => shf_lt hi) h2
    have e2 : o.ren (fun i => i) = o := by
      cases o with
      | cells cs t => simp only [Ob.ren, renL_same]
      | map es => simp only [Ob.ren, AVal.ren_same]; congr 1; exact List.map_id' es
      | tok n sz o => rfl
      | gone => rfl
    rw [shf_lt h1, e, e2]; exact hi
  have e := rop_ren r1 hc h
  have e1 : renL (shf hp.length) tm = tm := (renL_congr (fun i hi => shf_lt hi) tm ht).trans (renL_same tm)
  rw [e1, h] at e
  exact AVal.shf_bnd v (Option.some.inj e).symm

theorem appI_vbnd {sz bytes : Nat} {e : TypeId} {x y v : AVal} {hp hp' : List Ob} (h : appI sz bytes e x y hp = some (v, hp')) (hx : x.bnd hp.length = true) (hy : y.bnd hp.length = true) : v.bnd hp'.length = true := by
  have hball : ∀ (k : Nat) (a b : List (List AVal)), bndR k a = true → bndR k b = true → bndR k (a ++ b) = true := by
    intro k a b ha hb
    induction a with
    | nil => exact hb
    | cons r rs ih =>
      rw [bndR, Bool.and_eq_true] at ha
      rw [List.cons_append, bndR, ha.1, ih ha.2]; rfl
  unfold appI at h
  split at h
  · split at h
    · split at h
      · split at h
        · cases h; simp [AVal.bnd, Nat.blt_eq]
        · cases h
      · cases h
    · cases h
  · split at h
    · cases h; exact hx
    · split at h
      · split at h
        · cases h; simp [AVal.bnd, Nat.blt_eq]
        · cases h
      simp only [AVal.bnd, Bool.and_eq_true] at hx hy
      split at h
      · split at h
        · cases h
          rw [AVal.bnd, bndR_le (by simp) _ (hball _ _ _ hx.1 hy.1)]; simp [Tok.bnd, Nat.blt_eq]
        · cases h
          rw [AVal.bnd, bndR_le (by simp) _ (hball _ _ _ hx.1 hy.1)]; simp [Tok.bnd, Nat.blt_eq]
        · split at h
          · split at h
            · cases h
              rw [List.length_set, AVal.bnd, hball _ _ _ hx.1 hy.1]
              simpa [Tok.bnd] using hx.2
            · cases h
          · cases h
        · cases h
      · cases h
  · cases h

theorem opI_vbnd {op : AOp} {tm : List AVal} {hp hp' : List Ob} {v : AVal} (hc : op.clo = true) (h : opI op tm hp = some (v, hp')) (hb : HB hp) (ht : bndL hp.length tm = true) : v.bnd hp'.length = true := by
  have quiet : ∀ (hr : (rop op tm (hpF hp)).map (fun v => (v, hp)) = some (v, hp')), v.bnd hp'.length = true := by
    intro hr
    rw [Option.map_eq_some_iff] at hr
    obtain ⟨u, h1, h2⟩ := hr
    cases h2
    exact rop_bnd hc h1 hb ht
  have hco := hc
  unfold AOp.clo at hco
  rw [Bool.and_eq_true] at hco
  obtain ⟨hco, -⟩ := hco
  cases op with
  | alloc z => simp only [opI, Option.some.injEq, Prod.mk.injEq] at h; obtain ⟨rfl, rfl⟩ := h; simp [AVal.bnd, Nat.blt_eq]
  | allocT t z => simp only [opI, Option.some.injEq, Prod.mk.injEq] at h; obtain ⟨rfl, rfl⟩ := h; simp [AVal.bnd, Nat.blt_eq]
  | box x =>
    simp only [opI] at h
    split at h
    · simp only [Option.some.injEq, Prod.mk.injEq] at h; obtain ⟨rfl, rfl⟩ := h; simp [AVal.bnd, Nat.blt_eq]
    · cases h
  | mkmap => simp only [opI, Option.some.injEq, Prod.mk.injEq] at h; obtain ⟨rfl, rfl⟩ := h; simp [AVal.bnd, Nat.blt_eq]
  | store n x y =>
    simp only [opI] at h
    split at h
    · split at h
      · split at h
        · cases h; rfl
        · cases h
      · cases h
    · cases h
  | mset kk m kx y =>
    simp only [opI] at h
    split at h
    · split at h
      · rw [Option.map_eq_some_iff] at h
        obtain ⟨es', h1, h2⟩ := h
        cases h2; rfl
      · cases h
    · cases h
  | app sz bytes e x y =>
    simp only [AOp.opds, List.all_cons, List.all_nil, Bool.and_true, Bool.and_eq_true] at hco
    exact appI_vbnd h (ev_bnd ht hco.1) (ev_bnd ht hco.2)
  | apps bytes e x y =>
    simp only [AOp.opds, List.all_cons, List.all_nil, Bool.and_true, Bool.and_eq_true] at hco
    simp only [opI] at h
    split at h
    · refine appI_vbnd h (ev_bnd ht hco.1) ?_
      rw [AVal.bnd, byteRows_bnd]; rfl
    · cases h
  | call f args => simp [opI] at h
  | dfr f args => simp [opI] at h
  | pnc x => simp [opI] at h
  | _ => exact quiet h

theorem resA_bnd {tm : List AVal} {hp : List Ob} (hb : HB hp) (ht : bndL hp.length tm = true) : ∀ {ars : List ARes} {vs : List AVal} {ds : List ADef}, resA ⟨tm, hpF hp, ds⟩ ars = some vs → bndL hp.length vs = true
  | [], vs, ds, h => by simp only [resA, Option.some.injEq] at h; subst h; rfl
  | .tmp t :: rest, vs, ds, h => by
    simp only [resA] at h
    cases hr : resA ⟨tm, hpF hp, ds⟩ rest with
    | none => rw [hr] at h; cases h
    | some us =>
      rw [hr] at h
      simp only [Option.map_some, Option.some.injEq] at h
      subst h
      rw [bndL, getD_bnd ht, resA_bnd hb ht hr]; rfl
  | .cell k t :: rest, vs, ds, h => by
    simp only [resA] at h
    cases hl : loadA (hpF hp) k (tm.getD t .unk) with
    | none => rw [hl] at h; cases h
    | some v =>
      cases hr : resA ⟨tm, hpF hp, ds⟩ rest with
      | none => rw [hl, hr] at h; cases h
      | some us =>
        rw [hl, hr] at h
        simp only [Option.some.injEq] at h
        subst h
        have : rop (.load k (.t t)) tm (hpF hp) = some v := hl
        rw [bndL, rop_bnd (op := .load k (.t t)) rfl this hb ht, resA_bnd hb ht hr]; rfl
theorem one1_bnd {k : Nat} {vs : List AVal} (h : bndL k vs = true) : (one1 vs).bnd k = true := by
  cases vs with
  | nil => rfl
  | cons v vs =>
    cases vs with
    | nil => rw [bndL, Bool.and_eq_true] at h; exact h.1
    | cons u us => exact h
end Go.Eng

