/- The words. -/
import Derived.Test.YtmpoklkgdcofbaaGreatDoorG06L2L3
import Derived.Test.YtmpoklkgdcofbaaGreatDoorG07LSLS
set_option maxRecDepth 100000
set_option linter.unusedVariables false
set_option linter.unusedSimpArgs false
namespace Go.Proofs.YtmpoklkgdcofbaaGreatDoor
open Go.Eng Go.RowKit

/-- What is taken for granted: the library's tables hold what they are laid with. -/
def lexL (base : Nat) (w0 : World) : Prop := 6 ≤ base ∧ Lib.TabIs Tryz.prog w0 "strings.asciiSpace" .u8 Lib.asciiSpaceTab ∧ Lib.TabIs Tryz.prog w0 "internal/strconv.uint64pow10" .u64 Lib.pow10Tab ∧
  (∃ tp p, w0.var? Tryz.prog "strconv.ErrSyntax" = some #[.iface tp p]) ∧ ∃ tp p, w0.var? Tryz.prog "strconv.ErrRange" = some #[.iface tp p]
abbrev lexC : Cfg := ⟨False, lexL⟩

theorem tab_below {base : Nat} {w0 w : World} {name : String} {k : IntKind} {zs : List Int} {g : Nat} (hg : Tryz.prog.globalNamed name = some g) (hlt : g < base) (hb : Below base w0 w) (h : Lib.TabIs Tryz.prog w0 name k zs) : Lib.TabIs Tryz.prog w name k zs := by
  unfold Lib.TabIs World.var? at *
  rw [hg] at h ⊢
  simp only [Option.bind_some] at h ⊢
  rw [hb.block g hlt]
  exact h

theorem lib_calls {O : Cfg} {f : FuncId} {fn : Func} {args : List AVal} {H : Hp} {Q : ARet → Hp → Prop} (hf : Tryz.prog.funcs[f]? = some fn) (hn : (fn.name == "runtime.NumGoroutine") = false) (hb : fn.body.isNone = false)
    (h : ∀ base w0 G w vs, O.L base w0 → Wr base w0 H G w → Reps G w args vs → Calls Tryz.prog f (List.toArray vs) w (RMeets O base w0 H G w Q)) : ACalls O Tryz.prog f args H Q := by
  intro base w0 G w vs hL hw hvs
  refine .inl ⟨?_, h base w0 G w vs hL hw hvs⟩
  simp only [callFunc, Sem.run_bind, run_program, Result.andThen_ok, hf, hn, hb]
  rfl

theorem reps_one {G : Gh} {w : World} {a : AVal} {vs : List Value} (h : Reps G w [a] vs) : ∃ u, vs = [u] ∧ Rep G w a u := by
  match vs, h with
  | [u], h => exact ⟨u, rfl, h.head⟩
  | [], h => have := h.1; simp at this
  | _ :: _ :: _, h => have := h.1; simp at this

theorem strRows_flatten (l : List (List UInt8)) : (strRows l).flatten = l.map AVal.str := by
  induction l with
  | nil => rfl
  | cons x l ih =>
    have : strRows (x :: l) = [.str x] :: strRows l := rfl
    rw [this, List.flatten_cons, ih]
    rfl

theorem strRows_len (l : List (List UInt8)) : (strRows l).length = l.length := by simp [strRows]

theorem Fields_pure (s : List UInt8) (hs : s.length < 4294967281) (ha : ∀ b ∈ s, b.toNat < 128) : PureCall lexC f_Fields [.str s] (.sl (strRows (Lib.fields s)) .full) := fun H => by
  refine lib_calls Tryz.func259 (by kernel_rfl) (by kernel_rfl) ?_
  intro base w0 G w vs hL hw hvs
  obtain ⟨u, rfl, hu⟩ := reps_one hvs
  rw [hu.str_inv]
  have htab := tab_below (by kernel_rfl : Tryz.prog.globalNamed "strings.asciiSpace" = some 1) (by have := hL.1; omega) hw.below hL.2.1
  refine (Tryz.strings_Fields ⟨s.toArray⟩ w (by simpa [ByteArray.size] using hs) (fun j b hb => ha b (List.mem_of_getElem? (by simpa using hb))) htab).mono ?_
  rintro e w' ⟨rfl, rfl⟩
  have hreps : Reps G w (strRows (Lib.fields s)).flatten ((Lib.fields s).map fun l => Value.string ⟨l.toArray⟩) := by
    rw [strRows_flatten]
    refine ⟨by simp, fun i a v h1 h2 => ?_⟩
    rw [List.getElem?_map] at h1 h2
    cases hx : (Lib.fields s)[i]? with
    | none => simp [hx] at h1
    | some x =>
      simp only [hx, Option.map_some, Option.some.injEq] at h1 h2
      subst h1; subst h2
      exact .str x
  obtain ⟨k1, k2, k3⟩ := runs_newRow (e := 9) (fr := (0, 0)) (cap := (Lib.fields s).length) (tk := .full) (sz := 1) (rows := strRows (Lib.fields s)) hw (fun r hr => by
    obtain ⟨x, _, rfl⟩ := List.mem_map.1 hr; rfl) hreps (cs := ((Lib.fields s).map fun l => Value.string ⟨l.toArray⟩).toArray) (fun i v hv => by simpa using hv) (by rw [strRows_len]; exact Nat.le_refl _) (.inr (.inl ⟨rfl, by rw [strRows_len]⟩))
  refine ⟨_, H, G, ?_, ⟨rfl, rfl⟩, k2, k3, Fr.alloc _⟩
  rw [strRows_len] at k1
  exact k1

def wordsText : List UInt8 := [99, 97, 115, 101, 32, 99, 108, 97, 115, 115, 32, 100, 97, 116, 97, 32, 100, 101, 114, 105, 118, 105, 110, 103, 32, 100, 111, 32, 101, 108, 115, 101, 32, 102, 97, 109, 105, 108, 121, 32, 102, 111, 114, 97, 108, 108, 32, 105, 102, 32, 105, 109, 112, 111, 114, 116, 32, 105, 110, 32, 105, 110, 102, 105, 120, 32, 105, 110, 102, 105, 120, 108, 32, 105, 110, 102, 105, 120, 114, 32, 105, 110, 115, 116, 97, 110, 99, 101, 32, 108, 101, 116, 32, 109, 111, 100, 117, 108, 101, 32, 110, 101, 119, 116, 121, 112, 101, 32, 111, 102, 32, 116, 104, 101, 110, 32, 119, 104, 101, 114, 101]
def words : List (List UInt8) := [[99, 97, 115, 101], [99, 108, 97, 115, 115], [100, 97, 116, 97], [100, 101, 114, 105, 118, 105, 110, 103], [100, 111], [101, 108, 115, 101], [102, 97, 109, 105, 108, 121], [102, 111, 114, 97, 108, 108], [105, 102], [105, 109, 112, 111, 114, 116], [105, 110], [105, 110, 102, 105, 120], [105, 110, 102, 105, 120, 108], [105, 110, 102, 105, 120, 114], [105, 110, 115, 116, 97, 110, 99, 101], [108, 101, 116], [109, 111, 100, 117, 108, 101], [110, 101, 119, 116, 121, 112, 101], [111, 102], [116, 104, 101, 110], [119, 104, 101, 114, 101]]
theorem fields_words : Lib.fields wordsText = words := by kernel_rfl

theorem words_pure : PureCall lexC f_words [] (.sl (strRows words) .full) := fun H => by
  refine entry h_words rfl ?_; simp -implicitDefEqProofs only [go_sem, Nat.reduceSub, Nat.reduceAdd, Nat.reduceLeDiff, Nat.reduceEqDiff, Nat.reduceBEq, Nat.reduceLT, c_words]
  refine go ?_; simp -implicitDefEqProofs only [go_sem, Nat.reduceSub, Nat.reduceAdd, Nat.reduceLeDiff, Nat.reduceEqDiff, Nat.reduceBEq, Nat.reduceLT]
  have := Fields_pure wordsText (by decide) (by decide)
  rw [fields_words] at this
  refine PureCall.step this ?_; simp -implicitDefEqProofs only [go_sem, Nat.reduceSub, Nat.reduceAdd, Nat.reduceLeDiff, Nat.reduceEqDiff, Nat.reduceBEq, Nat.reduceLT]
  refine go ?_; simp -implicitDefEqProofs only [go_sem, Nat.reduceSub, Nat.reduceAdd, Nat.reduceLeDiff, Nat.reduceEqDiff, Nat.reduceBEq, Nat.reduceLT]

def isWord (s : List UInt8) : Bool := words.contains s
theorem isWord_pure (s : List UInt8) : PureCall lexC f_isWord [.str s] (.bool (isWord s)) := fun H => by
  refine entry h_isWord rfl ?_; simp -implicitDefEqProofs only [go_sem, Nat.reduceSub, Nat.reduceAdd, Nat.reduceLeDiff, Nat.reduceEqDiff, Nat.reduceBEq, Nat.reduceLT, c_isWord]
  repeat' (first
    | (refine PureCall.step words_pure ?_; simp -implicitDefEqProofs only [go_sem, Nat.reduceSub, Nat.reduceAdd, Nat.reduceLeDiff, Nat.reduceEqDiff, Nat.reduceBEq, Nat.reduceLT])
    | (refine PureCall.step (contains_pure _ (by decide) _ _) ?_; simp -implicitDefEqProofs only [go_sem, Nat.reduceSub, Nat.reduceAdd, Nat.reduceLeDiff, Nat.reduceEqDiff, Nat.reduceBEq, Nat.reduceLT])
    | (refine go ?_; try simp -implicitDefEqProofs only [go_sem, Nat.reduceSub, Nat.reduceAdd, Nat.reduceLeDiff, Nat.reduceEqDiff, Nat.reduceBEq, Nat.reduceLT]) | fail)
  rfl

end Go.Proofs.YtmpoklkgdcofbaaGreatDoor

