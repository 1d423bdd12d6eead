/- What the machine's own functions on strings answer; the small functions that call them. -/
import Derived.Test.YtkcljempplchkaaDoorG03L0L1
import Derived.Test.YtkcljempplchkaaDoorG04E20E21
import Derived.Lib.Bytealg
import Derived.Test.YtkcljempplchkaaDoorChecked
import Derived.KernelRfl
import Derived.Shelf.Strings.Fields
import Derived.Shelf.Strconv.AtoiAll
import Derived.Shelf.Strconv.ErrVarAll
import Derived.Shelf.Strconv.Itoa3
import Derived.Shelf.Strings.Count
import Derived.Shelf.Strings.BuilderK
import Derived.Lib.AtoiAllCases
set_option maxRecDepth 100000
set_option linter.unusedVariables false
set_option linter.unusedSimpArgs false
namespace Go.Proofs.YtkcljempplchkaaDoor
open Go.Eng

section
variable {O : Cfg}

theorem extern_pure {f : FuncId} {args : List AVal} {v : AVal} (h : ∀ G w vs, Reps G w args vs → ∃ u, (callFunc f (List.toArray vs)).run Tryd.prog w = .ok (.value u) w ∧ Rep G w v u) : PureCall O f args v := by
  intro H base w0 G w vs hL hw hvs
  obtain ⟨u, h1, h2⟩ := h G w vs hvs
  exact .inr ⟨u, w, h1, v, H, G, h2, ⟨rfl, rfl⟩, hw, GExt.refl _ _, Fr.refl _ _ _⟩

theorem reps_two {G : Gh} {w : World} {a b : AVal} {vs : List Value} (h : Reps G w [a, b] vs) : ∃ u v, vs = [u, v] ∧ Rep G w a u ∧ Rep G w b v := by
  match vs, h with
  | [u, v], h => exact ⟨u, v, rfl, h.head, h.tail.head⟩
  | [], h => have := h.1; simp at this
  | [_], h => have := h.1; simp at this
  | _ :: _ :: _ :: _, h => have := h.1; simp at this

theorem uC_toUInt8 (c : UInt8) : (uC c).toNat.toUInt8 = c := by
  unfold uC
  simp

theorem IndexByteString_pure (s : List UInt8) (c : UInt8) : PureCall O f_IndexByteString [.str s, .int .u8 (uC c)] (.int .i64 (Lib.indexByte s c)) :=
  extern_pure fun G w vs hvs => by
    obtain ⟨u, v, rfl, h1, h2⟩ := reps_two hvs
    rw [h1.str_inv, h2.int_inv]
    refine ⟨.int .i64 (Lib.indexByte s c), ?_, .int _ _⟩
    have := run_callFunc_extern (e := Extern.BytealgIndexByte.indexByte) Tryd.func81 (by kernel_rfl) (by kernel_rfl) (by kernel_rfl) (by kernel_rfl) #[.string ⟨s.toArray⟩, .int .u8 (uC c)] w
    rw [Lib.run_indexByteString] at this
    simpa [uC_toUInt8] using this

theorem slIndexByte_pure (s : List UInt8) (c : UInt8) : PureCall O f_slIndexByte [.str s, .int .u8 (uC c)] (.int .i64 (Lib.indexByte s c)) := fun H => by
  refine entry h_slIndexByte rfl ?_; simp -implicitDefEqProofs only [go_sem, Nat.reduceAdd, Nat.reduceLeDiff, Nat.reduceEqDiff, Nat.reduceBEq, Nat.reduceLT, c_slIndexByte]
  refine go ?_; simp -implicitDefEqProofs only [go_sem, Nat.reduceAdd, Nat.reduceLeDiff, Nat.reduceEqDiff, Nat.reduceBEq, Nat.reduceLT]
  refine PureCall.step (IndexByteString_pure _ _) ?_; simp -implicitDefEqProofs only [go_sem, Nat.reduceAdd, Nat.reduceLeDiff, Nat.reduceEqDiff, Nat.reduceBEq, Nat.reduceLT]
  refine go ?_; simp -implicitDefEqProofs only [go_sem, Nat.reduceAdd, Nat.reduceLeDiff, Nat.reduceEqDiff, Nat.reduceBEq, Nat.reduceLT, and_self]

theorem IndexByte_pure (s : List UInt8) (c : UInt8) : PureCall O f_IndexByte [.str s, .int .u8 (uC c)] (.int .i64 (Lib.indexByte s c)) := fun H => by
  refine entry h_IndexByte rfl ?_; simp -implicitDefEqProofs only [go_sem, Nat.reduceAdd, Nat.reduceLeDiff, Nat.reduceEqDiff, Nat.reduceBEq, Nat.reduceLT, c_IndexByte]
  refine go ?_; simp -implicitDefEqProofs only [go_sem, Nat.reduceAdd, Nat.reduceLeDiff, Nat.reduceEqDiff, Nat.reduceBEq, Nat.reduceLT]
  refine PureCall.step (slIndexByte_pure _ _) ?_; simp -implicitDefEqProofs only [go_sem, Nat.reduceAdd, Nat.reduceLeDiff, Nat.reduceEqDiff, Nat.reduceBEq, Nat.reduceLT]
  refine go ?_; simp -implicitDefEqProofs only [go_sem, Nat.reduceAdd, Nat.reduceLeDiff, Nat.reduceEqDiff, Nat.reduceBEq, Nat.reduceLT, and_self]

def opBytes : List UInt8 := [33, 35, 36, 37, 38, 42, 43, 46, 47, 60, 61, 62, 63, 64, 94, 124, 45, 126, 58, 92]
/-- A byte of an operator. -/
def inOp (c : UInt8) : Bool := iLe 0 (Lib.indexByte opBytes c)

theorem isOpByte_pure (c : UInt8) : PureCall O f_isOpByte [.int .u8 (uC c)] (.bool (inOp c)) := fun H => by
  refine entry h_isOpByte rfl ?_; simp -implicitDefEqProofs only [go_sem, Nat.reduceAdd, Nat.reduceLeDiff, Nat.reduceEqDiff, Nat.reduceBEq, Nat.reduceLT, c_isOpByte]
  refine go ?_; simp -implicitDefEqProofs only [go_sem, Nat.reduceAdd, Nat.reduceLeDiff, Nat.reduceEqDiff, Nat.reduceBEq, Nat.reduceLT]
  refine PureCall.step (IndexByte_pure _ _) ?_; simp -implicitDefEqProofs only [go_sem, Nat.reduceAdd, Nat.reduceLeDiff, Nat.reduceEqDiff, Nat.reduceBEq, Nat.reduceLT]
  refine go ?_; simp -implicitDefEqProofs only [go_sem, Nat.reduceAdd, Nat.reduceLeDiff, Nat.reduceEqDiff, Nat.reduceBEq, Nat.reduceLT]
  simp [inOp, opBytes]

/-- The runs that are signs. -/
def runs : List (List UInt8) := [[61], [45, 62], [61, 62], [60, 45], [58], [124], [64], [126], [33], [46], [92]]
def reserved (s : List UInt8) : Bool := runs.any fun r => sEq s r

theorem reserved_pure (s : List UInt8) : PureCall O f_reserved [.str s] (.bool (reserved s)) := fun H => by
  refine entry h_reserved rfl ?_; simp -implicitDefEqProofs only [go_sem, Nat.reduceAdd, Nat.reduceLeDiff, Nat.reduceEqDiff, Nat.reduceBEq, Nat.reduceLT, c_reserved]
  repeat' (first
    | (refine wpC_split rfl rfl (fun h => ?_) (fun h => ?_) <;> simp -implicitDefEqProofs only [go_sem, Nat.reduceAdd, Nat.reduceLeDiff, Nat.reduceEqDiff, Nat.reduceBEq, Nat.reduceLT])
    | (refine go ?_; try simp -implicitDefEqProofs only [go_sem, Nat.reduceAdd, Nat.reduceLeDiff, Nat.reduceEqDiff, Nat.reduceBEq, Nat.reduceLT]) | fail)
  all_goals simp_all [reserved, runs]

def pfx (p s : List UInt8) : Bool := p.isPrefixOf s
theorem slHasPrefix_pure (s p : List UInt8) : PureCall O f_slHasPrefix [.str s, .str p] (.bool (pfx p s)) := fun H => by
  refine entry h_slHasPrefix rfl ?_; simp -implicitDefEqProofs only [go_sem, Nat.reduceAdd, Nat.reduceLeDiff, Nat.reduceEqDiff, Nat.reduceBEq, Nat.reduceLT, c_slHasPrefix]
  refine go ?_; simp -implicitDefEqProofs only [go_sem, Nat.reduceAdd, Nat.reduceLeDiff, Nat.reduceEqDiff, Nat.reduceBEq, Nat.reduceLT]
  refine plan_split rfl rfl (fun h => ?_) (fun h => ?_) <;> simp -implicitDefEqProofs only [go_sem, Nat.reduceAdd, Nat.reduceLeDiff, Nat.reduceEqDiff, Nat.reduceBEq, Nat.reduceLT, h]
  · rw [iLe_true, sLen_eq, sLen_eq] at h
    have h' : p.length ≤ s.length := by omega
    simp -implicitDefEqProofs only [go_sem, Nat.reduceAdd, Nat.reduceLeDiff, Nat.reduceEqDiff, Nat.reduceBEq, Nat.reduceLT, sLen_eq, slSA_hi h']
    refine go ?_; simp -implicitDefEqProofs only [go_sem, Nat.reduceAdd, Nat.reduceLeDiff, Nat.reduceEqDiff, Nat.reduceBEq, Nat.reduceLT, and_true]
    congr 2
    rw [pfx, Bool.eq_iff_iff, sEq_true, List.isPrefixOf_iff_prefix, List.prefix_iff_eq_take]
    exact ⟨Eq.symm, Eq.symm⟩
  · refine go ?_; simp -implicitDefEqProofs only [go_sem, Nat.reduceAdd, Nat.reduceLeDiff, Nat.reduceEqDiff, Nat.reduceBEq, Nat.reduceLT, and_true]
    rw [iLe_false, sLen_eq, sLen_eq] at h
    congr 2
    symm
    rw [pfx, Bool.eq_false_iff]
    intro hp
    have := (List.isPrefixOf_iff_prefix.1 hp).length_le
    omega

theorem HasPrefix_pure (s p : List UInt8) : PureCall O f_HasPrefix [.str s, .str p] (.bool (pfx p s)) := fun H => by
  refine entry h_HasPrefix rfl ?_; simp -implicitDefEqProofs only [go_sem, Nat.reduceAdd, Nat.reduceLeDiff, Nat.reduceEqDiff, Nat.reduceBEq, Nat.reduceLT, c_HasPrefix]
  refine go ?_; simp -implicitDefEqProofs only [go_sem, Nat.reduceAdd, Nat.reduceLeDiff, Nat.reduceEqDiff, Nat.reduceBEq, Nat.reduceLT]
  refine PureCall.step (slHasPrefix_pure _ _) ?_; simp -implicitDefEqProofs only [go_sem, Nat.reduceAdd, Nat.reduceLeDiff, Nat.reduceEqDiff, Nat.reduceBEq, Nat.reduceLT]
  refine go ?_; simp -implicitDefEqProofs only [go_sem, Nat.reduceAdd, Nat.reduceLeDiff, Nat.reduceEqDiff, Nat.reduceBEq, Nat.reduceLT, and_self]

def isOp (s : List UInt8) : Bool := !(sEq s [] || iLt 16 (sLen s) || reserved s || pfx [45, 45] s) && s.all inOp

theorem IsOp_pure (s : List UInt8) : PureCall O f_IsOp [.str s] (.bool (isOp s)) := fun H => by
  refine entry h_IsOp rfl ?_; simp -implicitDefEqProofs only [go_sem, Nat.reduceAdd, Nat.reduceLeDiff, Nat.reduceEqDiff, Nat.reduceBEq, Nat.reduceLT, c_IsOp]
  repeat' (first
    | (refine PureCall.step (reserved_pure _) ?_; simp -implicitDefEqProofs only [go_sem, Nat.reduceAdd, Nat.reduceLeDiff, Nat.reduceEqDiff, Nat.reduceBEq, Nat.reduceLT])
    | (refine PureCall.step (HasPrefix_pure _ _) ?_; simp -implicitDefEqProofs only [go_sem, Nat.reduceAdd, Nat.reduceLeDiff, Nat.reduceEqDiff, Nat.reduceBEq, Nat.reduceLT])
    | (refine wpC_split rfl rfl (fun h => ?_) (fun h => ?_) <;> simp -implicitDefEqProofs only [go_sem, Nat.reduceAdd, Nat.reduceLeDiff, Nat.reduceEqDiff, Nat.reduceBEq, Nat.reduceLT])
    | (refine go ?_; try simp -implicitDefEqProofs only [go_sem, Nat.reduceAdd, Nat.reduceLeDiff, Nat.reduceEqDiff, Nat.reduceBEq, Nat.reduceLT])
    | (refine plan_split rfl rfl (fun h => ?_) (fun h => ?_) <;> simp -implicitDefEqProofs only [go_sem, Nat.reduceAdd, Nat.reduceLeDiff, Nat.reduceEqDiff, Nat.reduceBEq, Nat.reduceLT, h]) | fail)
  · simp_all [isOp]
  · simp_all [isOp]
  · simp_all [isOp]
  · simp_all [isOp]
  rename_i g1 g2 g3
  have g4 := h
  rw [iLt_false, sLen_eq] at g2
  rw [wpC_loop]
  refine AC.loop (fun n st => ∃ i : Nat, i + n = s.length ∧ (s.take i).all inOp = true ∧ st = ⟨mk 30 [(0, .str s), (20, .int .i64 (sLen s)), (21, .int .i64 i)], H, []⟩) s.length ⟨0, by omega, rfl, rfl⟩ ?_
  rintro n _ ⟨i, hi, hall, rfl⟩
  simp -implicitDefEqProofs only [go_sem, Nat.reduceAdd, Nat.reduceLeDiff, Nat.reduceEqDiff, Nat.reduceBEq, Nat.reduceLT, l_IsOp_0]
  repeat' (first
    | (refine PureCall.step (isOpByte_pure _) ?_; simp -implicitDefEqProofs only [go_sem, Nat.reduceAdd, Nat.reduceLeDiff, Nat.reduceEqDiff, Nat.reduceBEq, Nat.reduceLT])
    | (refine wpC_split rfl rfl (fun h => ?_) (fun h => ?_) <;> simp -implicitDefEqProofs only [go_sem, Nat.reduceAdd, Nat.reduceLeDiff, Nat.reduceEqDiff, Nat.reduceBEq, Nat.reduceLT])
    | (refine go ?_; try simp -implicitDefEqProofs only [go_sem, Nat.reduceAdd, Nat.reduceLeDiff, Nat.reduceEqDiff, Nat.reduceBEq, Nat.reduceLT])
    | (refine plan_split rfl rfl (fun h => ?_) (fun h => ?_) <;> simp -implicitDefEqProofs only [go_sem, Nat.reduceAdd, Nat.reduceLeDiff, Nat.reduceEqDiff, Nat.reduceBEq, Nat.reduceLT, h]) | fail)
  · rw [iLt_true, sLen_eq] at h
    have hlt : i < s.length := by omega
    obtain ⟨b, hb⟩ : ∃ b, s[i]? = some b := ⟨_, List.getElem?_eq_getElem hlt⟩
    simp -implicitDefEqProofs only [go_sem, Nat.reduceAdd, Nat.reduceLeDiff, Nat.reduceEqDiff, Nat.reduceBEq, Nat.reduceLT, ixK_at hb]
    refine PureCall.step (isOpByte_pure _) ?_; simp -implicitDefEqProofs only [go_sem, Nat.reduceAdd, Nat.reduceLeDiff, Nat.reduceEqDiff, Nat.reduceBEq, Nat.reduceLT]
    have e : wAdd .i64 (i : Int) 1 = ((i + 1 : Nat) : Int) := by rw [wAdd_i64] <;> omega
    repeat' (first
      | (refine wpC_split rfl rfl (fun h => ?_) (fun h => ?_) <;> simp -implicitDefEqProofs only [go_sem, Nat.reduceAdd, Nat.reduceLeDiff, Nat.reduceEqDiff, Nat.reduceBEq, Nat.reduceLT])
      | (refine go ?_; try simp -implicitDefEqProofs only [go_sem, Nat.reduceAdd, Nat.reduceLeDiff, Nat.reduceEqDiff, Nat.reduceBEq, Nat.reduceLT]) | fail)
    · have h1 := bNot_true.1 h
      congr 2
      symm
      simp only [isOp, Bool.and_eq_false_iff, List.all_eq_false]
      exact .inr ⟨b, List.mem_of_getElem? hb, by simp [h1]⟩
    · have h1 := bNot_false.1 h
      refine ⟨n - 1, by omega, i + 1, by omega, ?_, by rw [e]⟩
      rw [List.take_add_one, hb]
      simp [hall, h1]
  · rw [iLt_false, sLen_eq] at h
    have : i = s.length := by omega
    subst this
    rw [List.take_length] at hall
    have g2' : iLt 16 (sLen s) = false := by rw [iLt_false, sLen_eq]; exact g2
    simp [isOp, g1, g2', g3, g4, hall]

end
end Go.Proofs.YtkcljempplchkaaDoor

/- Lists of strings; words. -/
set_option maxRecDepth 100000
set_option linter.unusedVariables false
set_option linter.unusedSimpArgs false
namespace Go.Proofs.YtkcljempplchkaaDoor
open Go.Eng

section
variable {O : Cfg}

/-- The first place of a string in a list. -/
def indexS (l : List (List UInt8)) (w : List UInt8) : Int := match l.findIdx? (fun x => sEq w x) with
  | some i => i
  | none => -1

theorem indexS_at {l : List (List UInt8)} {w b : List UInt8} {i : Nat} (hb : l[i]? = some b) (h : sEq w b = true) (hall : ∀ j x, j < i → l[j]? = some x → sEq w x = false) : indexS l w = i := by
  have hi := (List.getElem?_eq_some_iff.1 hb).1
  have : l.findIdx? (fun x => sEq w x) = some i := by
    rw [List.findIdx?_eq_some_iff_getElem]
    refine ⟨hi, ?_, fun j hj => ?_⟩
    · rw [List.getElem?_eq_getElem hi] at hb; cases hb; exact h
    · have := hall j _ hj (List.getElem?_eq_getElem (by omega))
      simp [this]
  simp [indexS, this]
theorem indexS_none {l : List (List UInt8)} {w : List UInt8} (hall : ∀ x ∈ l, sEq w x = false) : indexS l w = -1 := by
  have : l.findIdx? (fun x => sEq w x) = none := by
    rw [List.findIdx?_eq_none_iff]
    exact hall
  simp [indexS, this]
theorem indexS_nonneg (l : List (List UInt8)) (w : List UInt8) : iLe 0 (indexS l w) = l.contains w := by
  unfold indexS
  cases h : l.findIdx? (fun x => sEq w x) with
  | none =>
    rw [List.findIdx?_eq_none_iff] at h
    have : l.contains w = false := by
      rw [Bool.eq_false_iff]
      intro hc
      have := h w (List.contains_iff_mem.1 hc)
      rw [sEq_self] at this
      cases this
    rw [this]; decide
  | some i =>
    rw [List.findIdx?_eq_some_iff_getElem] at h
    obtain ⟨hi, h1, _⟩ := h
    rw [sEq_true] at h1
    have : l.contains w = true := List.contains_iff_mem.2 (h1 ▸ List.getElem_mem hi)
    rw [this]
    simp [iLe]

theorem index_pure (l : List (List UInt8)) (hl : l.length < 1000000) (t : Tok) (w : List UInt8) : PureCall O f_index [.sl (strRows l) t, .str w] (.int .i64 (indexS l w)) := fun H => by
  refine entry h_index rfl ?_; simp -implicitDefEqProofs only [go_sem, Nat.reduceAdd, Nat.reduceLeDiff, Nat.reduceEqDiff, Nat.reduceBEq, Nat.reduceLT, c_index]
  repeat' (first
    | (refine go ?_; try simp -implicitDefEqProofs only [go_sem, Nat.reduceAdd, Nat.reduceLeDiff, Nat.reduceEqDiff, Nat.reduceBEq, Nat.reduceLT]) | fail)
  rw [wpC_loop]
  refine AC.loop (fun n st => ∃ i : Nat, i + n = l.length ∧ (∀ j x, j < i → l[j]? = some x → sEq w x = false) ∧ st = ⟨mk 19 [(0, .sl (strRows l) t), (1, .str w), (7, .int .i64 (rLen (strRows l))), (8, .int .i64 i)], H, []⟩) l.length ⟨0, by omega, fun j x hj => by omega, rfl⟩ ?_
  rintro n _ ⟨i, hi, hall, rfl⟩
  simp -implicitDefEqProofs only [go_sem, Nat.reduceAdd, Nat.reduceLeDiff, Nat.reduceEqDiff, Nat.reduceBEq, Nat.reduceLT, l_index_0]
  repeat' (first
    | (refine wpC_split rfl rfl (fun h => ?_) (fun h => ?_) <;> simp -implicitDefEqProofs only [go_sem, Nat.reduceAdd, Nat.reduceLeDiff, Nat.reduceEqDiff, Nat.reduceBEq, Nat.reduceLT])
    | (refine go ?_; try simp -implicitDefEqProofs only [go_sem, Nat.reduceAdd, Nat.reduceLeDiff, Nat.reduceEqDiff, Nat.reduceBEq, Nat.reduceLT]) | fail)
  · rw [iLt_true, rLen_str] at h
    have hlt : i < l.length := by omega
    obtain ⟨b, hb⟩ : ∃ b, l[i]? = some b := ⟨_, List.getElem?_eq_getElem hlt⟩
    simp -implicitDefEqProofs only [go_sem, Nat.reduceAdd, Nat.reduceLeDiff, Nat.reduceEqDiff, Nat.reduceBEq, Nat.reduceLT, iaddrA_str hb]
    have e : wAdd .i64 (i : Int) 1 = ((i + 1 : Nat) : Int) := by rw [wAdd_i64] <;> omega
    repeat' (first
      | (refine wpC_split rfl rfl (fun h => ?_) (fun h => ?_) <;> simp -implicitDefEqProofs only [go_sem, Nat.reduceAdd, Nat.reduceLeDiff, Nat.reduceEqDiff, Nat.reduceBEq, Nat.reduceLT])
      | (refine go ?_; try simp -implicitDefEqProofs only [go_sem, Nat.reduceAdd, Nat.reduceLeDiff, Nat.reduceEqDiff, Nat.reduceBEq, Nat.reduceLT]) | fail)
    · congr 2
      symm
      exact indexS_at hb h hall
    · have hne := h
      refine ⟨n - 1, by omega, i + 1, by omega, ?_, by rw [e]⟩
      intro j x hj hx
      rcases Nat.lt_or_ge j i with hji | hji
      · exact hall j x hji hx
      · have : j = i := by omega
        subst this
        rw [hb] at hx; cases hx
        exact hne
  · rw [iLt_false, rLen_str] at h
    congr 2
    symm
    exact indexS_none fun x hx => by
      obtain ⟨j, hj⟩ := List.mem_iff_getElem?.1 hx
      exact hall j x (by have := (List.getElem?_eq_some_iff.1 hj).1; omega) hj

theorem contains_pure (l : List (List UInt8)) (hl : l.length < 1000000) (t : Tok) (w : List UInt8) : PureCall O f_contains [.sl (strRows l) t, .str w] (.bool (l.contains w)) := fun H => by
  refine entry h_contains rfl ?_; simp -implicitDefEqProofs only [go_sem, Nat.reduceAdd, Nat.reduceLeDiff, Nat.reduceEqDiff, Nat.reduceBEq, Nat.reduceLT, c_contains]
  repeat' (first
    | (refine PureCall.step (index_pure _ hl _ _) ?_; simp -implicitDefEqProofs only [go_sem, Nat.reduceAdd, Nat.reduceLeDiff, Nat.reduceEqDiff, Nat.reduceBEq, Nat.reduceLT])
    | (refine go ?_; try simp -implicitDefEqProofs only [go_sem, Nat.reduceAdd, Nat.reduceLeDiff, Nat.reduceEqDiff, Nat.reduceBEq, Nat.reduceLT]) | fail)
  rw [indexS_nonneg]

end
end Go.Proofs.YtkcljempplchkaaDoor

/- MADE BY PROGRAM: of the shelf's contracts, laid at this dump by the kit's own tools (lay-shelf, lay-plain), those that the lexis laws need (wip/lex/shelfcut.py). -/
namespace Go.Proofs
open Go.Shelf
def Tryd.lays169_ren : Go.Shelf.Ren := ⟨fun | 169 => 49 | n => n, fun | 70 => 62 | 9 => 9 | 0 => 0 | 72 => 65 | 37 => 63 | 127 => 79 | 3 => 3 | 5 => 5 | n => n, fun | n => n⟩
theorem Tryd.lays169 : Go.Proofs.Lays.n169 Tryd.prog Tryd.lays169_ren := {
  mixed := by kernel_rfl
  f169 := Tryd.func49.trans (congrArg some (by kernel_rfl))
  t0 := Tryd.underlying0
  a0 := Tryd.isAgg0
  z0 := Tryd.sizeOf0
  v0 := Tryd.zeroValue0
  t3 := Tryd.underlying3
  a3 := Tryd.isAgg3
  z3 := Tryd.sizeOf3
  v3 := Tryd.zeroValue3
  t9 := Tryd.underlying9
  a9 := Tryd.isAgg9
  z9 := Tryd.sizeOf9
  v9 := Tryd.zeroValue9
  t37 := Tryd.underlying63
  a37 := Tryd.isAgg63
  z37 := Tryd.sizeOf63
  v37 := Tryd.zeroValue63
  t70 := Tryd.underlying62
  a70 := Tryd.isAgg62
  z70 := Tryd.sizeOf62
  v70 := Tryd.zeroValue62
  t72 := Tryd.underlying65
  a72 := Tryd.isAgg65
  z72 := Tryd.sizeOf65
  v72 := Tryd.zeroValue65
  t127 := Tryd.underlying79
  a127 := Tryd.isAgg79
  z127 := Tryd.sizeOf79
  v127 := Tryd.zeroValue79 }
theorem Tryd.Builder_Extra_169 : Builder.Extra Tryd.prog Tryd.lays169_ren := {
  sizeBuilder := by kernel_rfl
  liesBuilder := by kernel_rfl
  t5 := Tryd.underlying5
  a5 := Tryd.isAgg5
  z5 := Tryd.sizeOf5
  v5 := Tryd.zeroValue5
  infoByte := by kernel_rfl
  cellsByte := by kernel_rfl
  sizeByte := by kernel_rfl
  neB5 := by decide }
open Go.RowKit in
/-- (*strings.Builder).String: "String returns the accumulated string.": WHATEVER THE BUILDER HOLDS. (LAID: no walk: one application.) -/
theorem Tryd.Builder_String_any (B b : Nat) (l : List UInt8) (w : World) (h : Lib.IsBuilder 65 5 B b (Lib.byteCells l) w) (hBw : B ≤ w.heap.size) :
    Calls Tryd.prog 49 #[.pointer (some ⟨b, 0, none⟩)] w fun e w' => e = .returned (.string ⟨l.toArray⟩) ∧ Below B w w' := Any.Builder_String_any Tryd.lays169 Tryd.Builder_Extra_169 B b l w h hBw
open Go.RowKit in
/-- (*strings.Builder).String: "String returns the accumulated string.": WHATEVER THE BUILDER HOLDS; THE FORM '_k': OVER 'Lib.IsBuilderF' (a builder that 'String()' may have read), AND WITH THE FRAME THAT REACHES ABOVE THE BUILDER: 'Lib.OthersKept': every block that is not b and is no row of uint8's stands as it stood: the iterator of a range among them. (LAID: no walk: one application.) -/
theorem Tryd.Builder_String_any_k (B b : Nat) (l : List UInt8) (w : World) (h : Lib.IsBuilderF 65 5 B b (Lib.byteCells l) w) (hBw : B ≤ w.heap.size) :
    Calls Tryd.prog 49 #[.pointer (some ⟨b, 0, none⟩)] w fun e w' => e = .returned (.string ⟨l.toArray⟩) ∧ (Lib.IsBuilderF 65 5 B b (Lib.byteCells l) w' ∧ Below B w w' ∧ Lib.OthersKept 5 (some b) w w') := Any.Builder_String_any_k Tryd.lays169 Tryd.Builder_Extra_169 B b l w h hBw
def Tryd.laysM171_ren : Go.Shelf.Ren := ⟨fun | 171 => 74 | 243 => 85 | 246 => 95 | 283 => 102 | 284 => 103 | 285 => 104 | 286 => 105 | 129 => 109 | 317 => 108 | 318 => 110 | 319 => 111 | 320 => 112 | 337 => 113 | 338 => 114 | n => n, fun | 3 => 3 | 9 => 9 | 2 => 2 | 4 => 4 | 171 => 122 | 0 => 0 | 53 => 115 | 37 => 63 | 5 => 5 | 173 => 125 | 212 => 134 | 51 => 91 | 20 => 20 | 213 => 135 | 46 => 31 | 232 => 139 | 233 => 140 | n => n, fun | 17 => 5 | 18 => 6 | 19 => 7 | n => n⟩
theorem Tryd.laysM171 : Go.Proofs.LaysM.n171 Tryd.prog Tryd.laysM171_ren := {
  mixed := by kernel_rfl
  f129 := Tryd.func109.trans (congrArg some (by kernel_rfl))
  f171 := Tryd.func74.trans (congrArg some (by kernel_rfl))
  f243 := Tryd.func85.trans (congrArg some (by kernel_rfl))
  f246 := Tryd.func95.trans (congrArg some (by kernel_rfl))
  f283 := Tryd.func102.trans (congrArg some (by kernel_rfl))
  f284 := Tryd.func103.trans (congrArg some (by kernel_rfl))
  f285 := Tryd.func104.trans (congrArg some (by kernel_rfl))
  f286 := Tryd.func105.trans (congrArg some (by kernel_rfl))
  f317 := Tryd.func108.trans (congrArg some (by kernel_rfl))
  f318 := Tryd.func110.trans (congrArg some (by kernel_rfl))
  f319 := Tryd.func111.trans (congrArg some (by kernel_rfl))
  f320 := Tryd.func112.trans (congrArg some (by kernel_rfl))
  f337 := Tryd.func113.trans (congrArg some (by kernel_rfl))
  f338 := Tryd.func114.trans (congrArg some (by kernel_rfl))
  t0 := Tryd.underlying0
  a0 := Tryd.isAgg0
  z0 := Tryd.sizeOf0
  v0 := Tryd.zeroValue0
  t2 := Tryd.underlying2
  a2 := Tryd.isAgg2
  z2 := Tryd.sizeOf2
  v2 := Tryd.zeroValue2
  t3 := Tryd.underlying3
  a3 := Tryd.isAgg3
  z3 := Tryd.sizeOf3
  v3 := Tryd.zeroValue3
  t4 := Tryd.underlying4
  a4 := Tryd.isAgg4
  z4 := Tryd.sizeOf4
  v4 := Tryd.zeroValue4
  t5 := Tryd.underlying5
  a5 := Tryd.isAgg5
  z5 := Tryd.sizeOf5
  v5 := Tryd.zeroValue5
  t9 := Tryd.underlying9
  a9 := Tryd.isAgg9
  z9 := Tryd.sizeOf9
  v9 := Tryd.zeroValue9
  t20 := Tryd.underlying20
  a20 := Tryd.isAgg20
  z20 := Tryd.sizeOf20
  v20 := Tryd.zeroValue20
  t37 := Tryd.underlying63
  a37 := Tryd.isAgg63
  z37 := Tryd.sizeOf63
  v37 := Tryd.zeroValue63
  t46 := Tryd.underlying31
  a46 := Tryd.isAgg31
  z46 := Tryd.sizeOf31
  v46 := Tryd.zeroValue31
  t51 := Tryd.underlying91
  a51 := Tryd.isAgg91
  z51 := Tryd.sizeOf91
  v51 := Tryd.zeroValue91
  t53 := Tryd.underlying115
  a53 := Tryd.isAgg115
  z53 := Tryd.sizeOf115
  v53 := Tryd.zeroValue115
  t171 := Tryd.underlying122
  a171 := Tryd.isAgg122
  z171 := Tryd.sizeOf122
  v171 := Tryd.zeroValue122
  t173 := Tryd.underlying125
  a173 := Tryd.isAgg125
  z173 := Tryd.sizeOf125
  v173 := Tryd.zeroValue125
  t212 := Tryd.underlying134
  a212 := Tryd.isAgg134
  z212 := Tryd.sizeOf134
  v212 := Tryd.zeroValue134
  t213 := Tryd.underlying135
  a213 := Tryd.isAgg135
  z213 := Tryd.sizeOf135
  t232 := Tryd.underlying139
  a232 := Tryd.isAgg139
  z232 := Tryd.sizeOf139
  v232 := Tryd.zeroValue139
  t233 := Tryd.underlying140
  a233 := Tryd.isAgg140
  z233 := Tryd.sizeOf140
  v233 := Tryd.zeroValue140
  g17 := by kernel_rfl
  g18 := by kernel_rfl
  g19 := by kernel_rfl
  i0 := by kernel_rfl
  i2 := by kernel_rfl
  i3 := by kernel_rfl
  i4 := by kernel_rfl
  i5 := by kernel_rfl
  i9 := by kernel_rfl
  i20 := by kernel_rfl
  i37 := by kernel_rfl
  i46 := by kernel_rfl
  i51 := by kernel_rfl
  i53 := by kernel_rfl
  i171 := by kernel_rfl
  i173 := by kernel_rfl
  i212 := by kernel_rfl
  i232 := by kernel_rfl
  i233 := by kernel_rfl
  m17 := by kernel_rfl
  m18 := by kernel_rfl
  m19 := by kernel_rfl }
open Go.RowKit Go.Sort Go.Lib in
/-- strconv.Itoa: "Itoa is equivalent to FormatInt(int64(i), 10).": i's DECIMAL NUMERAL ('Lib.itoa': a '-' where i is negative, then the digits), FOR EVERY int. The world behind the call: the world before it, new blocks behind the heap (the library's 'var a [24]byte'), draws. (LAID: no walk: one application.) -/
theorem Tryd.strconv_Itoa (n : Int) (h0 : -9223372036854775808 ≤ n) (h1 : n ≤ 9223372036854775807) (w : World) (htab : Lib.TabIs Tryd.prog w "internal/strconv.uint64pow10" .u64 Lib.pow10Tab) :
    Calls Tryd.prog 74 #[.int .i64 n] w fun e w' => e = .returned (.string ⟨(Lib.itoa n).toArray⟩) ∧ ∃ k os, w' = grow (w.drewN k) os := Any.strconv_Itoa Tryd.laysM171 n h0 h1 w htab
def Tryd.laysC172_ren : Go.Shelf.Ren := ⟨fun | 172 => 73 | 244 => 83 | 245 => 84 | 247 => 90 | 279 => 91 | 280 => 92 | 281 => 93 | 282 => 94 | 287 => 99 | 316 => 100 | 171 => 74 | 205 => 101 | 321 => 106 | 322 => 107 | 243 => 85 | 246 => 95 | 283 => 102 | 284 => 103 | 285 => 104 | 286 => 105 | 129 => 109 | 317 => 108 | 318 => 110 | 319 => 111 | 320 => 112 | 337 => 113 | 338 => 114 | n => n, fun | 9 => 9 | 3 => 3 | 75 => 68 | 76 => 70 | 4 => 4 | 5 => 5 | 167 => 95 | 37 => 63 | 0 => 0 | 85 => 96 | 2 => 2 | 168 => 98 | 53 => 115 | 175 => 116 | 46 => 31 | 210 => 120 | 127 => 79 | 145 => 132 | 143 => 130 | 21 => 21 | 171 => 122 | 173 => 125 | 212 => 134 | 51 => 91 | 20 => 20 | 213 => 135 | 232 => 139 | 233 => 140 | 80 => 72 | n => n, fun | 15 => 3 | 16 => 4 | 17 => 5 | 18 => 6 | 19 => 7 | n => n⟩
theorem Tryd.laysC172 : Go.Proofs.LaysC.n172 Tryd.prog Tryd.laysC172_ren := {
  mixed := by kernel_rfl
  f129 := Tryd.func109.trans (congrArg some (by kernel_rfl))
  f171 := Tryd.func74.trans (congrArg some (by kernel_rfl))
  f172 := Tryd.func73.trans (congrArg some (by kernel_rfl))
  f205 := Tryd.func101.trans (congrArg some (by kernel_rfl))
  f243 := Tryd.func85.trans (congrArg some (by kernel_rfl))
  f244 := Tryd.func83.trans (congrArg some (by kernel_rfl))
  f245 := Tryd.func84.trans (congrArg some (by kernel_rfl))
  f246 := Tryd.func95.trans (congrArg some (by kernel_rfl))
  f247 := Tryd.func90.trans (congrArg some (by kernel_rfl))
  f279 := Tryd.func91.trans (congrArg some (by kernel_rfl))
  f280 := Tryd.func92.trans (congrArg some (by kernel_rfl))
  f281 := Tryd.func93.trans (congrArg some (by kernel_rfl))
  f282 := Tryd.func94.trans (congrArg some (by kernel_rfl))
  f283 := Tryd.func102.trans (congrArg some (by kernel_rfl))
  f284 := Tryd.func103.trans (congrArg some (by kernel_rfl))
  f285 := Tryd.func104.trans (congrArg some (by kernel_rfl))
  f286 := Tryd.func105.trans (congrArg some (by kernel_rfl))
  f287 := Tryd.func99.trans (congrArg some (by kernel_rfl))
  f316 := Tryd.func100.trans (congrArg some (by kernel_rfl))
  f317 := Tryd.func108.trans (congrArg some (by kernel_rfl))
  f318 := Tryd.func110.trans (congrArg some (by kernel_rfl))
  f319 := Tryd.func111.trans (congrArg some (by kernel_rfl))
  f320 := Tryd.func112.trans (congrArg some (by kernel_rfl))
  f321 := Tryd.func106.trans (congrArg some (by kernel_rfl))
  f322 := Tryd.func107.trans (congrArg some (by kernel_rfl))
  f337 := Tryd.func113.trans (congrArg some (by kernel_rfl))
  f338 := Tryd.func114.trans (congrArg some (by kernel_rfl))
  t0 := Tryd.underlying0
  a0 := Tryd.isAgg0
  z0 := Tryd.sizeOf0
  v0 := Tryd.zeroValue0
  t2 := Tryd.underlying2
  a2 := Tryd.isAgg2
  z2 := Tryd.sizeOf2
  v2 := Tryd.zeroValue2
  t3 := Tryd.underlying3
  a3 := Tryd.isAgg3
  z3 := Tryd.sizeOf3
  v3 := Tryd.zeroValue3
  t4 := Tryd.underlying4
  a4 := Tryd.isAgg4
  z4 := Tryd.sizeOf4
  v4 := Tryd.zeroValue4
  t5 := Tryd.underlying5
  a5 := Tryd.isAgg5
  z5 := Tryd.sizeOf5
  v5 := Tryd.zeroValue5
  t9 := Tryd.underlying9
  a9 := Tryd.isAgg9
  z9 := Tryd.sizeOf9
  v9 := Tryd.zeroValue9
  t20 := Tryd.underlying20
  a20 := Tryd.isAgg20
  z20 := Tryd.sizeOf20
  v20 := Tryd.zeroValue20
  t21 := Tryd.underlying21
  a21 := Tryd.isAgg21
  z21 := Tryd.sizeOf21
  v21 := Tryd.zeroValue21
  t37 := Tryd.underlying63
  a37 := Tryd.isAgg63
  z37 := Tryd.sizeOf63
  v37 := Tryd.zeroValue63
  t46 := Tryd.underlying31
  a46 := Tryd.isAgg31
  z46 := Tryd.sizeOf31
  v46 := Tryd.zeroValue31
  t51 := Tryd.underlying91
  a51 := Tryd.isAgg91
  z51 := Tryd.sizeOf91
  v51 := Tryd.zeroValue91
  t53 := Tryd.underlying115
  a53 := Tryd.isAgg115
  z53 := Tryd.sizeOf115
  v53 := Tryd.zeroValue115
  t75 := Tryd.underlying68
  a75 := Tryd.isAgg68
  z75 := Tryd.sizeOf68
  v75 := Tryd.zeroValue68
  t76 := Tryd.underlying70
  a76 := Tryd.isAgg70
  z76 := Tryd.sizeOf70
  v76 := Tryd.zeroValue70
  t85 := Tryd.underlying96
  a85 := Tryd.isAgg96
  z85 := Tryd.sizeOf96
  v85 := Tryd.zeroValue96
  t127 := Tryd.underlying79
  a127 := Tryd.isAgg79
  z127 := Tryd.sizeOf79
  v127 := Tryd.zeroValue79
  t143 := Tryd.underlying130
  a143 := Tryd.isAgg130
  z143 := Tryd.sizeOf130
  v143 := Tryd.zeroValue130
  t145 := Tryd.underlying132
  a145 := Tryd.isAgg132
  z145 := Tryd.sizeOf132
  v145 := Tryd.zeroValue132
  t167 := Tryd.underlying95
  a167 := Tryd.isAgg95
  z167 := Tryd.sizeOf95
  v167 := Tryd.zeroValue95
  t168 := Tryd.underlying98
  a168 := Tryd.isAgg98
  z168 := Tryd.sizeOf98
  v168 := Tryd.zeroValue98
  t171 := Tryd.underlying122
  a171 := Tryd.isAgg122
  z171 := Tryd.sizeOf122
  v171 := Tryd.zeroValue122
  t173 := Tryd.underlying125
  a173 := Tryd.isAgg125
  z173 := Tryd.sizeOf125
  v173 := Tryd.zeroValue125
  t175 := Tryd.underlying116
  a175 := Tryd.isAgg116
  z175 := Tryd.sizeOf116
  v175 := Tryd.zeroValue116
  t210 := Tryd.underlying120
  a210 := Tryd.isAgg120
  z210 := Tryd.sizeOf120
  v210 := Tryd.zeroValue120
  t212 := Tryd.underlying134
  a212 := Tryd.isAgg134
  z212 := Tryd.sizeOf134
  v212 := Tryd.zeroValue134
  t213 := Tryd.underlying135
  a213 := Tryd.isAgg135
  z213 := Tryd.sizeOf135
  t232 := Tryd.underlying139
  a232 := Tryd.isAgg139
  z232 := Tryd.sizeOf139
  v232 := Tryd.zeroValue139
  t233 := Tryd.underlying140
  a233 := Tryd.isAgg140
  z233 := Tryd.sizeOf140
  v233 := Tryd.zeroValue140
  g15 := by kernel_rfl
  g16 := by kernel_rfl
  g17 := by kernel_rfl
  g18 := by kernel_rfl
  g19 := by kernel_rfl
  t80 := Tryd.underlying72
  a80 := Tryd.isAgg72
  z80 := Tryd.sizeOf72
  v80 := Tryd.zeroValue72
  i0 := by kernel_rfl
  i2 := by kernel_rfl
  i3 := by kernel_rfl
  i4 := by kernel_rfl
  i5 := by kernel_rfl
  i9 := by kernel_rfl
  i20 := by kernel_rfl
  i21 := by kernel_rfl
  i37 := by kernel_rfl
  i46 := by kernel_rfl
  i51 := by kernel_rfl
  i53 := by kernel_rfl
  i75 := by kernel_rfl
  i76 := by kernel_rfl
  i80 := by kernel_rfl
  i85 := by kernel_rfl
  i127 := by kernel_rfl
  i143 := by kernel_rfl
  i145 := by kernel_rfl
  i167 := by kernel_rfl
  i168 := by kernel_rfl
  i171 := by kernel_rfl
  i173 := by kernel_rfl
  i175 := by kernel_rfl
  i210 := by kernel_rfl
  i212 := by kernel_rfl
  i232 := by kernel_rfl
  i233 := by kernel_rfl
  m15 := by kernel_rfl
  m16 := by kernel_rfl
  m17 := by kernel_rfl
  m18 := by kernel_rfl
  m19 := by kernel_rfl
  c0 := by kernel_rfl
  c2 := by kernel_rfl
  c3 := by kernel_rfl
  c4 := by kernel_rfl
  c5 := by kernel_rfl
  c9 := by kernel_rfl
  c20 := by kernel_rfl
  c21 := by kernel_rfl
  c37 := by kernel_rfl
  c46 := by kernel_rfl
  c51 := by kernel_rfl
  c53 := by kernel_rfl
  c75 := by kernel_rfl
  c76 := by kernel_rfl
  c80 := by kernel_rfl
  c85 := by kernel_rfl
  c127 := by kernel_rfl
  c143 := by kernel_rfl
  c145 := by kernel_rfl
  c167 := by kernel_rfl
  c168 := by kernel_rfl
  c171 := by kernel_rfl
  c173 := by kernel_rfl
  c175 := by kernel_rfl
  c210 := by kernel_rfl
  c212 := by kernel_rfl
  c213 := by kernel_rfl
  c232 := by kernel_rfl
  c233 := by kernel_rfl }
open Go.RowKit in
/-- strconv.Atoi, AT EVERY STRING THAT SPELLS AN int ('Lib.atoiAll .. = .ok v'; of whatever length: leading zeros count): v, AND NO ERROR. The world: as it was, or with the one new row that '[]byte(..)' lays. (LAID: no walk: one application.) -/
theorem Tryd.strconv_Atoi_ok (s : ByteArray) (hmax : s.size ≤ 9223372036854775806) (v : Int) (h : Lib.atoiAll s.data.toList = .ok v) (w : World) :
    Calls Tryd.prog 73 #[.string s] w fun e w' => e = .returned (.tuple #[.int .i64 v, .nilIface]) ∧ (w' = w ∨ ∃ t, w' = Lib.bytesWorld w 5 t) := Any.strconv_Atoi_ok Tryd.laysC172 s hmax v h w
open Go.RowKit in
theorem Tryd.strconv_Atoi_range_var (s : ByteArray) (hlim : s.size ≤ 281474976710656) (h : Lib.atoiAll s.data.toList = .range) (tp : TypeId) (p : Value) (w : World) (hvar : w.var? Tryd.prog "strconv.ErrRange" = some #[.iface tp p]) :
    Calls Tryd.prog 73 #[.string s] w fun e w' => ∃ N, e = .returned (.tuple #[.int .i64 (Lib.atoiSat s.data.toList), .iface 98 (.pointer (some ⟨N, 0, none⟩))]) ∧ w.heap.size ≤ N ∧ w'.heap[N]? = some (.cells #[.string ⟨#[65, 116, 111, 105]⟩, .string s, .iface tp p] 120 (0, 0)) ∧ Below w.heap.size w w' := Any.strconv_Atoi_range_var Tryd.laysC172 s hlim h tp p w hvar
def Tryd.lays138_ren : Go.Shelf.Ren := ⟨fun | 138 => 44 | 195 => 64 | 218 => 65 | 143 => 66 | 219 => 78 | 217 => 71 | 225 => 87 | 224 => 88 | 267 => 89 | 266 => 81 | 314 => 98 | n => n, fun | 9 => 9 | 3 => 3 | 4 => 4 | 5 => 5 | 0 => 0 | 46 => 31 | 146 => 113 | 51 => 91 | n => n, fun | 1 => 1 | n => n⟩
theorem Tryd.lays138 : Go.Proofs.Lays.n138 Tryd.prog Tryd.lays138_ren := {
  mixed := by kernel_rfl
  f138 := Tryd.func44.trans (congrArg some (by kernel_rfl))
  f143 := Tryd.func66.trans (congrArg some (by kernel_rfl))
  f195 := Tryd.func64.trans (congrArg some (by kernel_rfl))
  f217 := Tryd.func71.trans (congrArg some (by kernel_rfl))
  f218 := Tryd.func65.trans (congrArg some (by kernel_rfl))
  f219 := Tryd.func78.trans (congrArg some (by kernel_rfl))
  f224 := Tryd.func88.trans (congrArg some (by kernel_rfl))
  f225 := Tryd.func87.trans (congrArg some (by kernel_rfl))
  f266 := Tryd.func81.trans (congrArg some (by kernel_rfl))
  f267 := Tryd.func89.trans (congrArg some (by kernel_rfl))
  f314 := Tryd.func98.trans (congrArg some (by kernel_rfl))
  t0 := Tryd.underlying0
  a0 := Tryd.isAgg0
  z0 := Tryd.sizeOf0
  v0 := Tryd.zeroValue0
  t3 := Tryd.underlying3
  a3 := Tryd.isAgg3
  z3 := Tryd.sizeOf3
  v3 := Tryd.zeroValue3
  t4 := Tryd.underlying4
  a4 := Tryd.isAgg4
  z4 := Tryd.sizeOf4
  v4 := Tryd.zeroValue4
  t5 := Tryd.underlying5
  a5 := Tryd.isAgg5
  z5 := Tryd.sizeOf5
  v5 := Tryd.zeroValue5
  t9 := Tryd.underlying9
  a9 := Tryd.isAgg9
  z9 := Tryd.sizeOf9
  v9 := Tryd.zeroValue9
  t46 := Tryd.underlying31
  a46 := Tryd.isAgg31
  z46 := Tryd.sizeOf31
  v46 := Tryd.zeroValue31
  t51 := Tryd.underlying91
  a51 := Tryd.isAgg91
  z51 := Tryd.sizeOf91
  v51 := Tryd.zeroValue91
  t146 := Tryd.underlying113
  a146 := Tryd.isAgg113
  z146 := Tryd.sizeOf113
  v146 := Tryd.zeroValue113
  g1 := by kernel_rfl }
open Go.RowKit Go.Lib in
/-- strings.Count AT A substr OF ONE BYTE ('hp'): "Count counts the number of non-overlapping instances of substr in s.": IT RETURNS 'Lib.countByte s (that byte)'; the world is as it was. ✋ NO CONTRACT HERE YET at an empty substr (utf8.RuneCountInString) or at a longer one (a loop over strings.Index). (LAID: no walk: one application.) -/
theorem Tryd.strings_Count_one (s : ByteArray) (c : UInt8) (w : World) :
    Calls Tryd.prog 44 #[.string s, .string ⟨#[c]⟩] w fun e w' => e = .returned (.int .i64 (Lib.countByte s.data.toList c)) ∧ w' = w := Any.strings_Count_one Tryd.lays138 s c w
def Tryd.lays157_ren : Go.Shelf.Ren := ⟨fun | 157 => 63 | 229 => 76 | 199 => 77 | 261 => 86 | 311 => 96 | 312 => 97 | n => n, fun | 9 => 9 | 31 => 36 | 3 => 3 | 5 => 5 | 4 => 4 | 119 => 81 | 0 => 0 | 40 => 83 | 152 => 88 | 21 => 21 | 154 => 90 | 51 => 91 | 141 => 93 | 196 => 105 | 193 => 102 | 198 => 108 | 49 => 106 | 194 => 103 | 201 => 111 | 226 => 127 | 46 => 31 | 227 => 128 | n => n, fun | 0 => 0 | 6 => 2 | n => n⟩
theorem Tryd.lays157 : Go.Proofs.Lays.n157 Tryd.prog Tryd.lays157_ren := {
  mixed := by kernel_rfl
  f157 := Tryd.func63.trans (congrArg some (by kernel_rfl))
  f199 := Tryd.func77.trans (congrArg some (by kernel_rfl))
  f229 := Tryd.func76.trans (congrArg some (by kernel_rfl))
  f261 := Tryd.func86.trans (congrArg some (by kernel_rfl))
  f311 := Tryd.func96.trans (congrArg some (by kernel_rfl))
  f312 := Tryd.func97.trans (congrArg some (by kernel_rfl))
  t0 := Tryd.underlying0
  a0 := Tryd.isAgg0
  z0 := Tryd.sizeOf0
  v0 := Tryd.zeroValue0
  t3 := Tryd.underlying3
  a3 := Tryd.isAgg3
  z3 := Tryd.sizeOf3
  v3 := Tryd.zeroValue3
  t4 := Tryd.underlying4
  a4 := Tryd.isAgg4
  z4 := Tryd.sizeOf4
  v4 := Tryd.zeroValue4
  t5 := Tryd.underlying5
  a5 := Tryd.isAgg5
  z5 := Tryd.sizeOf5
  v5 := Tryd.zeroValue5
  t9 := Tryd.underlying9
  a9 := Tryd.isAgg9
  z9 := Tryd.sizeOf9
  v9 := Tryd.zeroValue9
  t21 := Tryd.underlying21
  a21 := Tryd.isAgg21
  z21 := Tryd.sizeOf21
  v21 := Tryd.zeroValue21
  t31 := Tryd.underlying36
  a31 := Tryd.isAgg36
  z31 := Tryd.sizeOf36
  v31 := Tryd.zeroValue36
  t40 := Tryd.underlying83
  a40 := Tryd.isAgg83
  z40 := Tryd.sizeOf83
  v40 := Tryd.zeroValue83
  t46 := Tryd.underlying31
  a46 := Tryd.isAgg31
  z46 := Tryd.sizeOf31
  v46 := Tryd.zeroValue31
  t49 := Tryd.underlying106
  a49 := Tryd.isAgg106
  z49 := Tryd.sizeOf106
  v49 := Tryd.zeroValue106
  t51 := Tryd.underlying91
  a51 := Tryd.isAgg91
  z51 := Tryd.sizeOf91
  v51 := Tryd.zeroValue91
  t119 := Tryd.underlying81
  a119 := Tryd.isAgg81
  z119 := Tryd.sizeOf81
  t141 := Tryd.underlying93
  a141 := Tryd.isAgg93
  z141 := Tryd.sizeOf93
  v141 := Tryd.zeroValue93
  t152 := Tryd.underlying88
  a152 := Tryd.isAgg88
  z152 := Tryd.sizeOf88
  v152 := Tryd.zeroValue88
  t154 := Tryd.underlying90
  a154 := Tryd.isAgg90
  z154 := Tryd.sizeOf90
  v154 := Tryd.zeroValue90
  t193 := Tryd.underlying102
  a193 := Tryd.isAgg102
  z193 := Tryd.sizeOf102
  v193 := Tryd.zeroValue102
  t194 := Tryd.underlying103
  a194 := Tryd.isAgg103
  z194 := Tryd.sizeOf103
  v194 := Tryd.zeroValue103
  t196 := Tryd.underlying105
  a196 := Tryd.isAgg105
  z196 := Tryd.sizeOf105
  v196 := Tryd.zeroValue105
  t198 := Tryd.underlying108
  a198 := Tryd.isAgg108
  z198 := Tryd.sizeOf108
  v198 := Tryd.zeroValue108
  t201 := Tryd.underlying111
  a201 := Tryd.isAgg111
  z201 := Tryd.sizeOf111
  v201 := Tryd.zeroValue111
  t226 := Tryd.underlying127
  a226 := Tryd.isAgg127
  z226 := Tryd.sizeOf127
  v226 := Tryd.zeroValue127
  t227 := Tryd.underlying128
  a227 := Tryd.isAgg128
  z227 := Tryd.sizeOf128
  v227 := Tryd.zeroValue128
  g0 := by kernel_rfl
  g6 := by kernel_rfl }
open Go.RowKit Go.Lib in
/-- strings.Fields, the table by 'Lib.TabIs' (as strings.TrimSpace's contract). 'hg': the table's number, by its name: at a dump 'by kernel_rfl'. (LAID: no walk: one application.) -/
theorem Tryd.strings_Fields (s : ByteArray) (w : World) (hs : s.size < 4294967281) (hascii : ∀ (j : Nat) b, s.data.toList[j]? = some b → b.toNat < 128) (htab : Lib.TabIs Tryd.prog w "strings.asciiSpace" .u8 Lib.asciiSpaceTab) :
    Calls Tryd.prog 63 #[.string s] w fun e w' =>
      e = .returned (.slice (some ⟨w.heap.size, 0, none⟩) (Lib.fields s.data.toList).length (Lib.fields s.data.toList).length) ∧ w' = w.alloc (.cells ((Lib.fields s.data.toList).map fun l => Value.string ⟨l.toArray⟩).toArray 9) := Any.strings_Fields Tryd.lays157 (by kernel_rfl) (by kernel_rfl) s w hs hascii htab
end Go.Proofs

/- The words. -/
set_option maxRecDepth 100000
set_option linter.unusedVariables false
set_option linter.unusedSimpArgs false
namespace Go.Proofs.YtkcljempplchkaaDoor
open Go.Eng Go.RowKit

/-- What is taken for granted: the library's tables hold what they are laid with. -/
def lexL (base : Nat) (w0 : World) : Prop := 6 ≤ base ∧ Lib.TabIs Tryd.prog w0 "strings.asciiSpace" .u8 Lib.asciiSpaceTab ∧ Lib.TabIs Tryd.prog w0 "internal/strconv.uint64pow10" .u64 Lib.pow10Tab ∧
  (∃ tp p, w0.var? Tryd.prog "strconv.ErrSyntax" = some #[.iface tp p]) ∧ ∃ tp p, w0.var? Tryd.prog "strconv.ErrRange" = some #[.iface tp p]
abbrev lexC : Cfg := ⟨False, lexL⟩

theorem tab_below {base : Nat} {w0 w : World} {name : String} {k : IntKind} {zs : List Int} {g : Nat} (hg : Tryd.prog.globalNamed name = some g) (hlt : g < base) (hb : Below base w0 w) (h : Lib.TabIs Tryd.prog w0 name k zs) : Lib.TabIs Tryd.prog w name k zs := by
  unfold Lib.TabIs World.var? at *
  rw [hg] at h ⊢
  simp only [Option.bind_some] at h ⊢
  rw [hb.block g hlt]
  exact h

theorem lib_calls {O : Cfg} {f : FuncId} {fn : Func} {args : List AVal} {H : Hp} {Q : ARet → Hp → Prop} (hf : Tryd.prog.funcs[f]? = some fn) (hn : (fn.name == "runtime.NumGoroutine") = false) (hb : fn.body.isNone = false)
    (h : ∀ base w0 G w vs, O.L base w0 → Wr base w0 H G w → Reps G w args vs → Calls Tryd.prog f (List.toArray vs) w (RMeets O base w0 H G w Q)) : ACalls O Tryd.prog f args H Q := by
  intro base w0 G w vs hL hw hvs
  refine .inl ⟨?_, h base w0 G w vs hL hw hvs⟩
  simp only [callFunc, Sem.run_bind, run_program, Result.andThen_ok, hf, hn, hb]
  rfl

theorem reps_one {G : Gh} {w : World} {a : AVal} {vs : List Value} (h : Reps G w [a] vs) : ∃ u, vs = [u] ∧ Rep G w a u := by
  match vs, h with
  | [u], h => exact ⟨u, rfl, h.head⟩
  | [], h => have := h.1; simp at this
  | _ :: _ :: _, h => have := h.1; simp at this

theorem strRows_flatten (l : List (List UInt8)) : (strRows l).flatten = l.map AVal.str := by
  induction l with
  | nil => rfl
  | cons x l ih =>
    have : strRows (x :: l) = [.str x] :: strRows l := rfl
    rw [this, List.flatten_cons, ih]
    rfl

theorem strRows_len (l : List (List UInt8)) : (strRows l).length = l.length := by simp [strRows]

theorem Fields_pure (s : List UInt8) (hs : s.length < 4294967281) (ha : ∀ b ∈ s, b.toNat < 128) : PureCall lexC f_Fields [.str s] (.sl (strRows (Lib.fields s)) .full) := fun H => by
  refine lib_calls Tryd.func63 (by kernel_rfl) (by kernel_rfl) ?_
  intro base w0 G w vs hL hw hvs
  obtain ⟨u, rfl, hu⟩ := reps_one hvs
  rw [hu.str_inv]
  have htab := tab_below (by kernel_rfl : Tryd.prog.globalNamed "strings.asciiSpace" = some 0) (by have := hL.1; omega) hw.below hL.2.1
  refine (Tryd.strings_Fields ⟨s.toArray⟩ w (by simpa [ByteArray.size] using hs) (fun j b hb => ha b (List.mem_of_getElem? (by simpa using hb))) htab).mono ?_
  rintro e w' ⟨rfl, rfl⟩
  have hreps : Reps G w (strRows (Lib.fields s)).flatten ((Lib.fields s).map fun l => Value.string ⟨l.toArray⟩) := by
    rw [strRows_flatten]
    refine ⟨by simp, fun i a v h1 h2 => ?_⟩
    rw [List.getElem?_map] at h1 h2
    cases hx : (Lib.fields s)[i]? with
    | none => simp [hx] at h1
    | some x =>
      simp only [hx, Option.map_some, Option.some.injEq] at h1 h2
      subst h1; subst h2
      exact .str x
  obtain ⟨k1, k2, k3⟩ := runs_newRow (e := 9) (fr := (0, 0)) (cap := (Lib.fields s).length) (tk := .full) (sz := 1) (rows := strRows (Lib.fields s)) hw (fun r hr => by
    obtain ⟨x, _, rfl⟩ := List.mem_map.1 hr; rfl) hreps (cs := ((Lib.fields s).map fun l => Value.string ⟨l.toArray⟩).toArray) (fun i v hv => by simpa using hv) (by rw [strRows_len]; exact Nat.le_refl _) (.inr (.inl ⟨rfl, by rw [strRows_len]⟩))
  refine ⟨_, H, G, ?_, ⟨rfl, rfl⟩, k2, k3, Fr.alloc _⟩
  rw [strRows_len] at k1
  exact k1

def wordsText : List UInt8 := [99, 97, 115, 101, 32, 99, 108, 97, 115, 115, 32, 100, 97, 116, 97, 32, 100, 101, 114, 105, 118, 105, 110, 103, 32, 100, 111, 32, 101, 108, 115, 101, 32, 102, 97, 109, 105, 108, 121, 32, 102, 111, 114, 97, 108, 108, 32, 105, 102, 32, 105, 109, 112, 111, 114, 116, 32, 105, 110, 32, 105, 110, 102, 105, 120, 32, 105, 110, 102, 105, 120, 108, 32, 105, 110, 102, 105, 120, 114, 32, 105, 110, 115, 116, 97, 110, 99, 101, 32, 108, 101, 116, 32, 109, 111, 100, 117, 108, 101, 32, 110, 101, 119, 116, 121, 112, 101, 32, 111, 102, 32, 116, 104, 101, 110, 32, 119, 104, 101, 114, 101]
def words : List (List UInt8) := [[99, 97, 115, 101], [99, 108, 97, 115, 115], [100, 97, 116, 97], [100, 101, 114, 105, 118, 105, 110, 103], [100, 111], [101, 108, 115, 101], [102, 97, 109, 105, 108, 121], [102, 111, 114, 97, 108, 108], [105, 102], [105, 109, 112, 111, 114, 116], [105, 110], [105, 110, 102, 105, 120], [105, 110, 102, 105, 120, 108], [105, 110, 102, 105, 120, 114], [105, 110, 115, 116, 97, 110, 99, 101], [108, 101, 116], [109, 111, 100, 117, 108, 101], [110, 101, 119, 116, 121, 112, 101], [111, 102], [116, 104, 101, 110], [119, 104, 101, 114, 101]]
theorem fields_words : Lib.fields wordsText = words := by kernel_rfl

theorem words_pure : PureCall lexC f_words [] (.sl (strRows words) .full) := fun H => by
  refine entry h_words rfl ?_; simp -implicitDefEqProofs only [go_sem, Nat.reduceAdd, Nat.reduceLeDiff, Nat.reduceEqDiff, Nat.reduceBEq, Nat.reduceLT, c_words]
  refine go ?_; simp -implicitDefEqProofs only [go_sem, Nat.reduceAdd, Nat.reduceLeDiff, Nat.reduceEqDiff, Nat.reduceBEq, Nat.reduceLT]
  have := Fields_pure wordsText (by decide) (by decide)
  rw [fields_words] at this
  refine PureCall.step this ?_; simp -implicitDefEqProofs only [go_sem, Nat.reduceAdd, Nat.reduceLeDiff, Nat.reduceEqDiff, Nat.reduceBEq, Nat.reduceLT]
  refine go ?_; simp -implicitDefEqProofs only [go_sem, Nat.reduceAdd, Nat.reduceLeDiff, Nat.reduceEqDiff, Nat.reduceBEq, Nat.reduceLT]

def isWord (s : List UInt8) : Bool := words.contains s
theorem isWord_pure (s : List UInt8) : PureCall lexC f_isWord [.str s] (.bool (isWord s)) := fun H => by
  refine entry h_isWord rfl ?_; simp -implicitDefEqProofs only [go_sem, Nat.reduceAdd, Nat.reduceLeDiff, Nat.reduceEqDiff, Nat.reduceBEq, Nat.reduceLT, c_isWord]
  repeat' (first
    | (refine PureCall.step words_pure ?_; simp -implicitDefEqProofs only [go_sem, Nat.reduceAdd, Nat.reduceLeDiff, Nat.reduceEqDiff, Nat.reduceBEq, Nat.reduceLT])
    | (refine PureCall.step (contains_pure _ (by decide) _ _) ?_; simp -implicitDefEqProofs only [go_sem, Nat.reduceAdd, Nat.reduceLeDiff, Nat.reduceEqDiff, Nat.reduceBEq, Nat.reduceLT])
    | (refine go ?_; try simp -implicitDefEqProofs only [go_sem, Nat.reduceAdd, Nat.reduceLeDiff, Nat.reduceEqDiff, Nat.reduceBEq, Nat.reduceLT]) | fail)
  rfl

end Go.Proofs.YtkcljempplchkaaDoor

/- Names. -/
set_option maxRecDepth 100000
set_option linter.unusedVariables false
set_option linter.unusedSimpArgs false
namespace Go.Proofs.YtkcljempplchkaaDoor
open Go.Eng

/-- What a name begins with, and how long it is. -/
def nameHead (s : List UInt8) : Bool := !(sEq s [] || iLt 16 (sLen s) || (!(small (s.headD 0)) && !(capital (s.headD 0))) || isWord s)
def isName (s : List UInt8) : Bool := nameHead s && s.all inName

theorem ixK_zero (b : UInt8) (s : List UInt8) : ixK (b :: s) 0 = some (.int .u8 (uC b)) := by simp [ixK]
theorem sEq_cons_nil (b : UInt8) (s : List UInt8) : sEq (b :: s) [] = false := by simp [sEq]

theorem isName_pure (s : List UInt8) : PureCall lexC f_isName [.str s] (.bool (isName s)) := fun H => by
  refine entry h_isName rfl ?_; simp -implicitDefEqProofs only [go_sem, Nat.reduceAdd, Nat.reduceLeDiff, Nat.reduceEqDiff, Nat.reduceBEq, Nat.reduceLT, c_isName]
  refine AC.cut (fun st => nameHead s = true ∧ st = ⟨mk 38 [(0, .str s)], H, []⟩) ?_ ?_
  · cases s with
    | nil =>
      refine go ?_; simp -implicitDefEqProofs only [go_sem, Nat.reduceAdd, Nat.reduceLeDiff, Nat.reduceEqDiff, Nat.reduceBEq, Nat.reduceLT, sEq_self]
      repeat' (first
        | (refine go ?_; try simp -implicitDefEqProofs only [go_sem, Nat.reduceAdd, Nat.reduceLeDiff, Nat.reduceEqDiff, Nat.reduceBEq, Nat.reduceLT]) | fail)
      simp [isName, nameHead, sEq_self]
    | cons b s =>
      refine go ?_; simp -implicitDefEqProofs only [go_sem, Nat.reduceAdd, Nat.reduceLeDiff, Nat.reduceEqDiff, Nat.reduceBEq, Nat.reduceLT, sEq_cons_nil, ixK_zero]
      repeat' (first
        | (refine PureCall.step (isSmall_pure _) ?_; simp -implicitDefEqProofs only [go_sem, Nat.reduceAdd, Nat.reduceLeDiff, Nat.reduceEqDiff, Nat.reduceBEq, Nat.reduceLT, ixK_zero])
        | (refine PureCall.step (isCapital_pure _) ?_; simp -implicitDefEqProofs only [go_sem, Nat.reduceAdd, Nat.reduceLeDiff, Nat.reduceEqDiff, Nat.reduceBEq, Nat.reduceLT, ixK_zero])
        | (refine PureCall.step (isWord_pure _) ?_; simp -implicitDefEqProofs only [go_sem, Nat.reduceAdd, Nat.reduceLeDiff, Nat.reduceEqDiff, Nat.reduceBEq, Nat.reduceLT, ixK_zero])
        | (refine wpC_split rfl rfl (fun h => ?_) (fun h => ?_) <;> simp -implicitDefEqProofs only [go_sem, Nat.reduceAdd, Nat.reduceLeDiff, Nat.reduceEqDiff, Nat.reduceBEq, Nat.reduceLT])
        | (refine plan_split rfl rfl (fun h => ?_) (fun h => ?_) <;> simp -implicitDefEqProofs only [go_sem, Nat.reduceAdd, Nat.reduceLeDiff, Nat.reduceEqDiff, Nat.reduceBEq, Nat.reduceLT, ixK_zero, h])
        | (refine go ?_; try simp -implicitDefEqProofs only [go_sem, Nat.reduceAdd, Nat.reduceLeDiff, Nat.reduceEqDiff, Nat.reduceBEq, Nat.reduceLT]) | fail)
      all_goals first
        | exact ⟨by simp_all [nameHead, bNot_true, bNot_false, sEq_cons_nil], rfl⟩
        | simp_all [isName, nameHead, bNot_true, bNot_false, sEq_cons_nil]
  · rintro _ ⟨hh, rfl⟩
    refine go ?_; simp -implicitDefEqProofs only [go_sem, Nat.reduceAdd, Nat.reduceLeDiff, Nat.reduceEqDiff, Nat.reduceBEq, Nat.reduceLT]
    refine go ?_; simp -implicitDefEqProofs only [go_sem, Nat.reduceAdd, Nat.reduceLeDiff, Nat.reduceEqDiff, Nat.reduceBEq, Nat.reduceLT]
    have hlen : s.length ≤ 16 := by
      simp only [nameHead, Bool.not_eq_true', Bool.or_eq_false_iff] at hh
      have := iLt_false.1 hh.1.1.2
      rw [sLen_eq] at this
      omega
    rw [wpC_loop]
    refine AC.loop (fun n st => ∃ i : Nat, i + n = s.length ∧ (s.take i).all inName = true ∧ st = ⟨mk 38 [(0, .str s), (28, .int .i64 (sLen s)), (29, .int .i64 i)], H, []⟩) s.length ⟨0, by omega, rfl, rfl⟩ ?_
    rintro n _ ⟨i, hi, hall, rfl⟩
    simp -implicitDefEqProofs only [go_sem, Nat.reduceAdd, Nat.reduceLeDiff, Nat.reduceEqDiff, Nat.reduceBEq, Nat.reduceLT, l_isName_0]
    repeat' (first
      | (refine wpC_split rfl rfl (fun h => ?_) (fun h => ?_) <;> simp -implicitDefEqProofs only [go_sem, Nat.reduceAdd, Nat.reduceLeDiff, Nat.reduceEqDiff, Nat.reduceBEq, Nat.reduceLT])
      | (refine go ?_; try simp -implicitDefEqProofs only [go_sem, Nat.reduceAdd, Nat.reduceLeDiff, Nat.reduceEqDiff, Nat.reduceBEq, Nat.reduceLT]) | fail)
    · rw [iLt_true, sLen_eq] at h
      have hlt : i < s.length := by omega
      obtain ⟨b, hb⟩ : ∃ b, s[i]? = some b := ⟨_, List.getElem?_eq_getElem hlt⟩
      simp -implicitDefEqProofs only [go_sem, Nat.reduceAdd, Nat.reduceLeDiff, Nat.reduceEqDiff, Nat.reduceBEq, Nat.reduceLT, ixK_at hb]
      refine PureCall.step (isNameByte_pure _) ?_; simp -implicitDefEqProofs only [go_sem, Nat.reduceAdd, Nat.reduceLeDiff, Nat.reduceEqDiff, Nat.reduceBEq, Nat.reduceLT]
      have e : wAdd .i64 (i : Int) 1 = ((i + 1 : Nat) : Int) := by rw [wAdd_i64] <;> omega
      repeat' (first
        | (refine wpC_split rfl rfl (fun h => ?_) (fun h => ?_) <;> simp -implicitDefEqProofs only [go_sem, Nat.reduceAdd, Nat.reduceLeDiff, Nat.reduceEqDiff, Nat.reduceBEq, Nat.reduceLT])
        | (refine go ?_; try simp -implicitDefEqProofs only [go_sem, Nat.reduceAdd, Nat.reduceLeDiff, Nat.reduceEqDiff, Nat.reduceBEq, Nat.reduceLT]) | fail)
      · have h1 := bNot_true.1 h
        congr 2
        symm
        simp only [isName, Bool.and_eq_false_iff, List.all_eq_false]
        exact .inr ⟨b, List.mem_of_getElem? hb, by simp [h1]⟩
      · have h1 := bNot_false.1 h
        refine ⟨n - 1, by omega, i + 1, by omega, ?_, by rw [e]⟩
        rw [List.take_add_one, hb]
        simp [hall, h1]
    · rw [iLt_false, sLen_eq] at h
      have : i = s.length := by omega
      subst this
      rw [List.take_length] at hall
      simp [isName, hh, hall]

theorem nameHead_ne {s : List UInt8} (h : nameHead s = true) : ∃ b t, s = b :: t := by
  cases s with
  | nil => simp [nameHead, sEq_self] at h
  | cons b t => exact ⟨b, t, rfl⟩

def IsSmall (s : List UInt8) : Bool := isName s && small (s.headD 0)
def IsCapital (s : List UInt8) : Bool := isName s && capital (s.headD 0)

theorem IsSmall_pure (s : List UInt8) : PureCall lexC f_IsSmall [.str s] (.bool (IsSmall s)) := fun H => by
  refine entry h_IsSmall rfl ?_; simp -implicitDefEqProofs only [go_sem, Nat.reduceAdd, Nat.reduceLeDiff, Nat.reduceEqDiff, Nat.reduceBEq, Nat.reduceLT, c_IsSmall]
  refine go ?_; simp -implicitDefEqProofs only [go_sem, Nat.reduceAdd, Nat.reduceLeDiff, Nat.reduceEqDiff, Nat.reduceBEq, Nat.reduceLT]
  refine PureCall.step (isName_pure _) ?_; simp -implicitDefEqProofs only [go_sem, Nat.reduceAdd, Nat.reduceLeDiff, Nat.reduceEqDiff, Nat.reduceBEq, Nat.reduceLT]
  refine plan_split rfl rfl (fun h => ?_) (fun h => ?_) <;> simp -implicitDefEqProofs only [go_sem, Nat.reduceAdd, Nat.reduceLeDiff, Nat.reduceEqDiff, Nat.reduceBEq, Nat.reduceLT, h]
  · obtain ⟨b, t, rfl⟩ := nameHead_ne (by simp only [isName, Bool.and_eq_true] at h; exact h.1)
    simp -implicitDefEqProofs only [go_sem, Nat.reduceAdd, Nat.reduceLeDiff, Nat.reduceEqDiff, Nat.reduceBEq, Nat.reduceLT, ixK_zero]
    refine PureCall.step (isSmall_pure _) ?_; simp -implicitDefEqProofs only [go_sem, Nat.reduceAdd, Nat.reduceLeDiff, Nat.reduceEqDiff, Nat.reduceBEq, Nat.reduceLT]
    refine go ?_; simp -implicitDefEqProofs only [go_sem, Nat.reduceAdd, Nat.reduceLeDiff, Nat.reduceEqDiff, Nat.reduceBEq, Nat.reduceLT]
    simp [IsSmall, h]
  · refine go ?_; simp -implicitDefEqProofs only [go_sem, Nat.reduceAdd, Nat.reduceLeDiff, Nat.reduceEqDiff, Nat.reduceBEq, Nat.reduceLT]
    simp [IsSmall, h]

theorem IsCapital_pure (s : List UInt8) : PureCall lexC f_IsCapital [.str s] (.bool (IsCapital s)) := fun H => by
  refine entry h_IsCapital rfl ?_; simp -implicitDefEqProofs only [go_sem, Nat.reduceAdd, Nat.reduceLeDiff, Nat.reduceEqDiff, Nat.reduceBEq, Nat.reduceLT, c_IsCapital]
  refine go ?_; simp -implicitDefEqProofs only [go_sem, Nat.reduceAdd, Nat.reduceLeDiff, Nat.reduceEqDiff, Nat.reduceBEq, Nat.reduceLT]
  refine PureCall.step (isName_pure _) ?_; simp -implicitDefEqProofs only [go_sem, Nat.reduceAdd, Nat.reduceLeDiff, Nat.reduceEqDiff, Nat.reduceBEq, Nat.reduceLT]
  refine plan_split rfl rfl (fun h => ?_) (fun h => ?_) <;> simp -implicitDefEqProofs only [go_sem, Nat.reduceAdd, Nat.reduceLeDiff, Nat.reduceEqDiff, Nat.reduceBEq, Nat.reduceLT, h]
  · obtain ⟨b, t, rfl⟩ := nameHead_ne (by simp only [isName, Bool.and_eq_true] at h; exact h.1)
    simp -implicitDefEqProofs only [go_sem, Nat.reduceAdd, Nat.reduceLeDiff, Nat.reduceEqDiff, Nat.reduceBEq, Nat.reduceLT, ixK_zero]
    refine PureCall.step (isCapital_pure _) ?_; simp -implicitDefEqProofs only [go_sem, Nat.reduceAdd, Nat.reduceLeDiff, Nat.reduceEqDiff, Nat.reduceBEq, Nat.reduceLT]
    refine go ?_; simp -implicitDefEqProofs only [go_sem, Nat.reduceAdd, Nat.reduceLeDiff, Nat.reduceEqDiff, Nat.reduceBEq, Nat.reduceLT]
    simp [IsCapital, h]
  · refine go ?_; simp -implicitDefEqProofs only [go_sem, Nat.reduceAdd, Nat.reduceLeDiff, Nat.reduceEqDiff, Nat.reduceBEq, Nat.reduceLT]
    simp [IsCapital, h]

end Go.Proofs.YtkcljempplchkaaDoor

/- The reference: lists and bytes. -/
set_option maxRecDepth 100000
set_option linter.unusedVariables false
set_option linter.unusedSimpArgs false
namespace Go.Proofs.YtkcljempplchkaaDoor
open Go.Eng

section
variable {O : Cfg}

theorem sEq_comm (a b : List UInt8) : sEq a b = sEq b a := by simp [sEq, Bool.beq_comm]

theorem rhas_pure (l : List (List UInt8)) (hl : l.length < 1000000) (t : Tok) (w : List UInt8) : PureCall O f_rhas [.sl (strRows l) t, .str w] (.bool (l.contains w)) := fun H => by
  refine entry h_rhas rfl ?_; simp -implicitDefEqProofs only [go_sem, Nat.reduceAdd, Nat.reduceLeDiff, Nat.reduceEqDiff, Nat.reduceBEq, Nat.reduceLT, c_rhas]
  repeat' (first
    | (refine go ?_; try simp -implicitDefEqProofs only [go_sem, Nat.reduceAdd, Nat.reduceLeDiff, Nat.reduceEqDiff, Nat.reduceBEq, Nat.reduceLT]) | fail)
  rw [wpC_loop]
  refine AC.loop (fun n st => ∃ i : Nat, i + n = l.length ∧ (∀ j x, j < i → l[j]? = some x → sEq x w = false) ∧ st = ⟨mk 17 [(1, .str w), (7, .sl (strRows l) t), (8, .int .i64 (rLen (strRows l))), (9, .int .i64 i)], H, []⟩) l.length ⟨0, by omega, fun j x hj => by omega, rfl⟩ ?_
  rintro n _ ⟨i, hi, hall, rfl⟩
  simp -implicitDefEqProofs only [go_sem, Nat.reduceAdd, Nat.reduceLeDiff, Nat.reduceEqDiff, Nat.reduceBEq, Nat.reduceLT, l_rhas_0]
  repeat' (first
    | (refine wpC_split rfl rfl (fun h => ?_) (fun h => ?_) <;> simp -implicitDefEqProofs only [go_sem, Nat.reduceAdd, Nat.reduceLeDiff, Nat.reduceEqDiff, Nat.reduceBEq, Nat.reduceLT])
    | (refine go ?_; try simp -implicitDefEqProofs only [go_sem, Nat.reduceAdd, Nat.reduceLeDiff, Nat.reduceEqDiff, Nat.reduceBEq, Nat.reduceLT]) | fail)
  · rw [iLt_true, rLen_str] at h
    have hlt : i < l.length := by omega
    obtain ⟨b, hb⟩ : ∃ b, l[i]? = some b := ⟨_, List.getElem?_eq_getElem hlt⟩
    simp -implicitDefEqProofs only [go_sem, Nat.reduceAdd, Nat.reduceLeDiff, Nat.reduceEqDiff, Nat.reduceBEq, Nat.reduceLT, iaddrA_str hb]
    have e : wAdd .i64 (i : Int) 1 = ((i + 1 : Nat) : Int) := by rw [wAdd_i64] <;> omega
    repeat' (first
      | (refine wpC_split rfl rfl (fun h => ?_) (fun h => ?_) <;> simp -implicitDefEqProofs only [go_sem, Nat.reduceAdd, Nat.reduceLeDiff, Nat.reduceEqDiff, Nat.reduceBEq, Nat.reduceLT])
      | (refine go ?_; try simp -implicitDefEqProofs only [go_sem, Nat.reduceAdd, Nat.reduceLeDiff, Nat.reduceEqDiff, Nat.reduceBEq, Nat.reduceLT]) | fail)
    · congr 2
      symm
      rw [sEq_true] at h
      exact List.contains_iff_mem.2 (h ▸ List.mem_of_getElem? hb)
    · have hne := h
      refine ⟨n - 1, by omega, i + 1, by omega, ?_, by rw [e]⟩
      intro j x hj hx
      rcases Nat.lt_or_ge j i with hji | hji
      · exact hall j x hji hx
      · have : j = i := by omega
        subst this
        rw [hb] at hx; cases hx
        exact hne
  · rw [iLt_false, rLen_str] at h
    congr 2
    symm
    rw [Bool.eq_false_iff]
    intro hc
    obtain ⟨j, hj⟩ := List.mem_iff_getElem?.1 (List.contains_iff_mem.1 hc)
    have := hall j w (by have := (List.getElem?_eq_some_iff.1 hj).1; omega) hj
    rw [sEq_self] at this
    cases this

theorem rWords_pure : PureCall O f_rWords [] (.sl (strRows words) .full) := fun H => by
  refine entry h_rWords rfl ?_; simp -implicitDefEqProofs only [go_sem, Nat.reduceAdd, Nat.reduceLeDiff, Nat.reduceEqDiff, Nat.reduceBEq, Nat.reduceLT, c_rWords]
  repeat' (first
    | (refine go ?_; try simp -implicitDefEqProofs only [go_sem, Nat.reduceAdd, Nat.reduceLeDiff, Nat.reduceEqDiff, Nat.reduceBEq, Nat.reduceLT]) | fail)
  rfl

def rruns : List (List UInt8) := [[61], [45, 62], [61, 62], [60, 45], [58], [124], [92], [64], [126], [33], [46]]
theorem rruns_pure : PureCall O f_rruns [] (.sl (strRows rruns) .full) := fun H => by
  refine entry h_rruns rfl ?_; simp -implicitDefEqProofs only [go_sem, Nat.reduceAdd, Nat.reduceLeDiff, Nat.reduceEqDiff, Nat.reduceBEq, Nat.reduceLT, c_rruns]
  repeat' (first
    | (refine go ?_; try simp -implicitDefEqProofs only [go_sem, Nat.reduceAdd, Nat.reduceLeDiff, Nat.reduceEqDiff, Nat.reduceBEq, Nat.reduceLT]) | fail)
  rfl

def rbytes : List (List UInt8) := [[40], [41], [123], [125], [44], [59], [95], [39]]
theorem rbytes_pure : PureCall O f_rbytes [] (.sl (strRows rbytes) .full) := fun H => by
  refine entry h_rbytes rfl ?_; simp -implicitDefEqProofs only [go_sem, Nat.reduceAdd, Nat.reduceLeDiff, Nat.reduceEqDiff, Nat.reduceBEq, Nat.reduceLT, c_rbytes]
  repeat' (first
    | (refine go ?_; try simp -implicitDefEqProofs only [go_sem, Nat.reduceAdd, Nat.reduceLeDiff, Nat.reduceEqDiff, Nat.reduceBEq, Nat.reduceLT]) | fail)
  rfl

theorem rkinds_pure : PureCall O f_rkinds [] (.sl [[.int .i64 1], [.int .i64 2], [.int .i64 6], [.int .i64 4]] .full) := fun H => by
  refine entry h_rkinds rfl ?_; simp -implicitDefEqProofs only [go_sem, Nat.reduceAdd, Nat.reduceLeDiff, Nat.reduceEqDiff, Nat.reduceBEq, Nat.reduceLT, c_rkinds]
  repeat' (first
    | (refine go ?_; try simp -implicitDefEqProofs only [go_sem, Nat.reduceAdd, Nat.reduceLeDiff, Nat.reduceEqDiff, Nat.reduceBEq, Nat.reduceLT]) | fail)

/-- Bytes as rows. -/
def byteRows (l : List UInt8) : List (List AVal) := l.map fun c => [.int .u8 (uC c)]
theorem iaddrA_byte {l : List UInt8} {i : Nat} {c : UInt8} (h : l[i]? = some c) : iaddrA 1 (byteRows l) (i : Int) = some (.ip [.int .u8 (uC c)]) := by
  simp [iaddrA, byteRows, h]
theorem rLen_byte (l : List UInt8) : rLen (byteRows l) = (l.length : Int) := by simp [rLen, byteRows]

theorem uC_inj {a b : UInt8} (h : uC a = uC b) : a = b := by
  unfold uC at h
  exact UInt8.toNat_inj.1 (by omega)

theorem inOp_iff (c : UInt8) : inOp c = opBytes.contains c := by
  unfold inOp
  have key : ∀ l : List UInt8, iLe 0 (Lib.indexByte l c) = l.contains c := by
    intro l
    induction l with
    | nil => rfl
    | cons b l ih =>
      rw [Lib.indexByte, List.contains_cons]
      by_cases hb : b = c
      · subst hb; simp [iLe]
      · have h1 : (b == c) = false := by simpa using hb
        have h2 : (c == b) = false := by simpa using fun h => hb h.symm
        simp only [h1, h2, Bool.false_eq_true, if_false, Bool.false_or]
        rw [← ih]
        have := Lib.indexByte_ge l c
        split
        · rename_i h; simp only [beq_iff_eq] at h; rw [h]; 
        · rename_i h
          simp only [beq_iff_eq] at h
          have h3 : 0 ≤ Lib.indexByte l c := by omega
          simp only [iLe]
          rw [decide_eq_true (by omega : 0 ≤ Lib.indexByte l c + 1), decide_eq_true h3]
  exact key _

theorem rinOp_pure (c : UInt8) : PureCall O f_rinOp [.int .u8 (uC c)] (.bool (inOp c)) := fun H => by
  refine entry h_rinOp rfl ?_; simp -implicitDefEqProofs only [go_sem, Nat.reduceAdd, Nat.reduceLeDiff, Nat.reduceEqDiff, Nat.reduceBEq, Nat.reduceLT, c_rinOp]
  repeat' (first
    | (refine go ?_; try simp -implicitDefEqProofs only [go_sem, Nat.reduceAdd, Nat.reduceLeDiff, Nat.reduceEqDiff, Nat.reduceBEq, Nat.reduceLT]) | fail)
  rw [wpC_loop]
  refine AC.loop (fun n st => ∃ i : Nat, i + n = opBytes.length ∧ (∀ j x, j < i → opBytes[j]? = some x → x ≠ c) ∧ st = ⟨mk 16 [(0, .int .u8 (uC c)), (6, .sl (byteRows opBytes) .frz), (7, .int .i64 (rLen (byteRows opBytes))), (8, .int .i64 i)], H, []⟩) opBytes.length ⟨0, by omega, fun j x hj => by omega, rfl⟩ ?_
  rintro n _ ⟨i, hi, hall, rfl⟩
  simp -implicitDefEqProofs only [go_sem, Nat.reduceAdd, Nat.reduceLeDiff, Nat.reduceEqDiff, Nat.reduceBEq, Nat.reduceLT, l_rinOp_0]
  have hlen : opBytes.length = 20 := rfl
  repeat' (first
    | (refine wpC_split rfl rfl (fun h => ?_) (fun h => ?_) <;> simp -implicitDefEqProofs only [go_sem, Nat.reduceAdd, Nat.reduceLeDiff, Nat.reduceEqDiff, Nat.reduceBEq, Nat.reduceLT])
    | (refine go ?_; try simp -implicitDefEqProofs only [go_sem, Nat.reduceAdd, Nat.reduceLeDiff, Nat.reduceEqDiff, Nat.reduceBEq, Nat.reduceLT]) | fail)
  · rw [iLt_true, rLen_byte] at h
    have hlt : i < opBytes.length := by omega
    obtain ⟨b, hb⟩ : ∃ b, opBytes[i]? = some b := ⟨_, List.getElem?_eq_getElem hlt⟩
    simp -implicitDefEqProofs only [go_sem, Nat.reduceAdd, Nat.reduceLeDiff, Nat.reduceEqDiff, Nat.reduceBEq, Nat.reduceLT, iaddrA_byte hb]
    have e : wAdd .i64 (i : Int) 1 = ((i + 1 : Nat) : Int) := by rw [wAdd_i64] <;> omega
    repeat' (first
      | (refine wpC_split rfl rfl (fun h => ?_) (fun h => ?_) <;> simp -implicitDefEqProofs only [go_sem, Nat.reduceAdd, Nat.reduceLeDiff, Nat.reduceEqDiff, Nat.reduceBEq, Nat.reduceLT])
      | (refine go ?_; try simp -implicitDefEqProofs only [go_sem, Nat.reduceAdd, Nat.reduceLeDiff, Nat.reduceEqDiff, Nat.reduceBEq, Nat.reduceLT]) | fail)
    · congr 2
      symm
      have := uC_inj (iEq_true.1 h)
      rw [inOp_iff, this]
      exact List.contains_iff_mem.2 (List.mem_of_getElem? hb)
    · have hne := iEq_false.1 h
      refine ⟨n - 1, by omega, i + 1, by omega, ?_, by rw [e]⟩
      intro j x hj hx
      rcases Nat.lt_or_ge j i with hji | hji
      · exact hall j x hji hx
      · have : j = i := by omega
        subst this
        rw [hb] at hx; cases hx
        exact fun hh => hne (by rw [hh])
  · rw [iLt_false, rLen_byte] at h
    congr 2
    symm
    rw [inOp_iff, Bool.eq_false_iff]
    intro hc
    obtain ⟨j, hj⟩ := List.mem_iff_getElem?.1 (List.contains_iff_mem.1 hc)
    exact hall j c (by have := (List.getElem?_eq_some_iff.1 hj).1; omega) hj rfl

end
end Go.Proofs.YtkcljempplchkaaDoor

/- The reference: names and operators. -/
set_option maxRecDepth 100000
set_option linter.unusedVariables false
set_option linter.unusedSimpArgs false
namespace Go.Proofs.YtkcljempplchkaaDoor
open Go.Eng

section
variable {O : Cfg}

/-- All bytes of a string are of a kind. -/
def allB (op : Bool) (s : List UInt8) : Bool := s.all (if op then inOp else inName)

theorem all_no {p : UInt8 → Bool} {s : List UInt8} {i : Nat} {b : UInt8} (hb : s[i]? = some b) (h : p b = false) : s.all p = false := by
  rw [List.all_eq_false]
  exact ⟨b, List.mem_of_getElem? hb, by simp [h]⟩
theorem all_next {p : UInt8 → Bool} {s : List UInt8} {i : Nat} {b : UInt8} (hb : s[i]? = some b) (h : p b = true) (hall : (s.take i).all p = true) : (s.take (i + 1)).all p = true := by
  rw [List.take_add_one, hb]
  simp [hall, h]

theorem rall_pure (s : List UInt8) (hs : s.length < 9223372036854775807) (op : Bool) : PureCall O f_rall [.str s, .bool op] (.bool (allB op s)) := fun H => by
  refine entry h_rall rfl ?_; simp -implicitDefEqProofs only [go_sem, Nat.reduceAdd, Nat.reduceLeDiff, Nat.reduceEqDiff, Nat.reduceBEq, Nat.reduceLT, c_rall]
  repeat' (first
    | (refine go ?_; try simp -implicitDefEqProofs only [go_sem, Nat.reduceAdd, Nat.reduceLeDiff, Nat.reduceEqDiff, Nat.reduceBEq, Nat.reduceLT]) | fail)
  rw [wpC_loop]
  refine AC.loop (fun n st => ∃ i : Nat, i + n = s.length ∧ allB op (s.take i) = true ∧ st = ⟨mk 31 [(0, .str s), (1, .bool op), (7, .int .i64 (sLen s)), (8, .int .i64 i)], H, []⟩) s.length ⟨0, by omega, rfl, rfl⟩ ?_
  rintro n _ ⟨i, hi, hall, rfl⟩
  simp -implicitDefEqProofs only [go_sem, Nat.reduceAdd, Nat.reduceLeDiff, Nat.reduceEqDiff, Nat.reduceBEq, Nat.reduceLT, l_rall_0]
  refine go ?_; simp -implicitDefEqProofs only [go_sem, Nat.reduceAdd, Nat.reduceLeDiff, Nat.reduceEqDiff, Nat.reduceBEq, Nat.reduceLT]
  refine go ?_; simp -implicitDefEqProofs only [go_sem, Nat.reduceAdd, Nat.reduceLeDiff, Nat.reduceEqDiff, Nat.reduceBEq, Nat.reduceLT]
  refine wpC_split rfl rfl (fun h => ?_) (fun h => ?_) <;> simp -implicitDefEqProofs only [go_sem, Nat.reduceAdd, Nat.reduceLeDiff, Nat.reduceEqDiff, Nat.reduceBEq, Nat.reduceLT]
  · rw [iLt_true, sLen_eq] at h
    have hlt : i < s.length := by omega
    obtain ⟨b, hb⟩ : ∃ b, s[i]? = some b := ⟨_, List.getElem?_eq_getElem hlt⟩
    have e : wAdd .i64 (i : Int) 1 = ((i + 1 : Nat) : Int) := by rw [wAdd_i64] <;> omega
    refine go ?_; simp -implicitDefEqProofs only [go_sem, Nat.reduceAdd, Nat.reduceLeDiff, Nat.reduceEqDiff, Nat.reduceBEq, Nat.reduceLT]
    refine go ?_
    cases op <;> simp -implicitDefEqProofs only [go_sem, Nat.reduceAdd, Nat.reduceLeDiff, Nat.reduceEqDiff, Nat.reduceBEq, Nat.reduceLT, ixK_at hb]
    all_goals repeat' (first
      | (refine PureCall.step (rinOp_pure _) ?_; simp -implicitDefEqProofs only [go_sem, Nat.reduceAdd, Nat.reduceLeDiff, Nat.reduceEqDiff, Nat.reduceBEq, Nat.reduceLT, ixK_at hb])
      | (refine PureCall.step (rinName_pure _) ?_; simp -implicitDefEqProofs only [go_sem, Nat.reduceAdd, Nat.reduceLeDiff, Nat.reduceEqDiff, Nat.reduceBEq, Nat.reduceLT, ixK_at hb])
      | (refine wpC_split rfl rfl (fun h => ?_) (fun h => ?_) <;> simp -implicitDefEqProofs only [go_sem, Nat.reduceAdd, Nat.reduceLeDiff, Nat.reduceEqDiff, Nat.reduceBEq, Nat.reduceLT])
      | (refine plan_split rfl rfl (fun h => ?_) (fun h => ?_) <;> simp -implicitDefEqProofs only [go_sem, Nat.reduceAdd, Nat.reduceLeDiff, Nat.reduceEqDiff, Nat.reduceBEq, Nat.reduceLT, h, ixK_at hb])
      | (refine go ?_; try simp -implicitDefEqProofs only [go_sem, Nat.reduceAdd, Nat.reduceLeDiff, Nat.reduceEqDiff, Nat.reduceBEq, Nat.reduceLT]) | fail)
    · rw [show allB false s = false from all_no hb (bNot_true.1 h)]
    · exact ⟨n - 1, by omega, i + 1, by omega, all_next hb (bNot_false.1 h) hall, by rw [e]⟩
    · rw [show allB true s = false from all_no hb (bNot_true.1 h)]
    · exact ⟨n - 1, by omega, i + 1, by omega, all_next hb (bNot_false.1 h) hall, by rw [e]⟩
  · repeat' (first
      | (refine go ?_; try simp -implicitDefEqProofs only [go_sem, Nat.reduceAdd, Nat.reduceLeDiff, Nat.reduceEqDiff, Nat.reduceBEq, Nat.reduceLT]) | fail)
    rw [iLt_false, sLen_eq] at h
    have : i = s.length := by omega
    subst this
    rw [List.take_length] at hall
    simp [hall]

theorem uC_eq (b c : UInt8) (n : Int) (hn : uC c = n) : iEq (uC b) n = (b == c) := by
  subst hn
  rw [Bool.eq_iff_iff, iEq_true, beq_iff_eq]
  exact ⟨uC_inj, fun h => by rw [h]⟩
theorem ixK_one (b c : UInt8) (s : List UInt8) : ixK (b :: c :: s) 1 = some (.int .u8 (uC c)) := by simp [ixK]

theorem rcomment_pure (s : List UInt8) : PureCall O f_rcomment [.str s] (.bool (pfx [45, 45] s)) := fun H => by
  refine entry h_rcomment rfl ?_; simp -implicitDefEqProofs only [go_sem, Nat.reduceAdd, Nat.reduceLeDiff, Nat.reduceEqDiff, Nat.reduceBEq, Nat.reduceLT, c_rcomment]
  refine go ?_; simp -implicitDefEqProofs only [go_sem, Nat.reduceAdd, Nat.reduceLeDiff, Nat.reduceEqDiff, Nat.reduceBEq, Nat.reduceLT]
  have e45 : ∀ b : UInt8, iEq (uC b) 45 = (b == 45) := fun b => uC_eq b 45 45 rfl
  match s with
  | [] =>
    have h : iLe 2 (sLen []) = false := by decide
    simp -implicitDefEqProofs only [go_sem, Nat.reduceAdd, Nat.reduceLeDiff, Nat.reduceEqDiff, Nat.reduceBEq, Nat.reduceLT, h]
    refine go ?_; simp -implicitDefEqProofs only [go_sem, Nat.reduceAdd, Nat.reduceLeDiff, Nat.reduceEqDiff, Nat.reduceBEq, Nat.reduceLT]
    rfl
  | [b] =>
    have h : iLe 2 (sLen [b]) = false := by rw [iLe_false, sLen_eq]; simp
    simp -implicitDefEqProofs only [go_sem, Nat.reduceAdd, Nat.reduceLeDiff, Nat.reduceEqDiff, Nat.reduceBEq, Nat.reduceLT, h]
    refine go ?_; simp -implicitDefEqProofs only [go_sem, Nat.reduceAdd, Nat.reduceLeDiff, Nat.reduceEqDiff, Nat.reduceBEq, Nat.reduceLT]
    simp [pfx, List.isPrefixOf]
  | b :: c :: t =>
    have h : iLe 2 (sLen (b :: c :: t)) = true := by rw [iLe_true, sLen_eq]; simp; omega
    simp -implicitDefEqProofs only [go_sem, Nat.reduceAdd, Nat.reduceLeDiff, Nat.reduceEqDiff, Nat.reduceBEq, Nat.reduceLT, h, ixK_zero]
    refine plan_split rfl rfl (fun h => ?_) (fun h => ?_) <;> simp -implicitDefEqProofs only [go_sem, Nat.reduceAdd, Nat.reduceLeDiff, Nat.reduceEqDiff, Nat.reduceBEq, Nat.reduceLT, h, ixK_one]
    all_goals (refine go ?_; simp -implicitDefEqProofs only [go_sem, Nat.reduceAdd, Nat.reduceLeDiff, Nat.reduceEqDiff, Nat.reduceBEq, Nat.reduceLT])
    all_goals rw [e45] at *
    · simp only [beq_iff_eq] at h
      subst h
      simp [pfx, List.isPrefixOf, Bool.beq_comm, eq_comm]
    · have h' : ¬ b = 45 := by simpa using h
      simp [pfx, List.isPrefixOf]
      intro e
      exact absurd e.symm h'

end
end Go.Proofs.YtkcljempplchkaaDoor

/- The reference's names and operators are those of lexis. -/
set_option maxRecDepth 100000
set_option linter.unusedVariables false
set_option linter.unusedSimpArgs false
namespace Go.Proofs.YtkcljempplchkaaDoor
open Go.Eng

section
variable {O : Cfg}

def rIsSmall (s : List UInt8) : Bool := iLe 1 (sLen s) && iLe (sLen s) 16 && small (s.headD 0) && allB false s && !words.contains s
def rIsCapital (s : List UInt8) : Bool := iLe 1 (sLen s) && iLe (sLen s) 16 && capital (s.headD 0) && allB false s
def rIsOp (s : List UInt8) : Bool := iLe 1 (sLen s) && iLe (sLen s) 16 && allB true s && !rruns.contains s && !pfx [45, 45] s

theorem len16 {s : List UInt8} (h : iLe (sLen s) 16 = true) : s.length < 9223372036854775807 := by
  rw [iLe_true, sLen_eq] at h; omega

theorem rIsSmall_pure (s : List UInt8) : PureCall O f_rIsSmall [.str s] (.bool (rIsSmall s)) := fun H => by
  refine entry h_rIsSmall rfl ?_; simp -implicitDefEqProofs only [go_sem, Nat.reduceAdd, Nat.reduceLeDiff, Nat.reduceEqDiff, Nat.reduceBEq, Nat.reduceLT, c_rIsSmall]
  refine go ?_; simp -implicitDefEqProofs only [go_sem, Nat.reduceAdd, Nat.reduceLeDiff, Nat.reduceEqDiff, Nat.reduceBEq, Nat.reduceLT]
  cases s with
  | nil =>
    have h : iLe 1 (sLen []) = false := by decide
    simp -implicitDefEqProofs only [go_sem, Nat.reduceAdd, Nat.reduceLeDiff, Nat.reduceEqDiff, Nat.reduceBEq, Nat.reduceLT, h]
    refine go ?_; simp -implicitDefEqProofs only [go_sem, Nat.reduceAdd, Nat.reduceLeDiff, Nat.reduceEqDiff, Nat.reduceBEq, Nat.reduceLT]
    rfl
  | cons b t =>
    have h1 : iLe 1 (sLen (b :: t)) = true := by rw [iLe_true, sLen_eq]; simp; omega
    simp -implicitDefEqProofs only [go_sem, Nat.reduceAdd, Nat.reduceLeDiff, Nat.reduceEqDiff, Nat.reduceBEq, Nat.reduceLT, h1]
    refine plan_split rfl rfl (fun h => ?_) (fun h => ?_) <;> simp -implicitDefEqProofs only [go_sem, Nat.reduceAdd, Nat.reduceLeDiff, Nat.reduceEqDiff, Nat.reduceBEq, Nat.reduceLT, h, ixK_zero]
    · have hl := len16 h
      repeat' (first
        | (refine PureCall.step (rsmall_pure _) ?_; simp -implicitDefEqProofs only [go_sem, Nat.reduceAdd, Nat.reduceLeDiff, Nat.reduceEqDiff, Nat.reduceBEq, Nat.reduceLT])
        | (refine PureCall.step (rall_pure _ hl _) ?_; simp -implicitDefEqProofs only [go_sem, Nat.reduceAdd, Nat.reduceLeDiff, Nat.reduceEqDiff, Nat.reduceBEq, Nat.reduceLT])
        | (refine PureCall.step rWords_pure ?_; simp -implicitDefEqProofs only [go_sem, Nat.reduceAdd, Nat.reduceLeDiff, Nat.reduceEqDiff, Nat.reduceBEq, Nat.reduceLT])
        | (refine PureCall.step (rhas_pure _ (by decide) _ _) ?_; simp -implicitDefEqProofs only [go_sem, Nat.reduceAdd, Nat.reduceLeDiff, Nat.reduceEqDiff, Nat.reduceBEq, Nat.reduceLT])
        | (refine plan_split rfl rfl (fun h => ?_) (fun h => ?_) <;> simp -implicitDefEqProofs only [go_sem, Nat.reduceAdd, Nat.reduceLeDiff, Nat.reduceEqDiff, Nat.reduceBEq, Nat.reduceLT, h])
        | (refine go ?_; try simp -implicitDefEqProofs only [go_sem, Nat.reduceAdd, Nat.reduceLeDiff, Nat.reduceEqDiff, Nat.reduceBEq, Nat.reduceLT]) | fail)
      all_goals simp_all [rIsSmall, bNot]
    · refine go ?_; simp -implicitDefEqProofs only [go_sem, Nat.reduceAdd, Nat.reduceLeDiff, Nat.reduceEqDiff, Nat.reduceBEq, Nat.reduceLT]
      simp [rIsSmall, h]

theorem rIsCapital_pure (s : List UInt8) : PureCall O f_rIsCapital [.str s] (.bool (rIsCapital s)) := fun H => by
  refine entry h_rIsCapital rfl ?_; simp -implicitDefEqProofs only [go_sem, Nat.reduceAdd, Nat.reduceLeDiff, Nat.reduceEqDiff, Nat.reduceBEq, Nat.reduceLT, c_rIsCapital]
  refine go ?_; simp -implicitDefEqProofs only [go_sem, Nat.reduceAdd, Nat.reduceLeDiff, Nat.reduceEqDiff, Nat.reduceBEq, Nat.reduceLT]
  cases s with
  | nil =>
    have h : iLe 1 (sLen []) = false := by decide
    simp -implicitDefEqProofs only [go_sem, Nat.reduceAdd, Nat.reduceLeDiff, Nat.reduceEqDiff, Nat.reduceBEq, Nat.reduceLT, h]
    refine go ?_; simp -implicitDefEqProofs only [go_sem, Nat.reduceAdd, Nat.reduceLeDiff, Nat.reduceEqDiff, Nat.reduceBEq, Nat.reduceLT]
    rfl
  | cons b t =>
    have h1 : iLe 1 (sLen (b :: t)) = true := by rw [iLe_true, sLen_eq]; simp; omega
    simp -implicitDefEqProofs only [go_sem, Nat.reduceAdd, Nat.reduceLeDiff, Nat.reduceEqDiff, Nat.reduceBEq, Nat.reduceLT, h1]
    refine plan_split rfl rfl (fun h => ?_) (fun h => ?_) <;> simp -implicitDefEqProofs only [go_sem, Nat.reduceAdd, Nat.reduceLeDiff, Nat.reduceEqDiff, Nat.reduceBEq, Nat.reduceLT, h, ixK_zero]
    · have hl := len16 h
      repeat' (first
        | (refine PureCall.step (rcapital_pure _) ?_; simp -implicitDefEqProofs only [go_sem, Nat.reduceAdd, Nat.reduceLeDiff, Nat.reduceEqDiff, Nat.reduceBEq, Nat.reduceLT])
        | (refine PureCall.step (rall_pure _ hl _) ?_; simp -implicitDefEqProofs only [go_sem, Nat.reduceAdd, Nat.reduceLeDiff, Nat.reduceEqDiff, Nat.reduceBEq, Nat.reduceLT])
        | (refine plan_split rfl rfl (fun h => ?_) (fun h => ?_) <;> simp -implicitDefEqProofs only [go_sem, Nat.reduceAdd, Nat.reduceLeDiff, Nat.reduceEqDiff, Nat.reduceBEq, Nat.reduceLT, h])
        | (refine go ?_; try simp -implicitDefEqProofs only [go_sem, Nat.reduceAdd, Nat.reduceLeDiff, Nat.reduceEqDiff, Nat.reduceBEq, Nat.reduceLT]) | fail)
      all_goals simp_all [rIsCapital, bNot]
    · refine go ?_; simp -implicitDefEqProofs only [go_sem, Nat.reduceAdd, Nat.reduceLeDiff, Nat.reduceEqDiff, Nat.reduceBEq, Nat.reduceLT]
      simp [rIsCapital, h]

theorem rIsOp_pure (s : List UInt8) : PureCall O f_rIsOp [.str s] (.bool (rIsOp s)) := fun H => by
  refine entry h_rIsOp rfl ?_; simp -implicitDefEqProofs only [go_sem, Nat.reduceAdd, Nat.reduceLeDiff, Nat.reduceEqDiff, Nat.reduceBEq, Nat.reduceLT, c_rIsOp]
  refine go ?_; simp -implicitDefEqProofs only [go_sem, Nat.reduceAdd, Nat.reduceLeDiff, Nat.reduceEqDiff, Nat.reduceBEq, Nat.reduceLT]
  refine plan_split rfl rfl (fun h1 => ?_) (fun h1 => ?_) <;> simp -implicitDefEqProofs only [go_sem, Nat.reduceAdd, Nat.reduceLeDiff, Nat.reduceEqDiff, Nat.reduceBEq, Nat.reduceLT, h1]
  · refine plan_split rfl rfl (fun h => ?_) (fun h => ?_) <;> simp -implicitDefEqProofs only [go_sem, Nat.reduceAdd, Nat.reduceLeDiff, Nat.reduceEqDiff, Nat.reduceBEq, Nat.reduceLT, h]
    · have hl := len16 h
      repeat' (first
        | (refine PureCall.step (rall_pure _ hl _) ?_; simp -implicitDefEqProofs only [go_sem, Nat.reduceAdd, Nat.reduceLeDiff, Nat.reduceEqDiff, Nat.reduceBEq, Nat.reduceLT])
        | (refine PureCall.step rruns_pure ?_; simp -implicitDefEqProofs only [go_sem, Nat.reduceAdd, Nat.reduceLeDiff, Nat.reduceEqDiff, Nat.reduceBEq, Nat.reduceLT])
        | (refine PureCall.step (rhas_pure _ (by decide) _ _) ?_; simp -implicitDefEqProofs only [go_sem, Nat.reduceAdd, Nat.reduceLeDiff, Nat.reduceEqDiff, Nat.reduceBEq, Nat.reduceLT])
        | (refine PureCall.step (rcomment_pure _) ?_; simp -implicitDefEqProofs only [go_sem, Nat.reduceAdd, Nat.reduceLeDiff, Nat.reduceEqDiff, Nat.reduceBEq, Nat.reduceLT])
        | (refine plan_split rfl rfl (fun h => ?_) (fun h => ?_) <;> simp -implicitDefEqProofs only [go_sem, Nat.reduceAdd, Nat.reduceLeDiff, Nat.reduceEqDiff, Nat.reduceBEq, Nat.reduceLT, h])
        | (refine go ?_; try simp -implicitDefEqProofs only [go_sem, Nat.reduceAdd, Nat.reduceLeDiff, Nat.reduceEqDiff, Nat.reduceBEq, Nat.reduceLT]) | fail)
      all_goals simp_all [rIsOp, bNot]
    · refine go ?_; simp -implicitDefEqProofs only [go_sem, Nat.reduceAdd, Nat.reduceLeDiff, Nat.reduceEqDiff, Nat.reduceBEq, Nat.reduceLT]
      simp [rIsOp, h]
  · refine go ?_; simp -implicitDefEqProofs only [go_sem, Nat.reduceAdd, Nat.reduceLeDiff, Nat.reduceEqDiff, Nat.reduceBEq, Nat.reduceLT]
    simp [rIsOp, h1]

end
end Go.Proofs.YtkcljempplchkaaDoor

/- Plain laws: lexis and the reference agree on names and operators. -/
set_option maxRecDepth 100000
set_option linter.unusedVariables false
set_option linter.unusedSimpArgs false
namespace Go.Proofs.YtkcljempplchkaaDoor
open Go.Eng

theorem len_ne (s : List UInt8) : iLe 1 (sLen s) = !sEq s [] := by
  cases s with
  | nil => decide
  | cons b t =>
    rw [sEq_cons_nil]
    simp only [Bool.not_false]
    rw [iLe_true, sLen_eq]
    simp; omega
theorem len_le (s : List UInt8) : iLe (sLen s) 16 = !iLt 16 (sLen s) := by
  cases h : iLt 16 (sLen s) with
  | true => rw [iLt_true] at h; rw [Bool.not_true, iLe_false]; exact h
  | false => rw [iLt_false] at h; rw [Bool.not_false, iLe_true]; exact h

theorem IsSmall_eq (s : List UInt8) : rIsSmall s = IsSmall s := by
  simp only [rIsSmall, IsSmall, isName, nameHead, len_ne, len_le, allB, isWord, Bool.false_eq_true, if_false]
  cases sEq s [] <;> cases iLt 16 (sLen s) <;> cases small (s.headD 0) <;> cases capital (s.headD 0) <;> cases words.contains s <;> cases s.all inName <;> rfl

theorem words_small {s : List UInt8} (h : words.contains s = true) : capital (s.headD 0) = false := by
  have h' := List.contains_iff_mem.1 h
  have key : ∀ x ∈ words, capital (x.headD 0) = false := by decide
  exact key s h'

theorem IsCapital_eq (s : List UInt8) : rIsCapital s = IsCapital s := by
  simp only [rIsCapital, IsCapital, isName, nameHead, len_ne, len_le, allB, isWord, Bool.false_eq_true, if_false]
  cases hw : words.contains s with
  | true => rw [words_small hw]; simp
  | false => cases sEq s [] <;> cases iLt 16 (sLen s) <;> cases small (s.headD 0) <;> cases capital (s.headD 0) <;> cases s.all inName <;> rfl

theorem reserved_eq (s : List UInt8) : reserved s = rruns.contains s := by
  simp only [reserved, runs, rruns, List.any_cons, List.any_nil, List.contains_cons, List.contains_nil, sEq, Bool.or_false]
  generalize (s == [61]) = a1
  generalize (s == [45, 62]) = a2
  generalize (s == [61, 62]) = a3
  generalize (s == [60, 45]) = a4
  generalize (s == [58]) = a5
  generalize (s == [124]) = a6
  generalize (s == [64]) = a7
  generalize (s == [126]) = a8
  generalize (s == [33]) = a9
  generalize (s == [46]) = a10
  generalize (s == [92]) = a11
  cases a7 <;> cases a8 <;> cases a9 <;> cases a10 <;> cases a11 <;> simp

theorem IsOp_eq (s : List UInt8) : rIsOp s = isOp s := by
  simp only [rIsOp, isOp, len_ne, len_le, allB, if_true, reserved_eq]
  cases sEq s [] <;> cases iLt 16 (sLen s) <;> cases rruns.contains s <;> cases pfx [45, 45] s <;> cases s.all inOp <;> rfl

end Go.Proofs.YtkcljempplchkaaDoor

/- Words returned; lists of strings compared. -/
set_option maxRecDepth 100000
set_option linter.unusedVariables false
set_option linter.unusedSimpArgs false
namespace Go.Proofs.YtkcljempplchkaaDoor
open Go.Eng

theorem appP_full {sz bytes : Nat} {e : TypeId} {rows rows2 : List (List AVal)} {t : Tok} {H : Hp} {ds : List ADef} {R : Res} (hne : rows2 ≠ []) (h1 : ∀ r ∈ rows, r.length = sz) (h2 : ∀ r ∈ rows2, r.length = sz) (hb : (rows.length + rows2.length) * bytes ≤ 140737488355328)
    (h : ∀ id, H id = none → R (.sl (rows ++ rows2) (.own id sz)) (H.upd id (.tok (rows.length + rows2.length) sz (some e))) ds) : appP sz bytes e (.sl rows .full) (.sl rows2 t) H ds R := by
  unfold appP
  cases rows2 with
  | nil => exact absurd rfl hne
  | cons r rs => exact ⟨h1, h2, hb, h⟩

/-- A function that answers a value; what it made besides is forgotten. -/
theorem entryF {O : Cfg} {ks : Tab} {f : FuncId} {F : AFn} {args : List AVal} {v : AVal} (hc : compFn Tryd.prog ks f = some F) (hn : Nat.ble args.length F.n = true)
    (h : ∀ H, wpC O Tryd.prog ks F.code (bodyA F.res (fun r H' => ∃ v', r = .ret v' ∧ Wk v' v ∧ H.le H')) ⟨mk F.n (argM 0 args), H, []⟩) : PureCall O f args v := fun H => by
  refine ACalls.forget ((entry hc hn (h H)).mono ?_)
  rintro r H' ⟨v', rfl, hw, hl⟩
  exact ⟨v, H, hw, hl, rfl, rfl⟩

theorem clone_pure {O : Cfg} (l : List (List UInt8)) (hne : l ≠ []) (hl : l.length < 1000000) (t : Tok) : PureCall O f_clone [.sl (strRows l) t] (.sl (strRows l) .no) := by
  refine entryF h_clone rfl fun H => ?_
  have hn : isNilA .sl (.sl (strRows l) t) = some false := by
    cases l with
    | nil => exact absurd rfl hne
    | cons x l => rfl
  simp -implicitDefEqProofs only [go_sem, Nat.reduceAdd, Nat.reduceLeDiff, Nat.reduceEqDiff, Nat.reduceBEq, Nat.reduceLT, c_clone]
  repeat' (first
    | (refine go ?_; try simp -implicitDefEqProofs only [go_sem, Nat.reduceAdd, Nat.reduceLeDiff, Nat.reduceEqDiff, Nat.reduceBEq, Nat.reduceLT, hn]) | fail)
  refine appP_full (by cases l with | nil => exact absurd rfl hne | cons x l => simp [strRows]) (by simp) (fun r hr => by
    obtain ⟨x, _, rfl⟩ := List.mem_map.1 hr; rfl) (by rw [strRows_len]; simp; omega) fun id hid => ?_
  simp -implicitDefEqProofs only [go_sem, Nat.reduceAdd, Nat.reduceLeDiff, Nat.reduceEqDiff, Nat.reduceBEq, Nat.reduceLT]
  repeat' (first
    | (refine go ?_; try simp -implicitDefEqProofs only [go_sem, Nat.reduceAdd, Nat.reduceLeDiff, Nat.reduceEqDiff, Nat.reduceBEq, Nat.reduceLT]) | fail)
  exact ⟨_, rfl, .sl _ _, le_upd hid⟩

theorem Words_pure : PureCall lexC f_Words [] (.sl (strRows words) .no) := fun H => by
  refine entry h_Words rfl ?_; simp -implicitDefEqProofs only [go_sem, Nat.reduceAdd, Nat.reduceLeDiff, Nat.reduceEqDiff, Nat.reduceBEq, Nat.reduceLT, c_Words]
  repeat' (first
    | (refine PureCall.step words_pure ?_; simp -implicitDefEqProofs only [go_sem, Nat.reduceAdd, Nat.reduceLeDiff, Nat.reduceEqDiff, Nat.reduceBEq, Nat.reduceLT])
    | (refine PureCall.step (clone_pure _ (by decide) (by decide) _) ?_; simp -implicitDefEqProofs only [go_sem, Nat.reduceAdd, Nat.reduceLeDiff, Nat.reduceEqDiff, Nat.reduceBEq, Nat.reduceLT])
    | (refine go ?_; try simp -implicitDefEqProofs only [go_sem, Nat.reduceAdd, Nat.reduceLeDiff, Nat.reduceEqDiff, Nat.reduceBEq, Nat.reduceLT]) | fail)

theorem rSameStrings_pure {O : Cfg} (a b : List (List UInt8)) (ha : a.length < 1000000) (hb : b.length < 1000000) (t u : Tok) : PureCall O f_rSameStrings [.sl (strRows a) t, .sl (strRows b) u] (.bool (a == b)) := fun H => by
  refine entry h_rSameStrings rfl ?_; simp -implicitDefEqProofs only [go_sem, Nat.reduceAdd, Nat.reduceLeDiff, Nat.reduceEqDiff, Nat.reduceBEq, Nat.reduceLT, c_rSameStrings]
  refine AC.cut (fun st => a.length = b.length ∧ st = ⟨mk 26 [(0, .sl (strRows a) t), (1, .sl (strRows b) u)], H, []⟩) ?_ ?_
  · repeat' (first
      | (refine wpC_split rfl rfl (fun h => ?_) (fun h => ?_) <;> simp -implicitDefEqProofs only [go_sem, Nat.reduceAdd, Nat.reduceLeDiff, Nat.reduceEqDiff, Nat.reduceBEq, Nat.reduceLT])
      | (refine go ?_; try simp -implicitDefEqProofs only [go_sem, Nat.reduceAdd, Nat.reduceLeDiff, Nat.reduceEqDiff, Nat.reduceBEq, Nat.reduceLT]) | fail)
    · have h1 := iEq_false.1 (bNot_true.1 h)
      rw [rLen_str, rLen_str] at h1
      congr 2
      symm
      rw [beq_eq_false_iff_ne]
      intro e
      rw [e] at h1
      exact h1 rfl
    · have h1 := iEq_true.1 (bNot_false.1 h)
      rw [rLen_str, rLen_str] at h1
      first | omega | exact ⟨by omega, rfl⟩
  · rintro _ ⟨hlen, rfl⟩
    refine go ?_; simp -implicitDefEqProofs only [go_sem, Nat.reduceAdd, Nat.reduceLeDiff, Nat.reduceEqDiff, Nat.reduceBEq, Nat.reduceLT]
    refine go ?_; simp -implicitDefEqProofs only [go_sem, Nat.reduceAdd, Nat.reduceLeDiff, Nat.reduceEqDiff, Nat.reduceBEq, Nat.reduceLT]
    rw [wpC_loop]
    refine AC.loop (fun n st => ∃ i : Nat, i + n = a.length ∧ a.take i = b.take i ∧ st = ⟨mk 26 [(0, .sl (strRows a) t), (1, .sl (strRows b) u), (12, .int .i64 (rLen (strRows a))), (13, .int .i64 i)], H, []⟩) a.length ⟨0, by omega, rfl, rfl⟩ ?_
    rintro n _ ⟨i, hi, hall, rfl⟩
    simp -implicitDefEqProofs only [go_sem, Nat.reduceAdd, Nat.reduceLeDiff, Nat.reduceEqDiff, Nat.reduceBEq, Nat.reduceLT, l_rSameStrings_0]
    refine go ?_; simp -implicitDefEqProofs only [go_sem, Nat.reduceAdd, Nat.reduceLeDiff, Nat.reduceEqDiff, Nat.reduceBEq, Nat.reduceLT]
    refine go ?_; simp -implicitDefEqProofs only [go_sem, Nat.reduceAdd, Nat.reduceLeDiff, Nat.reduceEqDiff, Nat.reduceBEq, Nat.reduceLT]
    refine wpC_split rfl rfl (fun h => ?_) (fun h => ?_) <;> simp -implicitDefEqProofs only [go_sem, Nat.reduceAdd, Nat.reduceLeDiff, Nat.reduceEqDiff, Nat.reduceBEq, Nat.reduceLT]
    · rw [iLt_true, rLen_str] at h
      obtain ⟨x, hx⟩ : ∃ x, a[i]? = some x := ⟨_, List.getElem?_eq_getElem (by omega)⟩
      obtain ⟨y, hy⟩ : ∃ y, b[i]? = some y := ⟨_, List.getElem?_eq_getElem (by omega)⟩
      have e : wAdd .i64 (i : Int) 1 = ((i + 1 : Nat) : Int) := by rw [wAdd_i64] <;> omega
      repeat' (first
        | (refine wpC_split rfl rfl (fun h => ?_) (fun h => ?_) <;> simp -implicitDefEqProofs only [go_sem, Nat.reduceAdd, Nat.reduceLeDiff, Nat.reduceEqDiff, Nat.reduceBEq, Nat.reduceLT])
        | (refine go ?_; try simp -implicitDefEqProofs only [go_sem, Nat.reduceAdd, Nat.reduceLeDiff, Nat.reduceEqDiff, Nat.reduceBEq, Nat.reduceLT, iaddrA_str hx, iaddrA_str hy]) | fail)
      · have h1 := sEq_false.1 (bNot_true.1 h)
        congr 2
        symm
        rw [beq_eq_false_iff_ne]
        intro e'
        rw [e', hy] at hx
        exact h1 (Option.some.inj hx).symm
      · have h1 := sEq_true.1 (bNot_false.1 h)
        refine ⟨n - 1, by omega, i + 1, by omega, ?_, by rw [e]⟩
        rw [List.take_add_one, List.take_add_one, hx, hy, hall, h1]
    · repeat' (first
        | (refine go ?_; try simp -implicitDefEqProofs only [go_sem, Nat.reduceAdd, Nat.reduceLeDiff, Nat.reduceEqDiff, Nat.reduceBEq, Nat.reduceLT]) | fail)
      rw [iLt_false, rLen_str] at h
      have h1 : i = a.length := by omega
      subst h1
      rw [List.take_length, hlen, List.take_length] at hall
      simp [hall]

end Go.Proofs.YtkcljempplchkaaDoor

/- What stands between tokens. -/
set_option maxRecDepth 100000
set_option linter.unusedVariables false
set_option linter.unusedSimpArgs false
namespace Go.Proofs.YtkcljempplchkaaDoor
open Go.Eng

def isBlank (c : UInt8) : Bool := iEq (uC c) 32 || iEq (uC c) 9 || iEq (uC c) 10 || iEq (uC c) 13

/-- Where blanks and comments end; the first number bounds the steps. -/
def blk (s : List UInt8) : Nat → Nat → Nat
  | 0, i => i
  | f + 1, i => match s[i]? with
    | none => i
    | some c => if isBlank c = true then blk s f (i + 1) else if pfx [45, 45] (s.drop i) = true then (if Lib.indexByte (s.drop i) 10 < 0 then s.length else blk s f (i + (Lib.indexByte (s.drop i) 10).toNat)) else i
def blanksTo (s : List UInt8) (i : Nat) : Nat := blk s (s.length - i) i

theorem indexByte_lt (l : List UInt8) (c : UInt8) : Lib.indexByte l c < l.length ∨ Lib.indexByte l c = -1 := by
  induction l with
  | nil => exact .inr rfl
  | cons b l ih =>
    unfold Lib.indexByte
    split
    · left; simp
    · split
      · exact .inr rfl
      · rename_i h; simp at h; left; simp; omega
theorem indexByte_pos {s : List UInt8} {i : Nat} (h : pfx [45, 45] (s.drop i) = true) : Lib.indexByte (s.drop i) 10 ≠ 0 := by
  cases hd : s.drop i with
  | nil => decide
  | cons b t =>
    rw [hd] at h
    unfold Lib.indexByte
    split
    · rename_i hb
      simp only [beq_iff_eq] at hb
      subst hb
      simp [pfx, List.isPrefixOf] at h
    · split
      · decide
      · have := Lib.indexByte_ge t 10; rename_i h1; simp at h1; omega

theorem blk_fuel (s : List UInt8) : ∀ (f i : Nat), s.length - i ≤ f → blk s f i = blk s (s.length - i) i := by
  intro f
  induction f using Nat.strongRecOn with
  | _ f ih =>
    intro i h
    cases f with
    | zero => rw [Nat.le_zero.1 h]
    | succ f =>
      cases hs : s[i]? with
      | none =>
        have : s.length ≤ i := by rw [List.getElem?_eq_none_iff] at hs; exact hs
        rw [show s.length - i = 0 by omega]
        simp only [blk, hs]
      | some c =>
        have hi : i < s.length := (List.getElem?_eq_some_iff.1 hs).1
        obtain ⟨m, hm⟩ : ∃ m, s.length - i = m + 1 := ⟨s.length - i - 1, by omega⟩
        rw [hm]
        simp only [blk, hs]
        split
        · rw [ih f (by omega) (i + 1) (by omega), ih m (by omega) (i + 1) (by omega)]
        · split
          · rename_i hp
            have := indexByte_pos hp
            have h1 := Lib.indexByte_ge (s.drop i) 10
            split
            · rfl
            · rw [ih f (by omega) _ (by omega), ih m (by omega) _ (by omega)]
          · rfl

theorem IndexByte_nl {O : Cfg} (s : List UInt8) : PureCall O f_IndexByte [.str s, .int .u8 10] (.int .i64 (Lib.indexByte s 10)) := IndexByte_pure s 10

theorem blanks_spec {O : Cfg} {s : List UInt8} (hs : s.length < 4611686018427387904) {i0 : Nat} (hi0 : i0 ≤ s.length) (id : Nat) (H : Hp) :
    ACalls O Tryd.prog f_blanks [.ref id 0] (H.upd id (.cells [.str s, .int .i64 i0])) (fun r H' => r = .ret (.tup []) ∧ H' = H.upd id (.cells [.str s, .int .i64 (blanksTo s i0)])) := by
  refine entry h_blanks rfl ?_; simp -implicitDefEqProofs only [go_sem, Nat.reduceAdd, Nat.reduceLeDiff, Nat.reduceEqDiff, Nat.reduceBEq, Nat.reduceLT, c_blanks]
  refine go ?_; simp -implicitDefEqProofs only [go_sem, Nat.reduceAdd, Nat.reduceLeDiff, Nat.reduceEqDiff, Nat.reduceBEq, Nat.reduceLT]
  rw [wpC_loop]
  refine AC.loop (fun n st => ∃ i : Nat, i ≤ s.length ∧ n = s.length - i ∧ blk s n i = blanksTo s i0 ∧ st = ⟨mk 84 [(0, .ref id 0)], H.upd id (.cells [.str s, .int .i64 i]), []⟩) (s.length - i0) ⟨i0, hi0, rfl, rfl, rfl⟩ ?_
  rintro n _ ⟨i, hi, rfl, hb, rfl⟩
  simp -implicitDefEqProofs only [go_sem, Nat.reduceAdd, Nat.reduceLeDiff, Nat.reduceEqDiff, Nat.reduceBEq, Nat.reduceLT, l_blanks_0]
  refine go ?_; simp -implicitDefEqProofs only [go_sem, Nat.reduceAdd, Nat.reduceLeDiff, Nat.reduceEqDiff, Nat.reduceBEq, Nat.reduceLT]
  refine go ?_
  refine wpC_split rfl rfl (fun h => ?_) (fun h => ?_) <;> simp -implicitDefEqProofs only [go_sem, Nat.reduceAdd, Nat.reduceLeDiff, Nat.reduceEqDiff, Nat.reduceBEq, Nat.reduceLT]
  · rw [iLt_true, sLen_eq] at h
    have hlt : i < s.length := by omega
    obtain ⟨b, hb'⟩ : ∃ b, s[i]? = some b := ⟨_, List.getElem?_eq_getElem hlt⟩
    have e : wAdd .i64 (i : Int) 1 = ((i + 1 : Nat) : Int) := by rw [wAdd_i64] <;> omega
    obtain ⟨m, hm⟩ : ∃ m, s.length - i = m + 1 := ⟨s.length - i - 1, by omega⟩
    rw [hm] at hb
    simp only [blk, hb'] at hb
    have k1 : isBlank b = true → blk s m (i + 1) = blanksTo s i0 := fun h => by rw [if_pos h] at hb; exact hb
    have k2 : isBlank b = false → pfx [45, 45] (s.drop i) = true → Lib.indexByte (s.drop i) 10 < 0 → s.length = blanksTo s i0 := fun h h' h2 => by
      rw [if_neg (by simp [h]), if_pos h', if_pos h2] at hb; exact hb
    have k3 : isBlank b = false → pfx [45, 45] (s.drop i) = true → ¬ Lib.indexByte (s.drop i) 10 < 0 → blk s m (i + (Lib.indexByte (s.drop i) 10).toNat) = blanksTo s i0 := fun h h' h2 => by
      rw [if_neg (by simp [h]), if_pos h', if_neg h2] at hb; exact hb
    have k4 : isBlank b = false → pfx [45, 45] (s.drop i) = false → i = blanksTo s i0 := fun h h' => by
      rw [if_neg (by simp [h]), if_neg (by simp [h'])] at hb; exact hb
    clear hb
    refine go ?_; simp -implicitDefEqProofs only [go_sem, Nat.reduceAdd, Nat.reduceLeDiff, Nat.reduceEqDiff, Nat.reduceBEq, Nat.reduceLT, ixK_at hb']
    repeat' (first
      | (refine PureCall.step (HasPrefix_pure _ _) ?_; simp -implicitDefEqProofs only [go_sem, Nat.reduceAdd, Nat.reduceLeDiff, Nat.reduceEqDiff, Nat.reduceBEq, Nat.reduceLT])
      | (refine PureCall.step (IndexByte_nl _) ?_; simp -implicitDefEqProofs only [go_sem, Nat.reduceAdd, Nat.reduceLeDiff, Nat.reduceEqDiff, Nat.reduceBEq, Nat.reduceLT])
      | (refine wpC_split rfl rfl (fun h => ?_) (fun h => ?_) <;> (try simp -implicitDefEqProofs only [go_sem, Nat.reduceAdd, Nat.reduceLeDiff, Nat.reduceEqDiff, Nat.reduceBEq, Nat.reduceLT, slSA_lo hi]))
      | (refine plan_split rfl rfl (fun h => ?_) (fun h => ?_) <;> simp -implicitDefEqProofs only [go_sem, Nat.reduceAdd, Nat.reduceLeDiff, Nat.reduceEqDiff, Nat.reduceBEq, Nat.reduceLT, h])
      | (refine go ?_; try simp -implicitDefEqProofs only [go_sem, Nat.reduceAdd, Nat.reduceLeDiff, Nat.reduceEqDiff, Nat.reduceBEq, Nat.reduceLT, slSA_lo hi]) | fail)
    · exact ⟨m, by omega, i + 1, by omega, by omega, k1 (by simp_all [isBlank]), by rw [e]⟩
    · exact ⟨m, by omega, i + 1, by omega, by omega, k1 (by simp_all [isBlank]), by rw [e]⟩
    · exact ⟨m, by omega, i + 1, by omega, by omega, k1 (by simp_all [isBlank]), by rw [e]⟩
    · exact ⟨m, by omega, i + 1, by omega, by omega, k1 (by simp_all [isBlank]), by rw [e]⟩
    · rename_i g1 g2 g3 g4 g5
      rw [← k2 (by simp_all [isBlank]) g5 (iLt_true.1 h)]
      exact ⟨rfl, rfl, rfl⟩
    · rename_i g1 g2 g3 g4 g5
      have hp := indexByte_pos g5
      have hge := Lib.indexByte_ge (s.drop i) 10
      have hlt2 := indexByte_lt (s.drop i) 10
      rw [List.length_drop] at hlt2
      have hn := iLt_false.1 h
      have e2 : wAdd .i64 (i : Int) (Lib.indexByte (s.drop i) 10) = ((i + (Lib.indexByte (s.drop i) 10).toNat : Nat) : Int) := by rw [wAdd_i64] <;> omega
      exact ⟨s.length - (i + (Lib.indexByte (s.drop i) 10).toNat), by omega, i + (Lib.indexByte (s.drop i) 10).toNat, by omega, rfl, by rw [← blk_fuel s m _ (by omega)]; exact k3 (by simp_all [isBlank]) g5 (by omega), by rw [e2]⟩
    · rw [← k4 (by simp_all [isBlank]) h]
      exact ⟨rfl, rfl, rfl⟩
  · rw [iLt_false, sLen_eq] at h
    have h1 : i = s.length := by omega
    subst h1
    rw [Nat.sub_self] at hb
    simp only [blk] at hb
    rw [← hb]
    exact ⟨rfl, rfl⟩

end Go.Proofs.YtkcljempplchkaaDoor

/- The bytes of a kind. -/
set_option maxRecDepth 100000
set_option linter.unusedVariables false
set_option linter.unusedSimpArgs false
namespace Go.Proofs.YtkcljempplchkaaDoor
open Go.Eng

/-- How many bytes of a kind stand first. -/
def spanN (p : UInt8 → Bool) : List UInt8 → Nat
  | [] => 0
  | c :: l => if p c = true then spanN p l + 1 else 0
theorem spanN_le (p : UInt8 → Bool) : ∀ l : List UInt8, spanN p l ≤ l.length
  | [] => Nat.le_refl _
  | c :: l => by
    unfold spanN
    split
    · have := spanN_le p l; simp; omega
    · simp
theorem spanN_at {p : UInt8 → Bool} {s : List UInt8} {i : Nat} {b : UInt8} (h : s[i]? = some b) : spanN p (s.drop i) = if p b = true then spanN p (s.drop (i + 1)) + 1 else 0 := by
  have hi := (List.getElem?_eq_some_iff.1 h).1
  rw [List.drop_eq_getElem_cons hi]
  have : s[i] = b := by rw [List.getElem?_eq_getElem hi] at h; exact Option.some.inj h
  rw [this, spanN]

theorem span_spec {O : Cfg} {s : List UInt8} (hs : s.length < 4611686018427387904) {i0 : Nat} (hi0 : i0 ≤ s.length) (at0 : AVal) (id : Nat) (H : Hp) (g : FuncId) (p : UInt8 → Bool) (hg : ∀ c, PureCall O g [.int .u8 (uC c)] (.bool (p c))) :
    ACalls O Tryd.prog f_span [.ref id 0, .int .i64 i0, .func (.func g) [] []] (H.upd id (.cells [.str s, at0])) (fun r H' => r = .ret (.str ((s.take (i0 + spanN p (s.drop i0))).drop i0)) ∧ H' = H.upd id (.cells [.str s, at0])) := by
  refine entry h_span rfl ?_; simp -implicitDefEqProofs only [go_sem, Nat.reduceAdd, Nat.reduceLeDiff, Nat.reduceEqDiff, Nat.reduceBEq, Nat.reduceLT, c_span]
  refine go ?_; simp -implicitDefEqProofs only [go_sem, Nat.reduceAdd, Nat.reduceLeDiff, Nat.reduceEqDiff, Nat.reduceBEq, Nat.reduceLT]
  refine go ?_; simp -implicitDefEqProofs only [go_sem, Nat.reduceAdd, Nat.reduceLeDiff, Nat.reduceEqDiff, Nat.reduceBEq, Nat.reduceLT]
  rw [wpC_loop]
  have hle := spanN_le p (s.drop i0)
  rw [List.length_drop] at hle
  refine AC.loop (fun n st => ∃ i : Nat, i ≤ s.length ∧ n = s.length - i ∧ i + spanN p (s.drop i) = i0 + spanN p (s.drop i0) ∧ st = ⟨mk 35 [(0, .ref id 0), (1, .int .i64 i0), (2, .func (.func g) [] []), (7, .int .i64 i)], H.upd id (.cells [.str s, at0]), []⟩) (s.length - i0) ⟨i0, hi0, rfl, rfl, rfl⟩ ?_
  rintro n _ ⟨i, hi, rfl, hb, rfl⟩
  simp -implicitDefEqProofs only [go_sem, Nat.reduceAdd, Nat.reduceLeDiff, Nat.reduceEqDiff, Nat.reduceBEq, Nat.reduceLT, l_span_0]
  refine go ?_; simp -implicitDefEqProofs only [go_sem, Nat.reduceAdd, Nat.reduceLeDiff, Nat.reduceEqDiff, Nat.reduceBEq, Nat.reduceLT]
  have hslice : spanN p (s.drop i) = 0 → slSA s (some (.int .i64 (i0 : Int))) (some (.int .i64 (i : Int))) = some (.str ((s.take (i0 + spanN p (s.drop i0))).drop i0)) := fun h0 => by
    rw [h0, Nat.add_zero] at hb
    rw [← hb]
    exact slSA_both (by omega) hi
  refine plan_split rfl rfl (fun h => ?_) (fun h => ?_) <;> simp -implicitDefEqProofs only [go_sem, Nat.reduceAdd, Nat.reduceLeDiff, Nat.reduceEqDiff, Nat.reduceBEq, Nat.reduceLT, h]
  · have hlt0 := iLt_true.1 h
    rw [sLen_eq] at hlt0
    have hlt : i < s.length := by omega
    obtain ⟨b, hb'⟩ : ∃ b, s[i]? = some b := ⟨_, List.getElem?_eq_getElem hlt⟩
    have e : wAdd .i64 (i : Int) 1 = ((i + 1 : Nat) : Int) := by rw [wAdd_i64] <;> omega
    have hsp := spanN_at (p := p) hb'
    simp -implicitDefEqProofs only [go_sem, Nat.reduceAdd, Nat.reduceLeDiff, Nat.reduceEqDiff, Nat.reduceBEq, Nat.reduceLT, ixK_at hb']
    refine PureCall.step (hg _) ?_; simp -implicitDefEqProofs only [go_sem, Nat.reduceAdd, Nat.reduceLeDiff, Nat.reduceEqDiff, Nat.reduceBEq, Nat.reduceLT]
    refine go ?_
    refine wpC_split rfl rfl (fun h => ?_) (fun h => ?_) <;> simp -implicitDefEqProofs only [go_sem, Nat.reduceAdd, Nat.reduceLeDiff, Nat.reduceEqDiff, Nat.reduceBEq, Nat.reduceLT]
    · rw [if_pos h] at hsp
      repeat' (first
        | (refine go ?_; try simp -implicitDefEqProofs only [go_sem, Nat.reduceAdd, Nat.reduceLeDiff, Nat.reduceEqDiff, Nat.reduceBEq, Nat.reduceLT]) | fail)
      exact ⟨s.length - (i + 1), by omega, i + 1, by omega, rfl, by omega, by rw [e]⟩
    · rw [if_neg (by simp [h])] at hsp
      repeat' (first
        | (refine go ?_; try simp -implicitDefEqProofs only [go_sem, Nat.reduceAdd, Nat.reduceLeDiff, Nat.reduceEqDiff, Nat.reduceBEq, Nat.reduceLT, hslice hsp]) | fail)
  · have hge := iLt_false.1 h
    rw [sLen_eq] at hge
    have hsp : spanN p (s.drop i) = 0 := by
      rw [List.drop_eq_nil_of_le (by omega)]; rfl
    refine go ?_; simp -implicitDefEqProofs only [go_sem, Nat.reduceAdd, Nat.reduceLeDiff, Nat.reduceEqDiff, Nat.reduceBEq, Nat.reduceLT]
    repeat' (first
      | (refine go ?_; try simp -implicitDefEqProofs only [go_sem, Nat.reduceAdd, Nat.reduceLeDiff, Nat.reduceEqDiff, Nat.reduceBEq, Nat.reduceLT, hslice hsp]) | fail)

end Go.Proofs.YtkcljempplchkaaDoor

/- A token is made. -/
set_option maxRecDepth 100000
set_option linter.unusedVariables false
set_option linter.unusedSimpArgs false
namespace Go.Proofs.YtkcljempplchkaaDoor
open Go.Eng

def tokV (k : Int) (text : List UInt8) (i : Nat) : AVal := .agg [.int .i64 k, .str text, .int .i64 i]

theorem made_spec {O : Cfg} {s : List UInt8} {i : Nat} (k : Int) (text : List UInt8) {id idb : Nat} {H : Hp} (hb : H idb = some (.cells [.ref id 0])) (hx : H id = some (.cells [.str s, .int .i64 i])) :
    ACalls O Tryd.prog f_made [.int .i64 k, .str text, .ref idb 0] H (fun r H' => r = .ret (.tup [tokV k text i, .bool true]) ∧ H' = H) := by
  refine ACalls.forget ((entry (Q := fun r H' => r = .ret (.tup [tokV k text i, .bool true]) ∧ H.le H') h_made rfl ?_).mono ?_)
  · simp -implicitDefEqProofs only [go_sem, Nat.reduceAdd, Nat.reduceLeDiff, Nat.reduceEqDiff, Nat.reduceBEq, Nat.reduceLT, c_made]
    intro id3 h3
    have hb3 := fun o => upd_old (o' := o) hb h3
    have hx3 := fun o => upd_old (o' := o) hx h3
    simp -implicitDefEqProofs only [go_sem, Nat.reduceAdd, Nat.reduceLeDiff, Nat.reduceEqDiff, Nat.reduceBEq, Nat.reduceLT]
    refine go ?_; simp -implicitDefEqProofs only [go_sem, Nat.reduceAdd, Nat.reduceLeDiff, Nat.reduceEqDiff, Nat.reduceBEq, Nat.reduceLT, hb3, hx3]
    refine go ?_; simp -implicitDefEqProofs only [go_sem, Nat.reduceAdd, Nat.reduceLeDiff, Nat.reduceEqDiff, Nat.reduceBEq, Nat.reduceLT]
    exact ⟨rfl, le_upd h3⟩
  · rintro r H' ⟨rfl, hl⟩
    exact ⟨_, H, .refl _, hl, rfl, rfl⟩

end Go.Proofs.YtkcljempplchkaaDoor

/- The reference: where a run ends. -/
set_option maxRecDepth 100000
set_option linter.unusedVariables false
set_option linter.unusedSimpArgs false
namespace Go.Proofs.YtkcljempplchkaaDoor
open Go.Eng

def kindB (op : Bool) : UInt8 → Bool := if op then inOp else inName

theorem rrun_pure {O : Cfg} {s : List UInt8} (hs : s.length < 4611686018427387904) {i0 : Nat} (hi0 : i0 ≤ s.length) (op : Bool) :
    PureCall O f_rrun [.str s, .int .i64 i0, .bool op] (.int .i64 ((i0 + spanN (kindB op) (s.drop i0) : Nat) : Int)) := fun H => by
  refine entry h_rrun rfl ?_; simp -implicitDefEqProofs only [go_sem, Nat.reduceAdd, Nat.reduceLeDiff, Nat.reduceEqDiff, Nat.reduceBEq, Nat.reduceLT, c_rrun]
  repeat' (first
    | (refine go ?_; try simp -implicitDefEqProofs only [go_sem, Nat.reduceAdd, Nat.reduceLeDiff, Nat.reduceEqDiff, Nat.reduceBEq, Nat.reduceLT]) | fail)
  rw [wpC_loop]
  have hle := spanN_le (kindB op) (s.drop i0)
  rw [List.length_drop] at hle
  refine AC.loop (fun n st => ∃ i : Nat, i ≤ s.length ∧ n = s.length - i ∧ i + spanN (kindB op) (s.drop i) = i0 + spanN (kindB op) (s.drop i0) ∧ st = ⟨mk 35 [(0, .str s), (2, .bool op), (7, .int .i64 i)], H, []⟩) (s.length - i0) ⟨i0, hi0, rfl, rfl, rfl⟩ ?_
  rintro n _ ⟨i, hi, rfl, hb, rfl⟩
  simp -implicitDefEqProofs only [go_sem, Nat.reduceAdd, Nat.reduceLeDiff, Nat.reduceEqDiff, Nat.reduceBEq, Nat.reduceLT, l_rrun_0]
  refine go ?_; simp -implicitDefEqProofs only [go_sem, Nat.reduceAdd, Nat.reduceLeDiff, Nat.reduceEqDiff, Nat.reduceBEq, Nat.reduceLT]
  refine plan_split rfl rfl (fun h => ?_) (fun h => ?_) <;> simp -implicitDefEqProofs only [go_sem, Nat.reduceAdd, Nat.reduceLeDiff, Nat.reduceEqDiff, Nat.reduceBEq, Nat.reduceLT, h]
  · have hlt0 := iLt_true.1 h
    rw [sLen_eq] at hlt0
    have hlt : i < s.length := by omega
    obtain ⟨b, hb'⟩ : ∃ b, s[i]? = some b := ⟨_, List.getElem?_eq_getElem hlt⟩
    have e : wAdd .i64 (i : Int) 1 = ((i + 1 : Nat) : Int) := by rw [wAdd_i64] <;> omega
    have hsp := spanN_at (p := kindB op) hb'
    cases op <;> simp -implicitDefEqProofs only [go_sem, Nat.reduceAdd, Nat.reduceLeDiff, Nat.reduceEqDiff, Nat.reduceBEq, Nat.reduceLT, ixK_at hb']
    all_goals repeat' (first
      | (refine PureCall.step (rinOp_pure _) ?_; simp -implicitDefEqProofs only [go_sem, Nat.reduceAdd, Nat.reduceLeDiff, Nat.reduceEqDiff, Nat.reduceBEq, Nat.reduceLT, ixK_at hb'])
      | (refine PureCall.step (rinName_pure _) ?_; simp -implicitDefEqProofs only [go_sem, Nat.reduceAdd, Nat.reduceLeDiff, Nat.reduceEqDiff, Nat.reduceBEq, Nat.reduceLT, ixK_at hb'])
      | (refine wpC_split rfl rfl (fun h => ?_) (fun h => ?_) <;> simp -implicitDefEqProofs only [go_sem, Nat.reduceAdd, Nat.reduceLeDiff, Nat.reduceEqDiff, Nat.reduceBEq, Nat.reduceLT])
      | (refine plan_split rfl rfl (fun h => ?_) (fun h => ?_) <;> simp -implicitDefEqProofs only [go_sem, Nat.reduceAdd, Nat.reduceLeDiff, Nat.reduceEqDiff, Nat.reduceBEq, Nat.reduceLT, h, ixK_at hb'])
      | (refine go ?_; try simp -implicitDefEqProofs only [go_sem, Nat.reduceAdd, Nat.reduceLeDiff, Nat.reduceEqDiff, Nat.reduceBEq, Nat.reduceLT]) | fail)
    · rw [if_pos (show kindB false b = true from h)] at hsp
      exact ⟨s.length - (i + 1), by omega, i + 1, by omega, rfl, by omega, by rw [e]⟩
    · rw [if_neg (by rw [show kindB false b = false from h]; simp)] at hsp
      rw [hsp, Nat.add_zero] at hb
      rw [hb]
    · rw [if_pos (show kindB true b = true from h)] at hsp
      exact ⟨s.length - (i + 1), by omega, i + 1, by omega, rfl, by omega, by rw [e]⟩
    · rw [if_neg (by rw [show kindB true b = false from h]; simp)] at hsp
      rw [hsp, Nat.add_zero] at hb
      rw [hb]
  · have hge := iLt_false.1 h
    rw [sLen_eq] at hge
    have hsp : spanN (kindB op) (s.drop i) = 0 := by
      rw [List.drop_eq_nil_of_le (by omega)]; rfl
    rw [hsp, Nat.add_zero] at hb
    repeat' (first
      | (refine go ?_; try simp -implicitDefEqProofs only [go_sem, Nat.reduceAdd, Nat.reduceLeDiff, Nat.reduceEqDiff, Nat.reduceBEq, Nat.reduceLT, hb]) | fail)

end Go.Proofs.YtkcljempplchkaaDoor

/- Lists of tokens compared. -/
set_option maxRecDepth 100000
set_option linter.unusedVariables false
set_option linter.unusedSimpArgs false
namespace Go.Proofs.YtkcljempplchkaaDoor
open Go.Eng

structure Token where
  kind : Int
  text : List UInt8
  pos : Int
  deriving DecidableEq

def tokRow (t : Token) : List AVal := [.int .i64 t.kind, .str t.text, .int .i64 t.pos]
def tokRows (l : List Token) : List (List AVal) := l.map tokRow
theorem iaddrA_tok {l : List Token} {i : Nat} {t : Token} (h : l[i]? = some t) : iaddrA 3 (tokRows l) (i : Int) = some (.ip [.int .i64 t.kind, .str t.text, .int .i64 t.pos]) := by
  simp [iaddrA, tokRows, h, tokRow]
theorem rLen_tok (l : List Token) : rLen (tokRows l) = (l.length : Int) := by simp [rLen, tokRows]

def sameT (w : Bool) (x y : Token) : Bool := iEq x.kind y.kind && sEq x.text y.text && (!w || iEq x.pos y.pos)
def sameL (w : Bool) : List Token → List Token → Bool
  | [], [] => true
  | x :: a, y :: b => sameT w x y && sameL w a b
  | _, _ => false
theorem sameL_len {w : Bool} : ∀ {a b : List Token}, a.length ≠ b.length → sameL w a b = false
  | [], [], h => absurd rfl h
  | x :: a, y :: b, h => by
    rw [sameL, sameL_len (by simpa using h), Bool.and_false]
  | [], _ :: _, _ => rfl
  | _ :: _, [], _ => rfl
theorem sameL_at {w : Bool} {a b : List Token} {i : Nat} {x y : Token} (hx : a[i]? = some x) (hy : b[i]? = some y) : sameL w (a.drop i) (b.drop i) = (sameT w x y && sameL w (a.drop (i + 1)) (b.drop (i + 1))) := by
  have h1 := (List.getElem?_eq_some_iff.1 hx).1
  have h2 := (List.getElem?_eq_some_iff.1 hy).1
  rw [List.drop_eq_getElem_cons h1, List.drop_eq_getElem_cons h2]
  rw [List.getElem?_eq_getElem h1] at hx
  rw [List.getElem?_eq_getElem h2] at hy
  cases hx; cases hy
  rfl

theorem rSame_pure {O : Cfg} (a b : List Token) (ha : a.length < 1000000) (hb : b.length < 1000000) (t u : Tok) (w : Bool) : PureCall O f_rSame [.sl (tokRows a) t, .sl (tokRows b) u, .bool w] (.bool (sameL w a b)) := fun H => by
  refine entry h_rSame rfl ?_; simp -implicitDefEqProofs only [go_sem, Nat.reduceAdd, Nat.reduceLeDiff, Nat.reduceEqDiff, Nat.reduceBEq, Nat.reduceLT, c_rSame]
  refine AC.cut (fun st => a.length = b.length ∧ st = ⟨mk 59 [(0, .sl (tokRows a) t), (1, .sl (tokRows b) u), (2, .bool w)], H, []⟩) ?_ ?_
  · repeat' (first
      | (refine wpC_split rfl rfl (fun h => ?_) (fun h => ?_) <;> simp -implicitDefEqProofs only [go_sem, Nat.reduceAdd, Nat.reduceLeDiff, Nat.reduceEqDiff, Nat.reduceBEq, Nat.reduceLT])
      | (refine go ?_; try simp -implicitDefEqProofs only [go_sem, Nat.reduceAdd, Nat.reduceLeDiff, Nat.reduceEqDiff, Nat.reduceBEq, Nat.reduceLT]) | fail)
    · have h1 := iEq_false.1 (bNot_true.1 h)
      rw [rLen_tok, rLen_tok] at h1
      rw [sameL_len (fun e => h1 (by rw [e]))]
    · have h1 := iEq_true.1 (bNot_false.1 h)
      rw [rLen_tok, rLen_tok] at h1
      first | omega | exact ⟨by omega, rfl⟩
  · rintro _ ⟨hlen, rfl⟩
    refine go ?_; simp -implicitDefEqProofs only [go_sem, Nat.reduceAdd, Nat.reduceLeDiff, Nat.reduceEqDiff, Nat.reduceBEq, Nat.reduceLT]
    refine go ?_; simp -implicitDefEqProofs only [go_sem, Nat.reduceAdd, Nat.reduceLeDiff, Nat.reduceEqDiff, Nat.reduceBEq, Nat.reduceLT]
    rw [wpC_loop]
    refine AC.loop (fun n st => ∃ i : Nat, i + n = a.length ∧ sameL w (a.drop i) (b.drop i) = sameL w a b ∧ st = ⟨mk 59 [(0, .sl (tokRows a) t), (1, .sl (tokRows b) u), (2, .bool w), (14, .int .i64 (rLen (tokRows a))), (15, .int .i64 i)], H, []⟩) a.length ⟨0, by omega, rfl, rfl⟩ ?_
    rintro n _ ⟨i, hi, hall, rfl⟩
    simp -implicitDefEqProofs only [go_sem, Nat.reduceAdd, Nat.reduceLeDiff, Nat.reduceEqDiff, Nat.reduceBEq, Nat.reduceLT, l_rSame_0]
    refine go ?_; simp -implicitDefEqProofs only [go_sem, Nat.reduceAdd, Nat.reduceLeDiff, Nat.reduceEqDiff, Nat.reduceBEq, Nat.reduceLT]
    refine go ?_; simp -implicitDefEqProofs only [go_sem, Nat.reduceAdd, Nat.reduceLeDiff, Nat.reduceEqDiff, Nat.reduceBEq, Nat.reduceLT]
    refine wpC_split rfl rfl (fun h => ?_) (fun h => ?_) <;> simp -implicitDefEqProofs only [go_sem, Nat.reduceAdd, Nat.reduceLeDiff, Nat.reduceEqDiff, Nat.reduceBEq, Nat.reduceLT]
    · rw [iLt_true, rLen_tok] at h
      obtain ⟨x, hx⟩ : ∃ x, a[i]? = some x := ⟨_, List.getElem?_eq_getElem (by omega)⟩
      obtain ⟨y, hy⟩ : ∃ y, b[i]? = some y := ⟨_, List.getElem?_eq_getElem (by omega)⟩
      have e : wAdd .i64 (i : Int) 1 = ((i + 1 : Nat) : Int) := by rw [wAdd_i64] <;> omega
      rw [sameL_at hx hy] at hall
      refine go ?_; simp -implicitDefEqProofs only [go_sem, Nat.reduceAdd, Nat.reduceLeDiff, Nat.reduceEqDiff, Nat.reduceBEq, Nat.reduceLT]
      refine go ?_; simp -implicitDefEqProofs only [go_sem, Nat.reduceAdd, Nat.reduceLeDiff, Nat.reduceEqDiff, Nat.reduceBEq, Nat.reduceLT, iaddrA_tok hx, iaddrA_tok hy]
      cases w
      all_goals repeat' (first
        | (refine wpC_split rfl rfl (fun h => ?_) (fun h => ?_) <;> simp -implicitDefEqProofs only [go_sem, Nat.reduceAdd, Nat.reduceLeDiff, Nat.reduceEqDiff, Nat.reduceBEq, Nat.reduceLT])
        | (refine plan_split rfl rfl (fun h => ?_) (fun h => ?_) <;> simp -implicitDefEqProofs only [go_sem, Nat.reduceAdd, Nat.reduceLeDiff, Nat.reduceEqDiff, Nat.reduceBEq, Nat.reduceLT, h, iaddrA_tok hx, iaddrA_tok hy])
        | (refine planD_split rfl rfl (fun h => ?_) (fun h => ?_) <;> simp -implicitDefEqProofs only [go_sem, Nat.reduceAdd, Nat.reduceLeDiff, Nat.reduceEqDiff, Nat.reduceBEq, Nat.reduceLT, h, iaddrA_tok hx, iaddrA_tok hy])
        | (refine go ?_; try simp -implicitDefEqProofs only [go_sem, Nat.reduceAdd, Nat.reduceLeDiff, Nat.reduceEqDiff, Nat.reduceBEq, Nat.reduceLT]) | fail)
      all_goals first
        | exact ⟨n - 1, by omega, i + 1, by omega, by rw [← hall]; simp_all [sameT, bNot_false], by rw [e]⟩
        | (rw [← hall]; simp_all [sameT, bNot_true, bNot_false])
    · repeat' (first
        | (refine go ?_; try simp -implicitDefEqProofs only [go_sem, Nat.reduceAdd, Nat.reduceLeDiff, Nat.reduceEqDiff, Nat.reduceBEq, Nat.reduceLT]) | fail)
      rw [iLt_false, rLen_tok] at h
      rw [← hall, List.drop_eq_nil_of_le (by omega), List.drop_eq_nil_of_le (by omega)]
      rfl

end Go.Proofs.YtkcljempplchkaaDoor

/- The reference: numbers. -/
set_option maxRecDepth 100000
set_option linter.unusedVariables false
set_option linter.unusedSimpArgs false
namespace Go.Proofs.YtkcljempplchkaaDoor
open Go.Eng

def maxText : List UInt8 := [57, 50, 50, 51, 51, 55, 50, 48, 51, 54, 56, 53, 52, 55, 55, 53, 56, 48, 55]
def numHead (s : List UInt8) : Bool := !(iLt (sLen s) 1 || iLt 19 (sLen s) || (iEq (uC (s.headD 0)) 48 && iLt 1 (sLen s)) || (iEq (sLen s) 19 && sGt s maxText))
def isNum (s : List UInt8) : Bool := numHead s && s.all digit

theorem rIsNumber_pure {O : Cfg} (s : List UInt8) : PureCall O f_rIsNumber [.str s] (.bool (isNum s)) := fun H => by
  refine entry h_rIsNumber rfl ?_; simp -implicitDefEqProofs only [go_sem, Nat.reduceAdd, Nat.reduceLeDiff, Nat.reduceEqDiff, Nat.reduceBEq, Nat.reduceLT, c_rIsNumber]
  refine AC.cut (fun st => numHead s = true ∧ st = ⟨mk 42 [(0, .str s)], H, []⟩) ?_ ?_
  · cases s with
    | nil =>
      have h0 : iLt (sLen []) 1 = true := by decide
      refine go ?_; simp -implicitDefEqProofs only [go_sem, Nat.reduceAdd, Nat.reduceLeDiff, Nat.reduceEqDiff, Nat.reduceBEq, Nat.reduceLT, h0]
      repeat' (first
        | (refine go ?_; try simp -implicitDefEqProofs only [go_sem, Nat.reduceAdd, Nat.reduceLeDiff, Nat.reduceEqDiff, Nat.reduceBEq, Nat.reduceLT]) | fail)
      rfl
    | cons b t =>
      have h0 : iLt (sLen (b :: t)) 1 = false := by rw [iLt_false, sLen_eq]; simp; omega
      refine go ?_; simp -implicitDefEqProofs only [go_sem, Nat.reduceAdd, Nat.reduceLeDiff, Nat.reduceEqDiff, Nat.reduceBEq, Nat.reduceLT, h0, ixK_zero]
      repeat' (first
        | (refine wpC_split rfl rfl (fun h => ?_) (fun h => ?_) <;> simp -implicitDefEqProofs only [go_sem, Nat.reduceAdd, Nat.reduceLeDiff, Nat.reduceEqDiff, Nat.reduceBEq, Nat.reduceLT])
        | (refine plan_split rfl rfl (fun h => ?_) (fun h => ?_) <;> simp -implicitDefEqProofs only [go_sem, Nat.reduceAdd, Nat.reduceLeDiff, Nat.reduceEqDiff, Nat.reduceBEq, Nat.reduceLT, h, ixK_zero])
        | (refine go ?_; try simp -implicitDefEqProofs only [go_sem, Nat.reduceAdd, Nat.reduceLeDiff, Nat.reduceEqDiff, Nat.reduceBEq, Nat.reduceLT]) | fail)
      all_goals first
        | exact ⟨by simp_all [numHead, maxText], rfl⟩
        | simp_all [isNum, numHead, maxText]
  · rintro _ ⟨hh, rfl⟩
    refine go ?_; simp -implicitDefEqProofs only [go_sem, Nat.reduceAdd, Nat.reduceLeDiff, Nat.reduceEqDiff, Nat.reduceBEq, Nat.reduceLT]
    refine go ?_; simp -implicitDefEqProofs only [go_sem, Nat.reduceAdd, Nat.reduceLeDiff, Nat.reduceEqDiff, Nat.reduceBEq, Nat.reduceLT]
    have hlen : s.length ≤ 19 := by
      simp only [numHead, Bool.not_eq_true', Bool.or_eq_false_iff] at hh
      have := iLt_false.1 hh.1.1.2
      rw [sLen_eq] at this
      omega
    rw [wpC_loop]
    refine AC.loop (fun n st => ∃ i : Nat, i + n = s.length ∧ (s.take i).all digit = true ∧ st = ⟨mk 42 [(0, .str s), (32, .int .i64 (sLen s)), (33, .int .i64 i)], H, []⟩) s.length ⟨0, by omega, rfl, rfl⟩ ?_
    rintro n _ ⟨i, hi, hall, rfl⟩
    simp -implicitDefEqProofs only [go_sem, Nat.reduceAdd, Nat.reduceLeDiff, Nat.reduceEqDiff, Nat.reduceBEq, Nat.reduceLT, l_rIsNumber_0]
    repeat' (first
      | (refine wpC_split rfl rfl (fun h => ?_) (fun h => ?_) <;> simp -implicitDefEqProofs only [go_sem, Nat.reduceAdd, Nat.reduceLeDiff, Nat.reduceEqDiff, Nat.reduceBEq, Nat.reduceLT])
      | (refine go ?_; try simp -implicitDefEqProofs only [go_sem, Nat.reduceAdd, Nat.reduceLeDiff, Nat.reduceEqDiff, Nat.reduceBEq, Nat.reduceLT]) | fail)
    · rw [iLt_true, sLen_eq] at h
      have hlt : i < s.length := by omega
      obtain ⟨b, hb⟩ : ∃ b, s[i]? = some b := ⟨_, List.getElem?_eq_getElem hlt⟩
      simp -implicitDefEqProofs only [go_sem, Nat.reduceAdd, Nat.reduceLeDiff, Nat.reduceEqDiff, Nat.reduceBEq, Nat.reduceLT, ixK_at hb]
      refine PureCall.step (rdigit_pure _) ?_; simp -implicitDefEqProofs only [go_sem, Nat.reduceAdd, Nat.reduceLeDiff, Nat.reduceEqDiff, Nat.reduceBEq, Nat.reduceLT]
      have e : wAdd .i64 (i : Int) 1 = ((i + 1 : Nat) : Int) := by rw [wAdd_i64] <;> omega
      repeat' (first
        | (refine wpC_split rfl rfl (fun h => ?_) (fun h => ?_) <;> simp -implicitDefEqProofs only [go_sem, Nat.reduceAdd, Nat.reduceLeDiff, Nat.reduceEqDiff, Nat.reduceBEq, Nat.reduceLT])
        | (refine go ?_; try simp -implicitDefEqProofs only [go_sem, Nat.reduceAdd, Nat.reduceLeDiff, Nat.reduceEqDiff, Nat.reduceBEq, Nat.reduceLT]) | fail)
      · rw [show isNum s = false by rw [isNum, all_no hb (bNot_true.1 h), Bool.and_false]]
      · exact ⟨n - 1, by omega, i + 1, by omega, all_next hb (bNot_false.1 h) hall, by rw [e]⟩
    · rw [iLt_false, sLen_eq] at h
      have : i = s.length := by omega
      subst this
      rw [List.take_length] at hall
      simp [isNum, hh, hall]

end Go.Proofs.YtkcljempplchkaaDoor

/- The reference: is a text one of its kind? -/
set_option maxRecDepth 100000
set_option linter.unusedVariables false
set_option linter.unusedSimpArgs false
namespace Go.Proofs.YtkcljempplchkaaDoor
open Go.Eng

def tokA (t : Token) : AVal := .agg (tokRow t)
def isKind (k : Int) (s : List UInt8) : Bool :=
  if iEq k 1 then rIsSmall s else if iEq k 2 then rIsCapital s else if iEq k 3 then rIsOp s else if iEq k 4 then isNum s else if iEq k 5 then rruns.contains s || rbytes.contains s else if iEq k 6 then words.contains s else iEq k 7 && sEq s []

theorem wk_of_eq {a b : AVal} (h : a = b) : Wk a b := h ▸ .refl a

theorem rIs_pure {O : Cfg} (t : Token) : PureCall O f_rIs [tokA t] (.bool (isKind t.kind t.text)) := by
  refine entryF h_rIs rfl fun H => ?_; simp -implicitDefEqProofs only [go_sem, Nat.reduceAdd, Nat.reduceLeDiff, Nat.reduceEqDiff, Nat.reduceBEq, Nat.reduceLT, c_rIs]
  refine ⟨rfl, fun id hid => ?_⟩
  simp -implicitDefEqProofs only [go_sem, Nat.reduceAdd, Nat.reduceLeDiff, Nat.reduceEqDiff, Nat.reduceBEq, Nat.reduceLT, tokA, tokRow]
  refine go ?_; simp -implicitDefEqProofs only [go_sem, Nat.reduceAdd, Nat.reduceLeDiff, Nat.reduceEqDiff, Nat.reduceBEq, Nat.reduceLT]
  refine go ?_; simp -implicitDefEqProofs only [go_sem, Nat.reduceAdd, Nat.reduceLeDiff, Nat.reduceEqDiff, Nat.reduceBEq, Nat.reduceLT]
  repeat' (first
    | (refine PureCall.step (rIsSmall_pure _) ?_; simp -implicitDefEqProofs only [go_sem, Nat.reduceAdd, Nat.reduceLeDiff, Nat.reduceEqDiff, Nat.reduceBEq, Nat.reduceLT])
    | (refine PureCall.step (rIsCapital_pure _) ?_; simp -implicitDefEqProofs only [go_sem, Nat.reduceAdd, Nat.reduceLeDiff, Nat.reduceEqDiff, Nat.reduceBEq, Nat.reduceLT])
    | (refine PureCall.step (rIsOp_pure _) ?_; simp -implicitDefEqProofs only [go_sem, Nat.reduceAdd, Nat.reduceLeDiff, Nat.reduceEqDiff, Nat.reduceBEq, Nat.reduceLT])
    | (refine PureCall.step (rIsNumber_pure _) ?_; simp -implicitDefEqProofs only [go_sem, Nat.reduceAdd, Nat.reduceLeDiff, Nat.reduceEqDiff, Nat.reduceBEq, Nat.reduceLT])
    | (refine PureCall.step rruns_pure ?_; simp -implicitDefEqProofs only [go_sem, Nat.reduceAdd, Nat.reduceLeDiff, Nat.reduceEqDiff, Nat.reduceBEq, Nat.reduceLT])
    | (refine PureCall.step rbytes_pure ?_; simp -implicitDefEqProofs only [go_sem, Nat.reduceAdd, Nat.reduceLeDiff, Nat.reduceEqDiff, Nat.reduceBEq, Nat.reduceLT])
    | (refine PureCall.step rWords_pure ?_; simp -implicitDefEqProofs only [go_sem, Nat.reduceAdd, Nat.reduceLeDiff, Nat.reduceEqDiff, Nat.reduceBEq, Nat.reduceLT])
    | (refine PureCall.step (rhas_pure _ (by decide) _ _) ?_; simp -implicitDefEqProofs only [go_sem, Nat.reduceAdd, Nat.reduceLeDiff, Nat.reduceEqDiff, Nat.reduceBEq, Nat.reduceLT])
    | (refine wpC_split rfl rfl (fun h => ?_) (fun h => ?_) <;> simp -implicitDefEqProofs only [go_sem, Nat.reduceAdd, Nat.reduceLeDiff, Nat.reduceEqDiff, Nat.reduceBEq, Nat.reduceLT])
    | (refine plan_split rfl rfl (fun h => ?_) (fun h => ?_) <;> simp -implicitDefEqProofs only [go_sem, Nat.reduceAdd, Nat.reduceLeDiff, Nat.reduceEqDiff, Nat.reduceBEq, Nat.reduceLT, h])
    | (refine planD_split rfl rfl (fun h => ?_) (fun h => ?_) <;> simp -implicitDefEqProofs only [go_sem, Nat.reduceAdd, Nat.reduceLeDiff, Nat.reduceEqDiff, Nat.reduceBEq, Nat.reduceLT, h])
    | (refine go ?_; try simp -implicitDefEqProofs only [go_sem, Nat.reduceAdd, Nat.reduceLeDiff, Nat.reduceEqDiff, Nat.reduceBEq, Nat.reduceLT]) | fail)
  all_goals
    refine ⟨_, rfl, ?_, le_upd hid⟩
    refine wk_of_eq (congrArg AVal.bool ?_)
    simp_all [isKind]

end Go.Proofs.YtkcljempplchkaaDoor

/- Numbers: strconv.Atoi and Itoa by the library's contracts. -/
set_option maxRecDepth 100000
set_option linter.unusedVariables false
set_option linter.unusedSimpArgs false
namespace Go.Proofs.YtkcljempplchkaaDoor
open Go.Eng Go.RowKit Go.Sort

/-- What only lays new blocks changes nothing that counts. -/
theorem wr_below {base : Nat} {w0 w w' : World} {H : Hp} {G : Gh} (h : Wr base w0 H G w) (hb : Below w.heap.size w w') : Wr base w0 H G w' ∧ GExt G w G w' ∧ Fr H G w H G w' := by
  have hc : ∀ b, b < w.heap.size → w'.heap[b]? = w.heap[b]? := hb.block
  have x : GExt G w G w' := ⟨hb.size, fun b hb => shape?_of_heap (hc b hb), fun b hb hf => ⟨hf, hc b hb⟩, fun b n hb hf => ⟨fun n' hn' => by rw [hf] at hn'; cases hn'; exact Nat.le_refl _, fun o _ => cell?_of_heap (hc b hb)⟩,
    fun _ _ h => h, fun _ h => h, fun id b m s h => .inr ⟨b, m, s, h, Nat.le_refl _, fun _ => ⟨rfl, rfl⟩⟩⟩
  exact ⟨⟨h.below.trans (hb.mono h.le), Nat.le_trans h.le hb.size, h.old, fun b hb' => h.new b (Nat.le_trans hb.size hb'),
    fun id o' hi => (h.ob id o' hi).mono x rfl fun b hb' => ⟨rfl, (by
      obtain ⟨b', h1, h2, _⟩ := (h.ob id o' hi).lt
      rw [h1] at hb'; cases hb'
      exact hc b h2)⟩, h.apart, h.fresh⟩, x, fun b hb' _ => ⟨hc b hb', rfl⟩, fun _ _ h => h⟩

/-- A library's function that only lays new blocks. -/
theorem lib_pure {O : Cfg} {f : FuncId} {fn : Func} {args : List AVal} {v : AVal} (hf : Tryd.prog.funcs[f]? = some fn) (hn : (fn.name == "runtime.NumGoroutine") = false) (hb : fn.body.isNone = false)
    (h : ∀ base w0 H G w vs, O.L base w0 → Wr base w0 H G w → Reps G w args vs → Calls Tryd.prog f (List.toArray vs) w fun e w' => Below w.heap.size w w' ∧ ∃ u, e = .returned u ∧ (∀ G', Rep G' w' v u)) : PureCall O f args v := fun H =>
  lib_calls hf hn hb fun base w0 G w vs hL hw hvs => (h base w0 H G w vs hL hw hvs).mono fun e w' ⟨hb, u, he, hr⟩ => by
    subst he
    obtain ⟨k1, k2, k3⟩ := wr_below hw hb
    exact ⟨v, H, G, hr G, ⟨rfl, rfl⟩, k1, k2, k3⟩

theorem var_below {base : Nat} {w0 w : World} {name : String} {g : Nat} (hg : Tryd.prog.globalNamed name = some g) (hlt : g < base) (hb : Below base w0 w) : w.var? Tryd.prog name = w0.var? Tryd.prog name := by
  unfold World.var?
  rw [hg]
  simp only [Option.bind_some]
  rw [hb.block g hlt]

/-- How Atoi ends. -/
def atoiV (s : List UInt8) : AVal := match Lib.atoiAll s with
  | .ok v => .tup [.int .i64 v, .nilif]
  | .range => .tup [.int .i64 (Lib.atoiSat s), .iface 98 .unk]
  | _ => .tup [.int .i64 0, .iface 98 .unk]

theorem Atoi_pure (s : List UInt8) (hs : s.length ≤ 281474976710656) : PureCall lexC f_Atoi [.str s] (atoiV s) := by
  refine lib_pure Tryd.func73 (by kernel_rfl) (by kernel_rfl) ?_
  intro base w0 H G w vs hL hw hvs
  obtain ⟨u, rfl, hu⟩ := reps_one hvs
  rw [hu.str_inv]
  obtain ⟨hL1, _, _, ⟨tp, p, hp⟩, tr, r, hr⟩ := hL
  have e1 := (var_below (by kernel_rfl : Tryd.prog.globalNamed "strconv.ErrSyntax" = some 3) (by omega) hw.below).trans hp
  have e2 := (var_below (by kernel_rfl : Tryd.prog.globalNamed "strconv.ErrRange" = some 4) (by omega) hw.below).trans hr
  unfold atoiV
  cases h : Lib.atoiAll s
  · rename_i v
    refine (Tryd.strconv_Atoi_ok ⟨s.toArray⟩ (by simp [ByteArray.size]; omega) v (by simpa using h) w).mono ?_
    rintro e w' ⟨rfl, hw'⟩
    refine ⟨?_, _, rfl, fun G' => .tup' (Reps.cons (.int _ _) (Reps.cons .nilif Reps.nil))⟩
    rcases hw' with rfl | ⟨t, rfl⟩
    · exact Below.refl _ _
    · exact Lib.bytesWorld_below _ _ _
  · refine (Any.strconv_Atoi_syntax_var Tryd.laysC172 ⟨s.toArray⟩ (by simpa [ByteArray.size] using hs) (by simpa using h) tp p w e1).mono ?_
    rintro e w' ⟨N, rfl, _, _, hb⟩
    exact ⟨hb, _, rfl, fun G' => .tup' (Reps.cons (.int _ _) (Reps.cons (.iface (.unk _)) Reps.nil))⟩
  · refine (Tryd.strconv_Atoi_range_var ⟨s.toArray⟩ (by simpa [ByteArray.size] using hs) (by simpa using h) tr r w e2).mono ?_
    rintro e w' ⟨N, rfl, _, _, hb⟩
    exact ⟨hb, _, rfl, fun G' => .tup' (Reps.cons (.int _ _) (Reps.cons (.iface (.unk _)) Reps.nil))⟩

theorem below_grow_drew (w : World) (k : Nat) (os : Array Obj) : Below w.heap.size w (grow (w.drewN k) os) := by
  refine ⟨rfl, rfl, rfl, ?_, fun j hj => ?_⟩
  · show w.heap.size ≤ (w.heap ++ os).size
    rw [Array.size_append]; omega
  · show (w.heap ++ os)[j]? = w.heap[j]?
    rw [Array.getElem?_append_left hj]

theorem Itoa_pure (n : Int) (h0 : -9223372036854775808 ≤ n) (h1 : n ≤ 9223372036854775807) : PureCall lexC f_Itoa [.int .i64 n] (.str (Lib.itoa n)) := by
  refine lib_pure Tryd.func74 (by kernel_rfl) (by kernel_rfl) ?_
  intro base w0 H G w vs hL hw hvs
  obtain ⟨u, rfl, hu⟩ := reps_one hvs
  rw [hu.int_inv]
  have htab := tab_below (by kernel_rfl : Tryd.prog.globalNamed "internal/strconv.uint64pow10" = some 5) (by have := hL.1; omega) hw.below hL.2.2.1
  refine (Tryd.strconv_Itoa n h0 h1 w htab).mono ?_
  rintro e w' ⟨rfl, k, os, rfl⟩
  exact ⟨below_grow_drew _ _ _, _, rfl, fun G' => .str _⟩

end Go.Proofs.YtkcljempplchkaaDoor

/- Numbers: lexis and the reference agree. -/
set_option maxRecDepth 100000
set_option linter.unusedVariables false
set_option linter.unusedSimpArgs false
namespace Go.Proofs.YtkcljempplchkaaDoor
open Go.Eng

theorem ACalls.step {O : Cfg} {f : FuncId} {args : List AVal} {v : AVal} {H H2 : Hp} (h : ACalls O Tryd.prog f args H (fun r H' => r = .ret v ∧ H' = H2)) {ds : List ADef} {R E : Res} (k : R v H2 ds) : ACalls O Tryd.prog f args H (callPost ds R E) :=
  h.mono (by rintro r H' ⟨rfl, rfl⟩; exact k)

def number (s : List UInt8) : Bool := match Lib.atoiAll s with
  | .ok v => iLe 0 v && sEq (Lib.itoa v) s
  | _ => false

theorem number_pure (s : List UInt8) (hs : s.length ≤ 281474976710656) : PureCall lexC f_number [.str s] (.bool (number s)) := fun H => by
  refine entry h_number rfl ?_; simp -implicitDefEqProofs only [go_sem, Nat.reduceAdd, Nat.reduceLeDiff, Nat.reduceEqDiff, Nat.reduceBEq, Nat.reduceLT, c_number]
  refine go ?_; simp -implicitDefEqProofs only [go_sem, Nat.reduceAdd, Nat.reduceLeDiff, Nat.reduceEqDiff, Nat.reduceBEq, Nat.reduceLT]
  refine PureCall.step (Atoi_pure _ hs) ?_
  unfold atoiV number
  cases hA : Lib.atoiAll s
  · obtain ⟨h0, h1⟩ := Lib.atoiAll_bounds hA
    simp -implicitDefEqProofs only [go_sem, Nat.reduceAdd, Nat.reduceLeDiff, Nat.reduceEqDiff, Nat.reduceBEq, Nat.reduceLT]
    repeat' (first | ((with_reducible refine PureCall.step (Itoa_pure _ h0 h1) ?_); simp -implicitDefEqProofs only [go_sem, Nat.reduceAdd, Nat.reduceLeDiff, Nat.reduceEqDiff, Nat.reduceBEq, Nat.reduceLT]) | (refine wpC_split rfl rfl (fun h => ?_) (fun h => ?_) <;> (try simp -implicitDefEqProofs only [go_sem, Nat.reduceAdd, Nat.reduceLeDiff, Nat.reduceEqDiff, Nat.reduceBEq, Nat.reduceLT, h])) | (refine plan_split rfl rfl (fun h => ?_) (fun h => ?_) <;> simp -implicitDefEqProofs only [go_sem, Nat.reduceAdd, Nat.reduceLeDiff, Nat.reduceEqDiff, Nat.reduceBEq, Nat.reduceLT, h]) | (refine planD_split rfl rfl (fun h => ?_) (fun h => ?_) <;> simp -implicitDefEqProofs only [go_sem, Nat.reduceAdd, Nat.reduceLeDiff, Nat.reduceEqDiff, Nat.reduceBEq, Nat.reduceLT, h]) | (refine go ?_; try simp -implicitDefEqProofs only [go_sem, Nat.reduceAdd, Nat.reduceLeDiff, Nat.reduceEqDiff, Nat.reduceBEq, Nat.reduceLT]) | ((with_reducible refine wpC_id ?_); simp -implicitDefEqProofs only [go_sem, Nat.reduceAdd, Nat.reduceLeDiff, Nat.reduceEqDiff, Nat.reduceBEq, Nat.reduceLT]) | ((with_reducible first | refine quiet_id ?_ | refine wrote_id ?_ | refine resQ_id ?_); simp -implicitDefEqProofs only [go_sem, Nat.reduceAdd, Nat.reduceLeDiff, Nat.reduceEqDiff, Nat.reduceBEq, Nat.reduceLT]) | fail)
    all_goals simp_all
  · simp -implicitDefEqProofs only [go_sem, Nat.reduceAdd, Nat.reduceLeDiff, Nat.reduceEqDiff, Nat.reduceBEq, Nat.reduceLT]
    repeat' (first | (refine wpC_split rfl rfl (fun h => ?_) (fun h => ?_) <;> (try simp -implicitDefEqProofs only [go_sem, Nat.reduceAdd, Nat.reduceLeDiff, Nat.reduceEqDiff, Nat.reduceBEq, Nat.reduceLT, h])) | (refine plan_split rfl rfl (fun h => ?_) (fun h => ?_) <;> simp -implicitDefEqProofs only [go_sem, Nat.reduceAdd, Nat.reduceLeDiff, Nat.reduceEqDiff, Nat.reduceBEq, Nat.reduceLT, h]) | (refine planD_split rfl rfl (fun h => ?_) (fun h => ?_) <;> simp -implicitDefEqProofs only [go_sem, Nat.reduceAdd, Nat.reduceLeDiff, Nat.reduceEqDiff, Nat.reduceBEq, Nat.reduceLT, h]) | (refine go ?_; try simp -implicitDefEqProofs only [go_sem, Nat.reduceAdd, Nat.reduceLeDiff, Nat.reduceEqDiff, Nat.reduceBEq, Nat.reduceLT]) | ((with_reducible refine wpC_id ?_); simp -implicitDefEqProofs only [go_sem, Nat.reduceAdd, Nat.reduceLeDiff, Nat.reduceEqDiff, Nat.reduceBEq, Nat.reduceLT]) | ((with_reducible first | refine quiet_id ?_ | refine wrote_id ?_ | refine resQ_id ?_); simp -implicitDefEqProofs only [go_sem, Nat.reduceAdd, Nat.reduceLeDiff, Nat.reduceEqDiff, Nat.reduceBEq, Nat.reduceLT]) | fail)
  · simp -implicitDefEqProofs only [go_sem, Nat.reduceAdd, Nat.reduceLeDiff, Nat.reduceEqDiff, Nat.reduceBEq, Nat.reduceLT]
    repeat' (first | (refine wpC_split rfl rfl (fun h => ?_) (fun h => ?_) <;> (try simp -implicitDefEqProofs only [go_sem, Nat.reduceAdd, Nat.reduceLeDiff, Nat.reduceEqDiff, Nat.reduceBEq, Nat.reduceLT, h])) | (refine plan_split rfl rfl (fun h => ?_) (fun h => ?_) <;> simp -implicitDefEqProofs only [go_sem, Nat.reduceAdd, Nat.reduceLeDiff, Nat.reduceEqDiff, Nat.reduceBEq, Nat.reduceLT, h]) | (refine planD_split rfl rfl (fun h => ?_) (fun h => ?_) <;> simp -implicitDefEqProofs only [go_sem, Nat.reduceAdd, Nat.reduceLeDiff, Nat.reduceEqDiff, Nat.reduceBEq, Nat.reduceLT, h]) | (refine go ?_; try simp -implicitDefEqProofs only [go_sem, Nat.reduceAdd, Nat.reduceLeDiff, Nat.reduceEqDiff, Nat.reduceBEq, Nat.reduceLT]) | ((with_reducible refine wpC_id ?_); simp -implicitDefEqProofs only [go_sem, Nat.reduceAdd, Nat.reduceLeDiff, Nat.reduceEqDiff, Nat.reduceBEq, Nat.reduceLT]) | ((with_reducible first | refine quiet_id ?_ | refine wrote_id ?_ | refine resQ_id ?_); simp -implicitDefEqProofs only [go_sem, Nat.reduceAdd, Nat.reduceLeDiff, Nat.reduceEqDiff, Nat.reduceBEq, Nat.reduceLT]) | fail)

/-! ### Numerals -/
def val (l : List UInt8) : Nat := l.foldl (fun a c => a * 10 + (c.toNat - 48)) 0
def valF (a : Nat) (l : List UInt8) : Nat := l.foldl (fun a c => a * 10 + (c.toNat - 48)) a
theorem valF_cons (a : Nat) (c : UInt8) (l : List UInt8) : valF a (c :: l) = valF (a * 10 + (c.toNat - 48)) l := by simp only [valF, List.foldl_cons]
theorem val_snoc (l : List UInt8) (c : UInt8) : val (l ++ [c]) = val l * 10 + (c.toNat - 48) := by simp [val]
theorem digit_iff (c : UInt8) : digit c = true ↔ 48 ≤ c.toNat ∧ c.toNat ≤ 57 := by
  simp only [digit, Bool.and_eq_true, iLe_true, uC]; omega
theorem valF_eq : ∀ (l : List UInt8) (a : Nat), valF a l = a * 10 ^ l.length + val l
  | [], a => by simp [valF, val]
  | c :: l, a => by
    have h2 : val (c :: l) = valF (0 * 10 + (c.toNat - 48)) l := by simp only [val, valF, List.foldl_cons]
    rw [valF_cons, valF_eq l, h2, valF_eq l, List.length_cons, Nat.pow_succ, Nat.zero_mul, Nat.zero_add, Nat.add_mul, Nat.mul_assoc, Nat.mul_comm 10 (10 ^ l.length), Nat.add_assoc]
theorem val_cons (c : UInt8) (l : List UInt8) : val (c :: l) = (c.toNat - 48) * 10 ^ l.length + val l := by
  have h2 : val (c :: l) = valF (0 * 10 + (c.toNat - 48)) l := by simp only [val, valF, List.foldl_cons]
  rw [h2, valF_eq, Nat.zero_mul, Nat.zero_add]
theorem val_lt : ∀ l : List UInt8, l.all digit = true → val l < 10 ^ l.length
  | [], _ => by simp [val]
  | c :: l, h => by
    rw [List.all_cons, Bool.and_eq_true, digit_iff] at h
    have := val_lt l h.2
    rw [val_cons, List.length_cons, Nat.pow_succ]
    have h1 : c.toNat - 48 ≤ 9 := by omega
    have := Nat.mul_le_mul_right (10 ^ l.length) h1
    omega
theorem parse_digits : ∀ (l : List UInt8) (a : Nat), l.all digit = true → valF a l < 9223372036854775808 → Lib.parseUint10 a l = .ok (valF a l)
  | [], a, _, _ => rfl
  | c :: l, a, h, hv => by
    rw [List.all_cons, Bool.and_eq_true, digit_iff] at h
    rw [valF_cons] at hv ⊢
    have hge : a * 10 + (c.toNat - 48) ≤ valF (a * 10 + (c.toNat - 48)) l := by
      rw [valF_eq]
      have : 1 ≤ 10 ^ l.length := Nat.pow_pos (by omega)
      have := Nat.mul_le_mul_left (a * 10 + (c.toNat - 48)) this
      omega
    rw [Lib.parseUint10, if_pos h.1, if_neg (by omega), if_neg (by omega)]
    exact parse_digits l _ h.2 hv

theorem digit_of {c : UInt8} (h : 48 ≤ c.toNat ∧ c.toNat ≤ 57) : UInt8.ofNat (48 + (c.toNat - 48)) = c := by
  rw [show 48 + (c.toNat - 48) = c.toNat by omega]
  exact UInt8.ofNat_toNat
theorem decDigits_val : ∀ (n : Nat) (l : List UInt8), l.length = n → l.all digit = true → l ≠ [] → (1 < l.length → l.headD 0 ≠ 48) → Lib.decDigits (val l) = l := by
  intro n
  induction n with
  | zero => intro l hl _ hne _; exact absurd (List.length_eq_zero_iff.1 hl) hne
  | succ n ih =>
    intro l hl hd hne hh
    rcases List.eq_nil_or_concat l with rfl | ⟨m, c, rfl⟩
    · exact absurd rfl hne
    · rw [List.concat_eq_append] at *
      rw [List.all_append, Bool.and_eq_true, List.all_cons, Bool.and_eq_true, digit_iff] at hd
      have hc := hd.2.1
      rw [val_snoc]
      rw [List.length_append, List.length_singleton] at hl hh
      cases m with
      | nil =>
        rw [show val [] = 0 from rfl, Nat.zero_mul, Nat.zero_add, Lib.decDigits, dif_pos (by omega), digit_of hc]
        rfl
      | cons b m =>
        have hb : b ≠ 48 := by simpa using hh (by simp)
        have hm := hd.1
        rw [List.all_cons, Bool.and_eq_true, digit_iff] at hm
        have hb2 : b.toNat ≠ 48 := fun e => hb (UInt8.toNat_inj.1 e)
        have h1 : 1 ≤ val (b :: m) := by
          rw [val_cons]
          have : 1 ≤ 10 ^ m.length := Nat.pow_pos (by omega)
          have := Nat.mul_le_mul (show 1 ≤ b.toNat - 48 by omega) this
          omega
        rw [Lib.decDigits, dif_neg (by omega)]
        rw [show (val (b :: m) * 10 + (c.toNat - 48)) / 10 = val (b :: m) by omega, show (val (b :: m) * 10 + (c.toNat - 48)) % 10 = c.toNat - 48 by omega, digit_of hc]
        rw [ih (b :: m) (by omega) hd.1 (by simp) (fun _ => by simpa using hb)]
theorem digit_mk {u : Nat} (h : u < 10) : digit (UInt8.ofNat (48 + u)) = true ∧ (UInt8.ofNat (48 + u)).toNat - 48 = u := by
  have : (UInt8.ofNat (48 + u)).toNat = 48 + u := by
    rw [UInt8.toNat_ofNat']; omega
  rw [digit_iff, this]; omega
theorem dec_facts (u : Nat) : (Lib.decDigits u).all digit = true ∧ Lib.decDigits u ≠ [] ∧ val (Lib.decDigits u) = u ∧ (1 < (Lib.decDigits u).length → (Lib.decDigits u).headD 0 ≠ 48) ∧ (0 < u → (Lib.decDigits u).headD 0 ≠ 48) := by
  induction u using Nat.strongRecOn with
  | _ u ih =>
    rw [Lib.decDigits]
    split
    · rename_i h
      obtain ⟨h1, h2⟩ := digit_mk h
      generalize UInt8.ofNat (48 + u) = d at *
      refine ⟨by simp [h1], by simp, by simp [val, h2], by simp, fun hu e => ?_⟩
      have e' : d = 48 := by simpa using e
      rw [e'] at h2
      have : (48 : UInt8).toNat - 48 = 0 := rfl
      omega
    · rename_i h
      obtain ⟨h1, h2, h3, h4, h5⟩ := ih (u / 10) (by omega)
      obtain ⟨k1, k2⟩ := digit_mk (show u % 10 < 10 by omega)
      generalize UInt8.ofNat (48 + u % 10) = d at *
      have hh : (Lib.decDigits (u / 10) ++ [d]).headD 0 = (Lib.decDigits (u / 10)).headD 0 := by
        cases hd : Lib.decDigits (u / 10) with
        | nil => exact absurd hd h2
        | cons b m => rfl
      refine ⟨by simp [h1, k1], by simp, by rw [val_snoc, h3, k2]; omega, fun _ => ?_, fun _ => ?_⟩
      · rw [hh]; exact h5 (by omega)
      · rw [hh]; exact h5 (by omega)

/-- At equal lengths the order is that of the numbers. -/
theorem less_val : ∀ (a b : List UInt8), a.length = b.length → a.all digit = true → b.all digit = true → Op.bytesLess a b = decide (val a < val b)
  | [], [], _, _, _ => rfl
  | x :: a, y :: b, hl, ha, hb => by
    rw [List.all_cons, Bool.and_eq_true, digit_iff] at ha hb
    rw [List.length_cons, List.length_cons] at hl
    have hl' : a.length = b.length := by omega
    have va := val_lt a ha.2
    have vb := val_lt b hb.2
    rw [Op.bytesLess, less_val a b hl' ha.2 hb.2, val_cons, val_cons, hl']
    rw [hl'] at va
    rw [Bool.eq_iff_iff]
    simp only [Bool.or_eq_true, Bool.and_eq_true, decide_eq_true_eq, beq_iff_eq]
    have hx : x < y ↔ x.toNat < y.toNat := UInt8.lt_iff_toNat_lt
    have hy : x = y ↔ x.toNat = y.toNat := UInt8.toNat_inj.symm
    rw [hx, hy]
    generalize 10 ^ b.length = p at *
    rcases Nat.lt_trichotomy x.toNat y.toNat with h | h | h
    · have := Nat.mul_le_mul_right p (show x.toNat - 48 + 1 ≤ y.toNat - 48 by omega)
      rw [Nat.add_mul] at this
      omega
    · rw [h]; omega
    · have := Nat.mul_le_mul_right p (show y.toNat - 48 + 1 ≤ x.toNat - 48 by omega)
      rw [Nat.add_mul] at this
      omega
  | [], _ :: _, hl, _, _ => by simp at hl
  | _ :: _, [], hl, _, _ => by simp at hl

theorem sGt_val (s : List UInt8) (hl : s.length = 19) (hd : s.all digit = true) : sGt s maxText = decide (9223372036854775807 < val s) := by
  have e : val maxText = 9223372036854775807 := by decide
  have h1 := less_val s maxText hl hd (by decide)
  rw [e] at h1
  have h2 : (s == maxText) = decide (val s = 9223372036854775807) := by
    rw [Bool.eq_iff_iff, beq_iff_eq, decide_eq_true_eq]
    refine ⟨fun h => by rw [h, e], fun h => ?_⟩
    by_cases h0 : s.headD 0 = 48
    · exfalso
      cases s with
      | nil => simp at hl
      | cons b t =>
        have : b = 48 := h0
        subst this
        rw [List.all_cons, Bool.and_eq_true] at hd
        have := val_lt t hd.2
        rw [val_cons] at h
        rw [List.length_cons] at hl
        rw [show t.length = 18 by omega] at h this
        have : (48 : UInt8).toNat - 48 = 0 := rfl
        omega
    · have k1 := decDigits_val 19 s hl hd (by intro e; rw [e] at hl; simp at hl) (fun _ => h0)
      have k2 := decDigits_val 19 maxText rfl (by decide) (by decide) (fun _ => by decide)
      rw [h] at k1
      rw [e] at k2
      rw [← k1, ← k2]
  rw [sGt, h1, h2]
  by_cases h : val s < 9223372036854775807
  · simp [h]; omega
  · by_cases h' : val s = 9223372036854775807
    · simp [h']
    · simp [h, h']; omega

theorem atoi_digits {s : List UInt8} (hne : s ≠ []) (hd : s.all digit = true) (hv : val s < 9223372036854775808) : Lib.atoiAll s = .ok (val s : Int) := by
  cases s with
  | nil => exact absurd rfl hne
  | cons c r =>
    have hc := hd
    rw [List.all_cons, Bool.and_eq_true, digit_iff] at hc
    rw [Lib.atoiAll_plain c r (by omega) (by omega), Lib.parseMag, if_neg (by simp), parse_digits _ _ hd hv]
    have : valF 0 (c :: r) = val (c :: r) := rfl
    rw [this, Lib.signless, if_neg (by omega)]

theorem number_eq (s : List UInt8) : isNum s = number s := by
  rw [Bool.eq_iff_iff]
  constructor
  · intro h
    rw [isNum, Bool.and_eq_true] at h
    obtain ⟨h1, h2⟩ := h
    simp only [numHead, Bool.not_eq_true', Bool.or_eq_false_iff, Bool.and_eq_false_iff, iLt_false, sLen_eq, iEq_false] at h1
    obtain ⟨⟨⟨h3, h4⟩, h5⟩, h6⟩ := h1
    have hne : s ≠ [] := fun e => by rw [e] at h3; simp at h3
    have hv : val s < 9223372036854775808 := by
      rcases Nat.lt_or_ge s.length 19 with h7 | h7
      · have := val_lt s h2
        have h8 : 10 ^ s.length ≤ 10 ^ 18 := Nat.pow_le_pow_right (by omega) (by omega)
        omega
      · have h8 : s.length = 19 := by omega
        rcases h6 with h6 | h6
        · omega
        · rw [sGt_val s h8 h2, decide_eq_false_iff_not] at h6
          omega
    rw [number, atoi_digits hne h2 hv]
    simp only [Bool.and_eq_true, iLe_true, sEq_true]
    refine ⟨by omega, ?_⟩
    rw [Lib.itoa, if_neg (by omega), Int.toNat_natCast]
    refine decDigits_val s.length s rfl h2 hne fun hl e => ?_
    rcases h5 with h5 | h5
    · rw [e] at h5; exact h5 rfl
    · omega
  · intro h
    unfold number at h
    cases hA : Lib.atoiAll s
    rotate_left
    · rw [hA] at h; cases h
    · rw [hA] at h; cases h
    · rename_i v
      rw [hA] at h
      simp only [Bool.and_eq_true, iLe_true, sEq_true] at h
      obtain ⟨h0, h1⟩ := h
      obtain ⟨hb0, hb1⟩ := Lib.atoiAll_bounds hA
      rw [Lib.itoa, if_neg (by omega)] at h1
      obtain ⟨k1, k2, k3, k4, _⟩ := dec_facts v.toNat
      rw [h1] at k1 k2 k3 k4
      have hlen : s.length ≤ 19 := by
        rcases Nat.lt_or_ge s.length 20 with h7 | h7
        · omega
        · exfalso
          cases s with
          | nil => exact k2 rfl
          | cons b t =>
            have hb : b ≠ 48 := by simpa using k4 (by omega)
            have hd := k1
            rw [List.all_cons, Bool.and_eq_true, digit_iff] at hd
            have hb2 : b.toNat ≠ 48 := fun e => hb (UInt8.toNat_inj.1 e)
            rw [val_cons] at k3
            rw [List.length_cons] at h7
            have h8 : 10 ^ 19 ≤ 10 ^ t.length := Nat.pow_le_pow_right (by omega) (by omega)
            have := Nat.mul_le_mul (show 1 ≤ b.toNat - 48 by omega) h8
            omega
      have hpos : 1 ≤ s.length := by
        cases s with
        | nil => exact absurd rfl k2
        | cons b t => simp
      rw [isNum, Bool.and_eq_true]
      refine ⟨?_, k1⟩
      simp only [numHead, Bool.not_eq_true', Bool.or_eq_false_iff, Bool.and_eq_false_iff, iLt_false, sLen_eq, iEq_false]
      refine ⟨⟨⟨by omega, by omega⟩, ?_⟩, ?_⟩
      · rcases Nat.lt_or_ge 1 s.length with h7 | h7
        · exact .inl fun e => k4 h7 (uC_inj e)
        · exact .inr (by omega)
      · by_cases h8 : s.length = 19
        · exact .inr (by rw [sGt_val s h8 k1, decide_eq_false_iff_not]; omega)
        · exact .inl (by omega)

end Go.Proofs.YtkcljempplchkaaDoor

/- One token. -/
set_option maxRecDepth 100000
set_option linter.unusedVariables false
set_option linter.unusedSimpArgs false
namespace Go.Proofs.YtkcljempplchkaaDoor
open Go.Eng

def signs : List UInt8 := [40, 41, 123, 125, 44, 59]
def spanS (p : UInt8 → Bool) (s : List UInt8) (i : Nat) : List UInt8 := (s.take (i + spanN p (s.drop i))).drop i

/-- The token at a place where a byte c stands. -/
def tokAt (s : List UInt8) (i : Nat) (c : UInt8) : Option (Int × List UInt8) :=
  if iLe 0 (Lib.indexByte signs c) then some (5, [c])
  else if iEq (uC c) 95 && !inName (s.getD (i + 1) 0) then some (5, [95])
  else if iEq (uC c) 39 && capital (s.getD (i + 1) 0) then some (5, [39])
  else if inName c then
    (if isWord (spanS inName s i) then some (6, spanS inName s i) else if IsSmall (spanS inName s i) then some (1, spanS inName s i) else if IsCapital (spanS inName s i) then some (2, spanS inName s i)
      else if digit c && number (spanS inName s i) then some (4, spanS inName s i) else none)
  else if inOp c then (if reserved (spanS inOp s i) then some (5, spanS inOp s i) else if isOp (spanS inOp s i) then some (3, spanS inOp s i) else none)
  else none

def tokRes (i : Nat) : Option (Int × List UInt8) → AVal
  | some t => .tup [tokV t.1 t.2 i, .bool true]
  | none => .tup [tokV 0 [] 0, .bool false]

theorem span_spec' {O : Cfg} {s : List UInt8} (hs : s.length < 4611686018427387904) {i0 : Nat} (hi0 : i0 ≤ s.length) {at0 : AVal} {id : Nat} {H : Hp} (hx : H id = some (.cells [.str s, at0])) (g : FuncId) (p : UInt8 → Bool) (hg : ∀ c, PureCall O g [.int .u8 (uC c)] (.bool (p c))) :
    ACalls O Tryd.prog f_span [.ref id 0, .int .i64 i0, .func (.func g) [] []] H (fun r H' => r = .ret (.str (spanS p s i0)) ∧ H' = H) := by
  have := span_spec hs hi0 at0 id H g p hg
  rw [Hp.upd_id H hx] at this
  exact this

theorem take_one {s : List UInt8} {i : Nat} {c : UInt8} (h : s[i]? = some c) : (s.take (i + 1)).drop i = [c] := by
  rw [List.take_add_one, h, List.drop_append, List.drop_eq_nil_of_le (by simp; omega)]
  have hi := (List.getElem?_eq_some_iff.1 h).1
  simp [Nat.min_eq_left (Nat.le_of_lt hi)]

set_option maxHeartbeats 4000000 in
theorem token_spec {s : List UInt8} (hs : s.length ≤ 281474976710656) {i : Nat} {c : UInt8} (hc : s[i]? = some c) {id : Nat} {H : Hp} (hx : H id = some (.cells [.str s, .int .i64 i])) :
    ACalls lexC Tryd.prog f_token [.ref id 0] H (fun r H' => r = .ret (tokRes i (tokAt s i c)) ∧ H' = H) := by
  have hi := (List.getElem?_eq_some_iff.1 hc).1
  have e : wAdd .i64 (i : Int) 1 = ((i + 1 : Nat) : Int) := by rw [wAdd_i64] <;> omega
  refine ACalls.forget ((entry (Q := fun r H' => r = .ret (tokRes i (tokAt s i c)) ∧ H.le H') h_token rfl ?_).mono ?_)
  · simp -implicitDefEqProofs only [go_sem, Nat.reduceAdd, Nat.reduceLeDiff, Nat.reduceEqDiff, Nat.reduceBEq, Nat.reduceLT, c_token]
    refine ⟨rfl, fun idb h2 => ?_⟩
    simp -implicitDefEqProofs only [go_sem, Nat.reduceAdd, Nat.reduceLeDiff, Nat.reduceEqDiff, Nat.reduceBEq, Nat.reduceLT]
    intro id3 h3
    have hx2 : (H.upd idb (.cells [.ref id 0])) id = some (.cells [.str s, .int .i64 i]) := upd_old hx h2
    have hb2 : (H.upd idb (.cells [.ref id 0])) idb = some (.cells [.ref id 0]) := Hp.upd_same _ _ _
    have hl2 : H.le (H.upd idb (.cells [.ref id 0])) := le_upd h2
    generalize H.upd idb (.cells [.ref id 0]) = K at *
    have hx3 := fun o => upd_old (o' := o) hx2 h3
    have hb3 := fun o => upd_old (o' := o) hb2 h3
    have hl3 : ∀ o, H.le (K.upd id3 o) := fun o j ob hj => le_upd h3 j ob (hl2 j ob hj)
    simp -implicitDefEqProofs only [go_sem, Nat.reduceAdd, Nat.reduceLeDiff, Nat.reduceEqDiff, Nat.reduceBEq, Nat.reduceLT]
    refine go ?_; simp -implicitDefEqProofs only [go_sem, Nat.reduceAdd, Nat.reduceLeDiff, Nat.reduceEqDiff, Nat.reduceBEq, Nat.reduceLT, hx3, hb3, ixK_at hc]
    refine go ?_; simp -implicitDefEqProofs only [go_sem, Nat.reduceAdd, Nat.reduceLeDiff, Nat.reduceEqDiff, Nat.reduceBEq, Nat.reduceLT]
    refine go ?_; simp -implicitDefEqProofs only [go_sem, Nat.reduceAdd, Nat.reduceLeDiff, Nat.reduceEqDiff, Nat.reduceBEq, Nat.reduceLT]
    refine AC.cut (fun st => st = ⟨mk 157 [(1, .ref idb 0), (2, .ref id3 0), (4, .int .u8 (uC c)), (5, .func (.func 52) [] [.ref idb 0]), (6, .int .u8 (uC (s.getD (i + 1) 0)))], K.upd id3 (.cells [.int .i64 0, .str [], .int .i64 0]), []⟩) ?_ ?_
    · refine go ?_; simp -implicitDefEqProofs only [go_sem, Nat.reduceAdd, Nat.reduceLeDiff, Nat.reduceEqDiff, Nat.reduceBEq, Nat.reduceLT, hx3, hb3, e]
      refine go ?_
      refine wpC_split rfl rfl (fun h => ?_) (fun h => ?_) <;> simp -implicitDefEqProofs only [go_sem, Nat.reduceAdd, Nat.reduceLeDiff, Nat.reduceEqDiff, Nat.reduceBEq, Nat.reduceLT]
      · have hlt := iLt_true.1 h
        rw [sLen_eq] at hlt
        obtain ⟨b, hb⟩ : ∃ b, s[i + 1]? = some b := ⟨_, List.getElem?_eq_getElem (by omega)⟩
        simp -implicitDefEqProofs only [go_sem, Nat.reduceAdd, Nat.reduceLeDiff, Nat.reduceEqDiff, Nat.reduceBEq, Nat.reduceLT, hx3, hb3, e, ixK_at hb]
        rw [List.getD_eq_getElem?_getD, hb]; rfl
      · have hge := iLt_false.1 h
        rw [sLen_eq] at hge
        rw [List.getD_eq_getElem?_getD, List.getElem?_eq_none (by omega)]; rfl
    · rintro _ rfl
      have sl1 : slSA s (some (.int .i64 (i : Int))) (some (.int .i64 ((i + 1 : Nat) : Int))) = some (.str [c]) := by
        rw [slSA_both (by omega) hi, take_one hc]
      have hn : s.length < 4611686018427387904 := by omega
      have hsp : ∀ p, (spanS p s i).length ≤ 281474976710656 := fun p => by
        unfold spanS; rw [List.length_drop, List.length_take]; omega
      have hm := fun (k : Int) text o => made_spec (O := lexC) k text (hb3 o) (hx3 o)
      have h1 := fun o => span_spec' (O := lexC) hn (Nat.le_of_lt hi) (hx3 o) f_isNameByte inName isNameByte_pure
      have h2 := fun o => span_spec' (O := lexC) hn (Nat.le_of_lt hi) (hx3 o) f_isOpByte inOp isOpByte_pure
      repeat' (first | ((with_reducible refine PureCall.step (IndexByte_pure _ _) ?_); simp -implicitDefEqProofs only [go_sem, Nat.reduceAdd, Nat.reduceLeDiff, Nat.reduceEqDiff, Nat.reduceBEq, Nat.reduceLT, hx3, hb3, e, sl1, tokV]) | ((with_reducible refine PureCall.step (isNameByte_pure _) ?_); simp -implicitDefEqProofs only [go_sem, Nat.reduceAdd, Nat.reduceLeDiff, Nat.reduceEqDiff, Nat.reduceBEq, Nat.reduceLT, hx3, hb3, e, sl1, tokV]) | ((with_reducible refine PureCall.step (isCapital_pure _) ?_); simp -implicitDefEqProofs only [go_sem, Nat.reduceAdd, Nat.reduceLeDiff, Nat.reduceEqDiff, Nat.reduceBEq, Nat.reduceLT, hx3, hb3, e, sl1, tokV]) | ((with_reducible refine PureCall.step (isWord_pure _) ?_); simp -implicitDefEqProofs only [go_sem, Nat.reduceAdd, Nat.reduceLeDiff, Nat.reduceEqDiff, Nat.reduceBEq, Nat.reduceLT, hx3, hb3, e, sl1, tokV]) | ((with_reducible refine PureCall.step (IsSmall_pure _) ?_); simp -implicitDefEqProofs only [go_sem, Nat.reduceAdd, Nat.reduceLeDiff, Nat.reduceEqDiff, Nat.reduceBEq, Nat.reduceLT, hx3, hb3, e, sl1, tokV]) | ((with_reducible refine PureCall.step (IsCapital_pure _) ?_); simp -implicitDefEqProofs only [go_sem, Nat.reduceAdd, Nat.reduceLeDiff, Nat.reduceEqDiff, Nat.reduceBEq, Nat.reduceLT, hx3, hb3, e, sl1, tokV]) | ((with_reducible refine PureCall.step (isDigit_pure _) ?_); simp -implicitDefEqProofs only [go_sem, Nat.reduceAdd, Nat.reduceLeDiff, Nat.reduceEqDiff, Nat.reduceBEq, Nat.reduceLT, hx3, hb3, e, sl1, tokV]) | ((with_reducible refine PureCall.step (number_pure _ (hsp _)) ?_); simp -implicitDefEqProofs only [go_sem, Nat.reduceAdd, Nat.reduceLeDiff, Nat.reduceEqDiff, Nat.reduceBEq, Nat.reduceLT, hx3, hb3, e, sl1, tokV]) | ((with_reducible refine PureCall.step (isOpByte_pure _) ?_); simp -implicitDefEqProofs only [go_sem, Nat.reduceAdd, Nat.reduceLeDiff, Nat.reduceEqDiff, Nat.reduceBEq, Nat.reduceLT, hx3, hb3, e, sl1, tokV]) | ((with_reducible refine PureCall.step (reserved_pure _) ?_); simp -implicitDefEqProofs only [go_sem, Nat.reduceAdd, Nat.reduceLeDiff, Nat.reduceEqDiff, Nat.reduceBEq, Nat.reduceLT, hx3, hb3, e, sl1, tokV]) | ((with_reducible refine PureCall.step (IsOp_pure _) ?_); simp -implicitDefEqProofs only [go_sem, Nat.reduceAdd, Nat.reduceLeDiff, Nat.reduceEqDiff, Nat.reduceBEq, Nat.reduceLT, hx3, hb3, e, sl1, tokV]) | ((with_reducible refine ACalls.step (hm 5 _ _) ?_); simp -implicitDefEqProofs only [go_sem, Nat.reduceAdd, Nat.reduceLeDiff, Nat.reduceEqDiff, Nat.reduceBEq, Nat.reduceLT, hx3, hb3, e, sl1, tokV]) | ((with_reducible refine ACalls.step (hm 6 _ _) ?_); simp -implicitDefEqProofs only [go_sem, Nat.reduceAdd, Nat.reduceLeDiff, Nat.reduceEqDiff, Nat.reduceBEq, Nat.reduceLT, hx3, hb3, e, sl1, tokV]) | ((with_reducible refine ACalls.step (hm 1 _ _) ?_); simp -implicitDefEqProofs only [go_sem, Nat.reduceAdd, Nat.reduceLeDiff, Nat.reduceEqDiff, Nat.reduceBEq, Nat.reduceLT, hx3, hb3, e, sl1, tokV]) | ((with_reducible refine ACalls.step (hm 2 _ _) ?_); simp -implicitDefEqProofs only [go_sem, Nat.reduceAdd, Nat.reduceLeDiff, Nat.reduceEqDiff, Nat.reduceBEq, Nat.reduceLT, hx3, hb3, e, sl1, tokV]) | ((with_reducible refine ACalls.step (hm 4 _ _) ?_); simp -implicitDefEqProofs only [go_sem, Nat.reduceAdd, Nat.reduceLeDiff, Nat.reduceEqDiff, Nat.reduceBEq, Nat.reduceLT, hx3, hb3, e, sl1, tokV]) | ((with_reducible refine ACalls.step (hm 3 _ _) ?_); simp -implicitDefEqProofs only [go_sem, Nat.reduceAdd, Nat.reduceLeDiff, Nat.reduceEqDiff, Nat.reduceBEq, Nat.reduceLT, hx3, hb3, e, sl1, tokV]) | ((with_reducible refine ACalls.step (h1 _) ?_); simp -implicitDefEqProofs only [go_sem, Nat.reduceAdd, Nat.reduceLeDiff, Nat.reduceEqDiff, Nat.reduceBEq, Nat.reduceLT, hx3, hb3, e, sl1, tokV]) | ((with_reducible refine ACalls.step (h2 _) ?_); simp -implicitDefEqProofs only [go_sem, Nat.reduceAdd, Nat.reduceLeDiff, Nat.reduceEqDiff, Nat.reduceBEq, Nat.reduceLT, hx3, hb3, e, sl1, tokV]) | (refine wpC_split rfl rfl (fun h => ?_) (fun h => ?_) <;> (try simp -implicitDefEqProofs only [go_sem, Nat.reduceAdd, Nat.reduceLeDiff, Nat.reduceEqDiff, Nat.reduceBEq, Nat.reduceLT, h, hx3, hb3, e, sl1, tokV])) | (refine plan_split rfl rfl (fun h => ?_) (fun h => ?_) <;> simp -implicitDefEqProofs only [go_sem, Nat.reduceAdd, Nat.reduceLeDiff, Nat.reduceEqDiff, Nat.reduceBEq, Nat.reduceLT, h, hx3, hb3, e, sl1, tokV]) | (refine planD_split rfl rfl (fun h => ?_) (fun h => ?_) <;> simp -implicitDefEqProofs only [go_sem, Nat.reduceAdd, Nat.reduceLeDiff, Nat.reduceEqDiff, Nat.reduceBEq, Nat.reduceLT, h, hx3, hb3, e, sl1, tokV]) | (refine go ?_; try simp -implicitDefEqProofs only [go_sem, Nat.reduceAdd, Nat.reduceLeDiff, Nat.reduceEqDiff, Nat.reduceBEq, Nat.reduceLT, hx3, hb3, e, sl1, tokV]) | ((with_reducible refine wpC_id ?_); simp -implicitDefEqProofs only [go_sem, Nat.reduceAdd, Nat.reduceLeDiff, Nat.reduceEqDiff, Nat.reduceBEq, Nat.reduceLT, hx3, hb3, e, sl1, tokV]) | ((with_reducible first | refine quiet_id ?_ | refine wrote_id ?_ | refine resQ_id ?_); simp -implicitDefEqProofs only [go_sem, Nat.reduceAdd, Nat.reduceLeDiff, Nat.reduceEqDiff, Nat.reduceBEq, Nat.reduceLT, hx3, hb3, e, sl1, tokV]) | fail)
      all_goals clear hm h1 h2 sl1 e hsp hx3 hb3
      all_goals exact ⟨by simp_all [tokAt, tokRes, tokV, spanS, signs, bNot_true, bNot_false], hl3 _⟩
  · rintro r H' ⟨rfl, hl⟩
    exact ⟨_, H, .refl _, hl, rfl, rfl⟩

end Go.Proofs.YtkcljempplchkaaDoor

/- All tokens. -/
set_option maxRecDepth 100000
set_option linter.unusedVariables false
set_option linter.unusedSimpArgs false
namespace Go.Proofs.YtkcljempplchkaaDoor
open Go.Eng

/-! ### The plain text -/
def consE (t : Token) : Except Nat (List Token) → Except Nat (List Token)
  | .ok l => .ok (t :: l)
  | .error e => .error e
def lexF (s : List UInt8) : Nat → Nat → Except Nat (List Token)
  | 0, i => .error i
  | f + 1, i => match s[blanksTo s i]? with
    | none => .ok [⟨7, [], s.length⟩]
    | some c => match tokAt s (blanksTo s i) c with
      | none => .error (blanksTo s i)
      | some t => consE ⟨t.1, t.2, blanksTo s i⟩ (lexF s f (blanksTo s i + t.2.length))
def lexE (s : List UInt8) : Except Nat (List Token) := lexF s (s.length + 1) 0
def lexRes : Except Nat (List Token) → List Token × Nat × Int
  | .ok l => (l, 0, 0)
  | .error e => ([], e, 4)
/-- The tokens, the position, the error. -/
def lexP (s : List UInt8) : List Token × Nat × Int := if 12000 < s.length then ([], 0, 5) else lexRes (lexE s)

theorem blk_le (s : List UInt8) : ∀ (f i : Nat), i ≤ s.length → i ≤ blk s f i ∧ blk s f i ≤ s.length
  | 0, i, h => ⟨Nat.le_refl _, h⟩
  | f + 1, i, h => by
    unfold blk
    cases hs : s[i]? with
    | none => exact ⟨Nat.le_refl _, h⟩
    | some c =>
      have hi := (List.getElem?_eq_some_iff.1 hs).1
      simp only
      split
      · have := blk_le s f (i + 1) (by omega); omega
      · split
        · split
          · omega
          · rename_i h1 h2
            have h3 := indexByte_lt (s.drop i) 10
            rw [List.length_drop] at h3
            have := blk_le s f (i + (Lib.indexByte (s.drop i) 10).toNat) (by omega)
            omega
        · exact ⟨Nat.le_refl _, h⟩
theorem blanksTo_le {s : List UInt8} {i : Nat} (h : i ≤ s.length) : i ≤ blanksTo s i ∧ blanksTo s i ≤ s.length := blk_le s _ i h

theorem spanS_len {p : UInt8 → Bool} {s : List UInt8} {i : Nat} (hi : i ≤ s.length) : (spanS p s i).length = spanN p (s.drop i) ∧ i + spanN p (s.drop i) ≤ s.length := by
  have h := spanN_le p (s.drop i)
  rw [List.length_drop] at h
  unfold spanS
  rw [List.length_drop, List.length_take]
  omega
theorem spanS_pos {p : UInt8 → Bool} {s : List UInt8} {i : Nat} {c : UInt8} (hc : s[i]? = some c) (hp : p c = true) : 1 ≤ (spanS p s i).length ∧ i + (spanS p s i).length ≤ s.length := by
  have hi := (List.getElem?_eq_some_iff.1 hc).1
  obtain ⟨h1, h2⟩ := spanS_len (p := p) (Nat.le_of_lt hi)
  have h3 := spanN_at (p := p) hc
  rw [if_pos hp] at h3
  omega
theorem tokAt_len {s : List UInt8} {i : Nat} {c : UInt8} (hc : s[i]? = some c) {t : Int × List UInt8} (h : tokAt s i c = some t) : 1 ≤ t.2.length ∧ i + t.2.length ≤ s.length := by
  have hi := (List.getElem?_eq_some_iff.1 hc).1
  have h1 := fun (hp : inName c = true) => spanS_pos hc hp
  have h2 := fun (hp : inOp c = true) => spanS_pos hc hp
  unfold tokAt at h
  generalize spanS inName s i = a at *
  generalize spanS inOp s i = b at *
  repeat' split at h
  all_goals first
    | (cases h; done)
    | (cases h; exact ⟨Nat.le_refl _, hi⟩)
    | (cases h; exact h1 (by assumption))
    | (cases h; exact h2 (by assumption))
theorem lexF_fuel (s : List UInt8) : ∀ (f i : Nat), i ≤ s.length → s.length - i + 1 ≤ f → lexF s f i = lexF s (s.length - i + 1) i := by
  intro f
  induction f using Nat.strongRecOn with
  | _ f ih =>
    intro i hi h
    cases f with
    | zero => omega
    | succ f =>
      obtain ⟨b1, b2⟩ := blanksTo_le hi
      simp only [lexF]
      cases hs : s[blanksTo s i]? with
      | none => rfl
      | some c =>
        simp only
        cases ht : tokAt s (blanksTo s i) c with
        | none => rfl
        | some t =>
          simp only
          obtain ⟨h1, h2⟩ := tokAt_len hs ht
          rw [ih f (by omega) _ h2 (by omega)]
          rcases Nat.lt_or_ge (s.length - i) (f + 1) with h3 | h3
          · rcases Nat.lt_or_ge f (s.length - i + 1) with h4 | h4
            · rw [show s.length - i = f by omega, ih f (by omega) _ h2 (by omega)]
            · rw [ih (s.length - i) (by omega) _ h2 (by omega)]
          · omega

def appE (acc : List Token) : Except Nat (List Token) → Except Nat (List Token)
  | .ok l => .ok (acc ++ l)
  | .error e => .error e

theorem blanks_spec' {O : Cfg} {s : List UInt8} (hs : s.length < 4611686018427387904) {i0 : Nat} (hi0 : i0 ≤ s.length) {id : Nat} {H : Hp} (hx : H id = some (.cells [.str s, .int .i64 i0])) :
    ACalls O Tryd.prog f_blanks [.ref id 0] H (fun r H' => r = .ret (.tup []) ∧ H' = H.upd id (.cells [.str s, .int .i64 (blanksTo s i0)])) := by
  have := blanks_spec (O := O) hs hi0 id H
  rw [Hp.upd_id H hx] at this
  exact this

theorem wk_tup1 {a b : AVal} {l : List AVal} (h : Wk a b) : Wk (.tup (a :: l)) (.tup (b :: l)) := by
  refine .tup rfl fun i x y hx hy => ?_
  cases i with
  | zero => simp only [List.getElem?_cons_zero, Option.some.injEq] at hx hy; subst hx; subst hy; exact h
  | succ i => simp only [List.getElem?_cons_succ] at hx hy; rw [hx] at hy; cases hy; exact .refl _

theorem tokRows_len (l : List Token) : (tokRows l).length = l.length := by simp [tokRows]
theorem tokRows_sz (l : List Token) : ∀ r ∈ tokRows l, r.length = 3 := fun r hr => by
  obtain ⟨x, _, rfl⟩ := List.mem_map.1 hr; rfl
theorem tokRows_app (l : List Token) (t : Token) : tokRows l ++ [[.int .i64 t.kind, .str t.text, .int .i64 t.pos]] = tokRows (l ++ [t]) := by simp [tokRows, tokRow]
theorem iEq_nat {a b : Nat} : iEq (a : Int) (b : Int) = true ↔ a = b := by rw [iEq_true]; omega

theorem Tokens_pure (s : List UInt8) : PureCall lexC f_Tokens [.str s] (.tup [.sl (tokRows (lexP s).1) .no, .int .i64 (lexP s).2.1, .int .i64 (lexP s).2.2]) := by
  refine entryF h_Tokens rfl fun H => ?_; simp -implicitDefEqProofs only [go_sem, Nat.reduceAdd, Nat.reduceLeDiff, Nat.reduceEqDiff, Nat.reduceBEq, Nat.reduceLT, c_Tokens]
  refine go ?_; simp -implicitDefEqProofs only [go_sem, Nat.reduceAdd, Nat.reduceLeDiff, Nat.reduceEqDiff, Nat.reduceBEq, Nat.reduceLT]
  refine go ?_
  refine wpC_split rfl rfl (fun h => ?_) (fun h => ?_) <;> simp -implicitDefEqProofs only [go_sem, Nat.reduceAdd, Nat.reduceLeDiff, Nat.reduceEqDiff, Nat.reduceBEq, Nat.reduceLT]
  · have h1 := iLt_true.1 h
    rw [sLen_eq] at h1
    have e : lexP s = ([], 0, 5) := by rw [lexP, if_pos (by omega)]
    repeat' (first | (refine wpC_split rfl rfl (fun h => ?_) (fun h => ?_) <;> (try simp -implicitDefEqProofs only [go_sem, Nat.reduceAdd, Nat.reduceLeDiff, Nat.reduceEqDiff, Nat.reduceBEq, Nat.reduceLT, h])) | (refine plan_split rfl rfl (fun h => ?_) (fun h => ?_) <;> simp -implicitDefEqProofs only [go_sem, Nat.reduceAdd, Nat.reduceLeDiff, Nat.reduceEqDiff, Nat.reduceBEq, Nat.reduceLT, h]) | (refine planD_split rfl rfl (fun h => ?_) (fun h => ?_) <;> simp -implicitDefEqProofs only [go_sem, Nat.reduceAdd, Nat.reduceLeDiff, Nat.reduceEqDiff, Nat.reduceBEq, Nat.reduceLT, h]) | (refine go ?_; try simp -implicitDefEqProofs only [go_sem, Nat.reduceAdd, Nat.reduceLeDiff, Nat.reduceEqDiff, Nat.reduceBEq, Nat.reduceLT]) | ((with_reducible refine wpC_id ?_); simp -implicitDefEqProofs only [go_sem, Nat.reduceAdd, Nat.reduceLeDiff, Nat.reduceEqDiff, Nat.reduceBEq, Nat.reduceLT]) | ((with_reducible first | refine quiet_id ?_ | refine wrote_id ?_ | refine resQ_id ?_); simp -implicitDefEqProofs only [go_sem, Nat.reduceAdd, Nat.reduceLeDiff, Nat.reduceEqDiff, Nat.reduceBEq, Nat.reduceLT]) | fail)
    rw [e]
    exact ⟨_, rfl, wk_tup1 (.sl _ _), fun _ _ h => h⟩
  · have h1 := iLt_false.1 h
    rw [sLen_eq] at h1
    have hs : s.length ≤ 12000 := by omega
    have eP : lexP s = lexRes (lexE s) := by rw [lexP, if_neg (by omega)]
    refine go ?_; simp -implicitDefEqProofs only [go_sem, Nat.reduceAdd, Nat.reduceLeDiff, Nat.reduceEqDiff, Nat.reduceBEq, Nat.reduceLT]
    refine ⟨rfl, fun idx hidx => ?_⟩; simp -implicitDefEqProofs only [go_sem, Nat.reduceAdd, Nat.reduceLeDiff, Nat.reduceEqDiff, Nat.reduceBEq, Nat.reduceLT]
    refine go ?_; simp -implicitDefEqProofs only [go_sem, Nat.reduceAdd, Nat.reduceLeDiff, Nat.reduceEqDiff, Nat.reduceBEq, Nat.reduceLT]
    refine go ?_; simp -implicitDefEqProofs only [go_sem, Nat.reduceAdd, Nat.reduceLeDiff, Nat.reduceEqDiff, Nat.reduceBEq, Nat.reduceLT]
    rw [wpC_loop]
    refine AC.loop (fun n st => ∃ i acc t H', i ≤ s.length ∧ n = s.length - i ∧ acc.length ≤ i ∧ lexE s = appE acc (lexF s (n + 1) i) ∧ Acc H H' t acc.length 3 ∧ H' idx = some (.cells [.str s, .int .i64 (i : Nat)]) ∧
      st = ⟨mk 55 [(0, .str s), (5, .ref idx 0), (6, .sl (tokRows acc) t)], H', []⟩) s.length ⟨0, [], .full, _, Nat.zero_le _, rfl, Nat.le_refl _, ?_, (Acc.start H 0 3).new hidx _, Hp.upd_same _ _ _, rfl⟩ ?_
    · unfold lexE
      cases lexF s (s.length + 1) 0 <;> rfl
    · rintro n _ ⟨i, acc, t, H', hi, rfl, hacc, hE, hA, hx, rfl⟩
      obtain ⟨b1, b2⟩ := blanksTo_le hi
      simp only [lexF] at hE
      simp -implicitDefEqProofs only [go_sem, Nat.reduceAdd, Nat.reduceLeDiff, Nat.reduceEqDiff, Nat.reduceBEq, Nat.reduceLT, l_Tokens_0]
      refine go ?_; simp -implicitDefEqProofs only [go_sem, Nat.reduceAdd, Nat.reduceLeDiff, Nat.reduceEqDiff, Nat.reduceBEq, Nat.reduceLT]
      refine ACalls.step (blanks_spec' (by omega) hi hx) ?_; simp -implicitDefEqProofs only [go_sem, Nat.reduceAdd, Nat.reduceLeDiff, Nat.reduceEqDiff, Nat.reduceBEq, Nat.reduceLT]
      generalize blanksTo s i = j at *
      have hA1 := hA.set hx hidx (.cells [.str s, .int .i64 j])
      have hx1 : (H'.upd idx (.cells [.str s, .int .i64 j])) idx = some (.cells [.str s, .int .i64 j]) := Hp.upd_same _ _ _
      generalize H'.upd idx (.cells [.str s, .int .i64 j]) = H1 at *
      clear hA hx
      refine go ?_; simp -implicitDefEqProofs only [go_sem, Nat.reduceAdd, Nat.reduceLeDiff, Nat.reduceEqDiff, Nat.reduceBEq, Nat.reduceLT, hx1, sLen_eq]
      refine go ?_
      refine wpC_split rfl rfl (fun h => ?_) (fun h => ?_) <;> simp -implicitDefEqProofs only [go_sem, Nat.reduceAdd, Nat.reduceLeDiff, Nat.reduceEqDiff, Nat.reduceBEq, Nat.reduceLT]
      · have hj := iEq_nat.1 h
        have hs0 : s[j]? = none := List.getElem?_eq_none (by omega)
        simp only [hs0, appE] at hE
        rw [hE] at eP
        simp -implicitDefEqProofs only [go_sem, Nat.reduceAdd, Nat.reduceLeDiff, Nat.reduceEqDiff, Nat.reduceBEq, Nat.reduceLT, sLen_eq]
        refine hA1.app (tokRows_len _) (by simp) (tokRows_sz _) (by simp) (by simp [AVal.one]) (by simp; omega) fun t' H2 hA2 hk => ?_
        simp -implicitDefEqProofs only [go_sem, Nat.reduceAdd, Nat.reduceLeDiff, Nat.reduceEqDiff, Nat.reduceBEq, Nat.reduceLT]
        repeat' (first | (refine wpC_split rfl rfl (fun h => ?_) (fun h => ?_) <;> (try simp -implicitDefEqProofs only [go_sem, Nat.reduceAdd, Nat.reduceLeDiff, Nat.reduceEqDiff, Nat.reduceBEq, Nat.reduceLT, h])) | (refine plan_split rfl rfl (fun h => ?_) (fun h => ?_) <;> simp -implicitDefEqProofs only [go_sem, Nat.reduceAdd, Nat.reduceLeDiff, Nat.reduceEqDiff, Nat.reduceBEq, Nat.reduceLT, h]) | (refine planD_split rfl rfl (fun h => ?_) (fun h => ?_) <;> simp -implicitDefEqProofs only [go_sem, Nat.reduceAdd, Nat.reduceLeDiff, Nat.reduceEqDiff, Nat.reduceBEq, Nat.reduceLT, h]) | (refine go ?_; try simp -implicitDefEqProofs only [go_sem, Nat.reduceAdd, Nat.reduceLeDiff, Nat.reduceEqDiff, Nat.reduceBEq, Nat.reduceLT]) | ((with_reducible refine wpC_id ?_); simp -implicitDefEqProofs only [go_sem, Nat.reduceAdd, Nat.reduceLeDiff, Nat.reduceEqDiff, Nat.reduceBEq, Nat.reduceLT]) | ((with_reducible first | refine quiet_id ?_ | refine wrote_id ?_ | refine resQ_id ?_); simp -implicitDefEqProofs only [go_sem, Nat.reduceAdd, Nat.reduceLeDiff, Nat.reduceEqDiff, Nat.reduceBEq, Nat.reduceLT]) | fail)
        rw [eP]
        refine ⟨_, rfl, wk_tup1 ?_, hA2.le⟩
        have := tokRows_app acc ⟨7, [], s.length⟩
        simp only at this
        rw [this]
        exact .sl _ _
      · have hj : ¬ j = s.length := fun e => by rw [iEq_false] at h; exact h (by rw [e])
        obtain ⟨c, hc⟩ : ∃ c, s[j]? = some c := ⟨_, List.getElem?_eq_getElem (by omega)⟩
        simp only [hc] at hE
        refine go ?_; simp -implicitDefEqProofs only [go_sem, Nat.reduceAdd, Nat.reduceLeDiff, Nat.reduceEqDiff, Nat.reduceBEq, Nat.reduceLT]
        refine ACalls.step (token_spec (by omega) hc hx1) ?_; simp -implicitDefEqProofs only [go_sem, Nat.reduceAdd, Nat.reduceLeDiff, Nat.reduceEqDiff, Nat.reduceBEq, Nat.reduceLT]
        cases ht : tokAt s j c with
        | none =>
          simp only [ht, appE] at hE
          rw [hE] at eP
          simp -implicitDefEqProofs only [go_sem, Nat.reduceAdd, Nat.reduceLeDiff, Nat.reduceEqDiff, Nat.reduceBEq, Nat.reduceLT, tokRes, tokV]
          intro id7 h7
          simp -implicitDefEqProofs only [go_sem, Nat.reduceAdd, Nat.reduceLeDiff, Nat.reduceEqDiff, Nat.reduceBEq, Nat.reduceLT]
          repeat' (first | (refine wpC_split rfl rfl (fun h => ?_) (fun h => ?_) <;> (try simp -implicitDefEqProofs only [go_sem, Nat.reduceAdd, Nat.reduceLeDiff, Nat.reduceEqDiff, Nat.reduceBEq, Nat.reduceLT, h, upd_old hx1 h7])) | (refine plan_split rfl rfl (fun h => ?_) (fun h => ?_) <;> simp -implicitDefEqProofs only [go_sem, Nat.reduceAdd, Nat.reduceLeDiff, Nat.reduceEqDiff, Nat.reduceBEq, Nat.reduceLT, h, upd_old hx1 h7]) | (refine planD_split rfl rfl (fun h => ?_) (fun h => ?_) <;> simp -implicitDefEqProofs only [go_sem, Nat.reduceAdd, Nat.reduceLeDiff, Nat.reduceEqDiff, Nat.reduceBEq, Nat.reduceLT, h, upd_old hx1 h7]) | (refine go ?_; try simp -implicitDefEqProofs only [go_sem, Nat.reduceAdd, Nat.reduceLeDiff, Nat.reduceEqDiff, Nat.reduceBEq, Nat.reduceLT, upd_old hx1 h7]) | ((with_reducible refine wpC_id ?_); simp -implicitDefEqProofs only [go_sem, Nat.reduceAdd, Nat.reduceLeDiff, Nat.reduceEqDiff, Nat.reduceBEq, Nat.reduceLT, upd_old hx1 h7]) | ((with_reducible first | refine quiet_id ?_ | refine wrote_id ?_ | refine resQ_id ?_); simp -implicitDefEqProofs only [go_sem, Nat.reduceAdd, Nat.reduceLeDiff, Nat.reduceEqDiff, Nat.reduceBEq, Nat.reduceLT, upd_old hx1 h7]) | fail)
          rw [eP]
          exact ⟨_, rfl, wk_tup1 (.sl _ _), (hA1.new h7 _).le⟩
        | some tk =>
          obtain ⟨l1, l2⟩ := tokAt_len hc ht
          simp only [ht] at hE
          simp -implicitDefEqProofs only [go_sem, Nat.reduceAdd, Nat.reduceLeDiff, Nat.reduceEqDiff, Nat.reduceBEq, Nat.reduceLT, tokRes, tokV]
          intro id7 h7
          simp -implicitDefEqProofs only [go_sem, Nat.reduceAdd, Nat.reduceLeDiff, Nat.reduceEqDiff, Nat.reduceBEq, Nat.reduceLT]
          repeat' (first | (refine wpC_split rfl rfl (fun h => ?_) (fun h => ?_) <;> (try simp -implicitDefEqProofs only [go_sem, Nat.reduceAdd, Nat.reduceLeDiff, Nat.reduceEqDiff, Nat.reduceBEq, Nat.reduceLT, h, upd_old hx1 h7])) | (refine plan_split rfl rfl (fun h => ?_) (fun h => ?_) <;> simp -implicitDefEqProofs only [go_sem, Nat.reduceAdd, Nat.reduceLeDiff, Nat.reduceEqDiff, Nat.reduceBEq, Nat.reduceLT, h, upd_old hx1 h7]) | (refine planD_split rfl rfl (fun h => ?_) (fun h => ?_) <;> simp -implicitDefEqProofs only [go_sem, Nat.reduceAdd, Nat.reduceLeDiff, Nat.reduceEqDiff, Nat.reduceBEq, Nat.reduceLT, h, upd_old hx1 h7]) | (refine go ?_; try simp -implicitDefEqProofs only [go_sem, Nat.reduceAdd, Nat.reduceLeDiff, Nat.reduceEqDiff, Nat.reduceBEq, Nat.reduceLT, upd_old hx1 h7]) | ((with_reducible refine wpC_id ?_); simp -implicitDefEqProofs only [go_sem, Nat.reduceAdd, Nat.reduceLeDiff, Nat.reduceEqDiff, Nat.reduceBEq, Nat.reduceLT, upd_old hx1 h7]) | ((with_reducible first | refine quiet_id ?_ | refine wrote_id ?_ | refine resQ_id ?_); simp -implicitDefEqProofs only [go_sem, Nat.reduceAdd, Nat.reduceLeDiff, Nat.reduceEqDiff, Nat.reduceBEq, Nat.reduceLT, upd_old hx1 h7]) | fail)
          refine (hA1.new h7 _).app (tokRows_len _) (by simp) (tokRows_sz _) (by simp) (by simp [AVal.one]) (by simp; omega) fun t' H2 hA2 hk => ?_
          have hx2 := hk idx _ (upd_old hx1 h7) (by simp)
          have h72 := hk id7 _ (Hp.upd_same _ _ _) (by simp)
          have e : wAdd .i64 (j : Int) (sLen tk.2) = ((j + tk.2.length : Nat) : Int) := by rw [sLen_eq, wAdd_i64] <;> omega
          repeat' (first | (refine wpC_split rfl rfl (fun h => ?_) (fun h => ?_) <;> (try simp -implicitDefEqProofs only [go_sem, Nat.reduceAdd, Nat.reduceLeDiff, Nat.reduceEqDiff, Nat.reduceBEq, Nat.reduceLT, h, hx2, h72, e])) | (refine plan_split rfl rfl (fun h => ?_) (fun h => ?_) <;> simp -implicitDefEqProofs only [go_sem, Nat.reduceAdd, Nat.reduceLeDiff, Nat.reduceEqDiff, Nat.reduceBEq, Nat.reduceLT, h, hx2, h72, e]) | (refine planD_split rfl rfl (fun h => ?_) (fun h => ?_) <;> simp -implicitDefEqProofs only [go_sem, Nat.reduceAdd, Nat.reduceLeDiff, Nat.reduceEqDiff, Nat.reduceBEq, Nat.reduceLT, h, hx2, h72, e]) | (refine go ?_; try simp -implicitDefEqProofs only [go_sem, Nat.reduceAdd, Nat.reduceLeDiff, Nat.reduceEqDiff, Nat.reduceBEq, Nat.reduceLT, hx2, h72, e]) | ((with_reducible refine wpC_id ?_); simp -implicitDefEqProofs only [go_sem, Nat.reduceAdd, Nat.reduceLeDiff, Nat.reduceEqDiff, Nat.reduceBEq, Nat.reduceLT, hx2, h72, e]) | ((with_reducible first | refine quiet_id ?_ | refine wrote_id ?_ | refine resQ_id ?_); simp -implicitDefEqProofs only [go_sem, Nat.reduceAdd, Nat.reduceLeDiff, Nat.reduceEqDiff, Nat.reduceBEq, Nat.reduceLT, hx2, h72, e]) | fail)
          refine ⟨s.length - (j + tk.2.length), by omega, j + tk.2.length, acc ++ [⟨tk.1, tk.2, j⟩], t', H2.upd idx (.cells [.str s, .int .i64 ((j + tk.2.length : Nat) : Int)]), l2, rfl, by simp; omega, ?_, ?_, Hp.upd_same _ _ _, ?_⟩
          · rw [hE, lexF_fuel s _ _ l2 (by omega)]
            cases lexF s (s.length - (j + tk.2.length) + 1) (j + tk.2.length) <;> simp [appE, consE]
          · have := hA2.set hx2 hidx (.cells [.str s, .int .i64 ((j + tk.2.length : Nat) : Int)])
            simpa using this
          · have := tokRows_app acc ⟨tk.1, tk.2, j⟩
            simp only at this
            rw [this]

end Go.Proofs.YtkcljempplchkaaDoor

/- The reference: one token. -/
set_option maxRecDepth 100000
set_option linter.unusedVariables false
set_option linter.unusedSimpArgs false
namespace Go.Proofs.YtkcljempplchkaaDoor
open Go.Eng

def kinds : List Int := [1, 2, 6, 4]
/-- The reference's token at a place where a byte c stands. -/
def refAt (s : List UInt8) (i : Nat) (c : UInt8) : Option (Int × List UInt8) :=
  if inOp c then (if rruns.contains (spanS inOp s i) then (if isKind 5 (spanS inOp s i) then some (5, spanS inOp s i) else none) else if isKind 3 (spanS inOp s i) then some (3, spanS inOp s i) else none)
  else if iEq (uC c) 95 then (if iEq ((i + spanN inName (s.drop i) : Nat) : Int) ((i + 1 : Nat) : Int) then some (5, [c]) else none)
  else if iEq (uC c) 39 then (if iLt ((i + 1 : Nat) : Int) (sLen s) && capital (s.getD (i + 1) 0) then some (5, [c]) else none)
  else if inName c then (kinds.find? fun k => isKind k (spanS inName s i)).map fun k => (k, spanS inName s i)
  else if rbytes.contains [c] then some (5, [c]) else none

def OneRes (i : Nat) (o : Option (Int × List UInt8)) (r : ARet) : Prop :=
  match o with
  | some t => r = .ret (.tup [.agg [.int .i64 t.1, .str t.2, .int .i64 i], .bool true])
  | none => ∃ k t, r = .ret (.tup [.agg [.int .i64 k, .str t, .int .i64 i], .bool false])

theorem OneRes_ok {i : Nat} {k : Int} {t : List UInt8} {b : Bool} {o : Option (Int × List UInt8)} (h : o = if b = true then some (k, t) else none) : OneRes i o (.ret (.tup [.agg [.int .i64 k, .str t, .int .i64 i], .bool b])) := by
  subst h
  cases b with
  | true => rfl
  | false => exact ⟨k, t, rfl⟩
theorem rIs_pure' {O : Cfg} (k : Int) (text : List UInt8) (pos : Int) : PureCall O f_rIs [.agg [.int .i64 k, .str text, .int .i64 pos]] (.bool (isKind k text)) := rIs_pure ⟨k, text, pos⟩

theorem rone_spec {O : Cfg} {s : List UInt8} (hs : s.length < 4611686018427387904) {i : Nat} {c : UInt8} (hc : s[i]? = some c) (H : Hp) :
    ACalls O Tryd.prog f_rone [.str s, .int .i64 i] H (fun r H' => OneRes i (refAt s i c) r ∧ H' = H) := by
  have hi := (List.getElem?_eq_some_iff.1 hc).1
  have e : wAdd .i64 (i : Int) 1 = ((i + 1 : Nat) : Int) := by rw [wAdd_i64] <;> omega
  have key : ACalls O Tryd.prog f_rone [.str s, .int .i64 i] H (fun r H' => OneRes i (refAt s i c) r ∧ H.le H') := by
    refine entry h_rone rfl ?_; simp -implicitDefEqProofs only [go_sem, Nat.reduceAdd, Nat.reduceLeDiff, Nat.reduceEqDiff, Nat.reduceBEq, Nat.reduceLT, c_rone]
    intro id4 h4
    simp -implicitDefEqProofs only [go_sem, Nat.reduceAdd, Nat.reduceLeDiff, Nat.reduceEqDiff, Nat.reduceBEq, Nat.reduceLT]
    refine go ?_; simp -implicitDefEqProofs only [go_sem, Nat.reduceAdd, Nat.reduceLeDiff, Nat.reduceEqDiff, Nat.reduceBEq, Nat.reduceLT, ixK_at hc]
    refine go ?_
    have sl1 : slSA s (some (.int .i64 (i : Int))) (some (.int .i64 ((i + 1 : Nat) : Int))) = some (.str [c]) := by
      rw [slSA_both (by omega) hi, take_one hc]
    simp -implicitDefEqProofs only [go_sem, Nat.reduceAdd, Nat.reduceLeDiff, Nat.reduceEqDiff, Nat.reduceBEq, Nat.reduceLT, e, sl1]
    intro id7 h7
    have hl4 := le_upd (ob := .cells [.int .i64 0, .str [], .int .i64 0]) h4
    have h44 : (H.upd id4 (.cells [.int .i64 0, .str [], .int .i64 0])) id4 = some (.cells [.int .i64 0, .str [], .int .i64 0]) := Hp.upd_same _ _ _
    generalize H.upd id4 (.cells [.int .i64 0, .str [], .int .i64 0]) = K at *
    have ne : id7 ≠ id4 := by intro e; subst e; rw [h7] at h44; cases h44
    simp -implicitDefEqProofs only [go_sem, Nat.reduceAdd, Nat.reduceLeDiff, Nat.reduceEqDiff, Nat.reduceBEq, Nat.reduceLT]
    -- from now on both objects change
    have hle : ∀ o p, H.le ((K.upd id7 o).upd id4 p) := fun o p j ob hj => by
      rw [Hp.upd_ne, Hp.upd_ne]
      · exact hl4 j ob hj
      · intro e; subst e; rw [hl4 _ _ hj] at h7; cases h7
      · intro e; subst e; rw [h4] at hj; cases hj
    have g4 : ∀ o, (K.upd id7 o) id4 = some (.cells [.int .i64 0, .str [], .int .i64 0]) := fun o => upd_old h44 h7
    have hsp := fun op => spanN_le (kindB op) (s.drop i)
    have sl2 : ∀ op, slSA s (some (.int .i64 (i : Int))) (some (.int .i64 ((i + spanN (kindB op) (s.drop i) : Nat) : Int))) = some (.str (spanS (kindB op) s i)) := fun op => by
      have := hsp op
      rw [List.length_drop] at this
      rw [slSA_both (by omega) (by omega)]; rfl
    repeat' (first | ((with_reducible refine PureCall.step (rinOp_pure _) ?_); simp -implicitDefEqProofs only [go_sem, Nat.reduceAdd, Nat.reduceLeDiff, Nat.reduceEqDiff, Nat.reduceBEq, Nat.reduceLT, g4, e, sl1, sl2, ixK_getD]) | ((with_reducible refine PureCall.step (rinName_pure _) ?_); simp -implicitDefEqProofs only [go_sem, Nat.reduceAdd, Nat.reduceLeDiff, Nat.reduceEqDiff, Nat.reduceBEq, Nat.reduceLT, g4, e, sl1, sl2, ixK_getD]) | ((with_reducible refine PureCall.step (rrun_pure hs (Nat.le_of_lt hi) true) ?_); simp -implicitDefEqProofs only [go_sem, Nat.reduceAdd, Nat.reduceLeDiff, Nat.reduceEqDiff, Nat.reduceBEq, Nat.reduceLT, g4, e, sl1, sl2, ixK_getD]) | ((with_reducible refine PureCall.step (rrun_pure hs (Nat.le_of_lt hi) false) ?_); simp -implicitDefEqProofs only [go_sem, Nat.reduceAdd, Nat.reduceLeDiff, Nat.reduceEqDiff, Nat.reduceBEq, Nat.reduceLT, g4, e, sl1, sl2, ixK_getD]) | ((with_reducible refine PureCall.step (rruns_pure) ?_); simp -implicitDefEqProofs only [go_sem, Nat.reduceAdd, Nat.reduceLeDiff, Nat.reduceEqDiff, Nat.reduceBEq, Nat.reduceLT, g4, e, sl1, sl2, ixK_getD]) | ((with_reducible refine PureCall.step (rbytes_pure) ?_); simp -implicitDefEqProofs only [go_sem, Nat.reduceAdd, Nat.reduceLeDiff, Nat.reduceEqDiff, Nat.reduceBEq, Nat.reduceLT, g4, e, sl1, sl2, ixK_getD]) | ((with_reducible refine PureCall.step (rhas_pure _ (by decide) _ _) ?_); simp -implicitDefEqProofs only [go_sem, Nat.reduceAdd, Nat.reduceLeDiff, Nat.reduceEqDiff, Nat.reduceBEq, Nat.reduceLT, g4, e, sl1, sl2, ixK_getD]) | ((with_reducible refine PureCall.step (rIs_pure' _ _ _) ?_); simp -implicitDefEqProofs only [go_sem, Nat.reduceAdd, Nat.reduceLeDiff, Nat.reduceEqDiff, Nat.reduceBEq, Nat.reduceLT, g4, e, sl1, sl2, ixK_getD]) | ((with_reducible refine PureCall.step (rkinds_pure) ?_); simp -implicitDefEqProofs only [go_sem, Nat.reduceAdd, Nat.reduceLeDiff, Nat.reduceEqDiff, Nat.reduceBEq, Nat.reduceLT, g4, e, sl1, sl2, ixK_getD]) | ((with_reducible refine PureCall.step (rcapital_pure _) ?_); simp -implicitDefEqProofs only [go_sem, Nat.reduceAdd, Nat.reduceLeDiff, Nat.reduceEqDiff, Nat.reduceBEq, Nat.reduceLT, g4, e, sl1, sl2, ixK_getD]) | (refine wpC_split rfl rfl (fun h => ?_) (fun h => ?_) <;> (try simp -implicitDefEqProofs only [go_sem, Nat.reduceAdd, Nat.reduceLeDiff, Nat.reduceEqDiff, Nat.reduceBEq, Nat.reduceLT, h, g4, e, sl1, sl2, ixK_getD])) | (refine plan_split rfl rfl (fun h => ?_) (fun h => ?_) <;> simp -implicitDefEqProofs only [go_sem, Nat.reduceAdd, Nat.reduceLeDiff, Nat.reduceEqDiff, Nat.reduceBEq, Nat.reduceLT, h, g4, e, sl1, sl2, ixK_getD]) | (refine planD_split rfl rfl (fun h => ?_) (fun h => ?_) <;> simp -implicitDefEqProofs only [go_sem, Nat.reduceAdd, Nat.reduceLeDiff, Nat.reduceEqDiff, Nat.reduceBEq, Nat.reduceLT, h, g4, e, sl1, sl2, ixK_getD]) | (refine go ?_; try simp -implicitDefEqProofs only [go_sem, Nat.reduceAdd, Nat.reduceLeDiff, Nat.reduceEqDiff, Nat.reduceBEq, Nat.reduceLT, g4, e, sl1, sl2, ixK_getD]) | ((with_reducible refine wpC_id ?_); simp -implicitDefEqProofs only [go_sem, Nat.reduceAdd, Nat.reduceLeDiff, Nat.reduceEqDiff, Nat.reduceBEq, Nat.reduceLT, g4, e, sl1, sl2, ixK_getD]) | ((with_reducible first | refine quiet_id ?_ | refine wrote_id ?_ | refine resQ_id ?_); simp -implicitDefEqProofs only [go_sem, Nat.reduceAdd, Nat.reduceLeDiff, Nat.reduceEqDiff, Nat.reduceBEq, Nat.reduceLT, g4, e, sl1, sl2, ixK_getD]) | fail)
    · exact ⟨OneRes_ok (by simp_all [refAt, kindB, bNot_true, bNot_false]), hle _ _⟩
    · exact ⟨OneRes_ok (by simp_all [refAt, kindB, bNot_true, bNot_false]), hle _ _⟩
    · exact ⟨OneRes_ok (by simp_all [refAt, kindB]), hle _ _⟩
    · exact ⟨OneRes_ok (by simp_all [refAt, kindB]), hle _ _⟩
    · exact ⟨OneRes_ok (by simp_all [refAt, kindB]), hle _ _⟩
    · rw [wpC_loop]
      rename_i g1 g2 g3
      have hr : refAt s i c = (kinds.find? fun k => isKind k (spanS inName s i)).map fun k => (k, spanS inName s i) := by simp_all [refAt]
      have hT : spanS (kindB false) s i = spanS inName s i := rfl
      rw [hT]
      generalize spanS inName s i = T at *
      have hl4 : rLen [[.int .i64 1], [.int .i64 2], [.int .i64 6], [.int .i64 4]] = ((4 : Nat) : Int) := rfl
      simp only [hl4]
      refine AC.loop (fun n st => ∃ (j : Nat) (k : Int), j + n = 4 ∧ (∀ a, a < j → ∀ x, kinds[a]? = some x → isKind x T = false) ∧
        st = ⟨mk 93 [(4, .ref id4 0), (7, .ref id7 0), (75, .sl [[.int .i64 1], [.int .i64 2], [.int .i64 6], [.int .i64 4]] .full), (76, .int .i64 ((4 : Nat) : Int)), (77, .int .i64 j)], K.upd id7 (.cells [.int .i64 k, .str T, .int .i64 i]), []⟩) 4 ⟨0, 5, rfl, fun a h => by omega, rfl⟩ ?_
      rintro n _ ⟨j, k, hj, hall, rfl⟩
      simp -implicitDefEqProofs only [go_sem, Nat.reduceAdd, Nat.reduceLeDiff, Nat.reduceEqDiff, Nat.reduceBEq, Nat.reduceLT, l_rone_0]
      refine go ?_; simp -implicitDefEqProofs only [go_sem, Nat.reduceAdd, Nat.reduceLeDiff, Nat.reduceEqDiff, Nat.reduceBEq, Nat.reduceLT]
      refine go ?_
      refine wpC_split rfl rfl (fun h => ?_) (fun h => ?_) <;> simp -implicitDefEqProofs only [go_sem, Nat.reduceAdd, Nat.reduceLeDiff, Nat.reduceEqDiff, Nat.reduceBEq, Nat.reduceLT]
      · have hlt := iLt_true.1 h
        obtain ⟨x, hx, hrow⟩ : ∃ x, kinds[j]? = some x ∧ ([[.int .i64 1], [.int .i64 2], [.int .i64 6], [.int .i64 4]] : List (List AVal))[j]? = some [.int .i64 x] := by
          have : j = 0 ∨ j = 1 ∨ j = 2 ∨ j = 3 := by omega
          rcases this with rfl | rfl | rfl | rfl <;> exact ⟨_, rfl, rfl⟩
        have e2 : wAdd .i64 (j : Int) 1 = ((j + 1 : Nat) : Int) := by rw [wAdd_i64] <;> omega
        repeat' (first | ((with_reducible refine PureCall.step (rIs_pure' _ _ _) ?_); simp -implicitDefEqProofs only [go_sem, Nat.reduceAdd, Nat.reduceLeDiff, Nat.reduceEqDiff, Nat.reduceBEq, Nat.reduceLT, g4, e2, iaddrA_at (n := 1) hrow]) | (refine wpC_split rfl rfl (fun h => ?_) (fun h => ?_) <;> (try simp -implicitDefEqProofs only [go_sem, Nat.reduceAdd, Nat.reduceLeDiff, Nat.reduceEqDiff, Nat.reduceBEq, Nat.reduceLT, h, g4, e2, iaddrA_at (n := 1) hrow])) | (refine plan_split rfl rfl (fun h => ?_) (fun h => ?_) <;> simp -implicitDefEqProofs only [go_sem, Nat.reduceAdd, Nat.reduceLeDiff, Nat.reduceEqDiff, Nat.reduceBEq, Nat.reduceLT, h, g4, e2, iaddrA_at (n := 1) hrow]) | (refine planD_split rfl rfl (fun h => ?_) (fun h => ?_) <;> simp -implicitDefEqProofs only [go_sem, Nat.reduceAdd, Nat.reduceLeDiff, Nat.reduceEqDiff, Nat.reduceBEq, Nat.reduceLT, h, g4, e2, iaddrA_at (n := 1) hrow]) | (refine go ?_; try simp -implicitDefEqProofs only [go_sem, Nat.reduceAdd, Nat.reduceLeDiff, Nat.reduceEqDiff, Nat.reduceBEq, Nat.reduceLT, g4, e2, iaddrA_at (n := 1) hrow]) | ((with_reducible refine wpC_id ?_); simp -implicitDefEqProofs only [go_sem, Nat.reduceAdd, Nat.reduceLeDiff, Nat.reduceEqDiff, Nat.reduceBEq, Nat.reduceLT, g4, e2, iaddrA_at (n := 1) hrow]) | ((with_reducible first | refine quiet_id ?_ | refine wrote_id ?_ | refine resQ_id ?_); simp -implicitDefEqProofs only [go_sem, Nat.reduceAdd, Nat.reduceLeDiff, Nat.reduceEqDiff, Nat.reduceBEq, Nat.reduceLT, g4, e2, iaddrA_at (n := 1) hrow]) | fail)
        · have hf : kinds.find? (fun k => isKind k T) = some x := by
            rw [List.find?_eq_some_iff_getElem]
            refine ⟨by assumption, j, (List.getElem?_eq_some_iff.1 hx).1, (List.getElem?_eq_some_iff.1 hx).2, fun a ha => ?_⟩
            have := hall a ha _ (List.getElem?_eq_getElem (by have := (List.getElem?_eq_some_iff.1 hx).1; omega))
            simp [this]
          refine ⟨?_, hle _ _⟩
          rw [hr, hf]; rfl
        · refine ⟨n - 1, by omega, j + 1, x, by omega, fun a ha y hy => ?_, by simp⟩
          rcases Nat.lt_or_ge a j with h1 | h1
          · exact hall a h1 y hy
          · have : a = j := by omega
            subst this
            rw [hx] at hy; cases hy; assumption
      · have hge := iLt_false.1 h
        have hf : kinds.find? (fun k => isKind k T) = none := by
          rw [List.find?_eq_none]
          intro x hx
          obtain ⟨a, ha⟩ := List.mem_iff_getElem?.1 hx
          have hk : kinds.length = 4 := rfl
          have := hall a (by have := (List.getElem?_eq_some_iff.1 ha).1; omega) x ha
          simp [this]
        repeat' (first | (refine wpC_split rfl rfl (fun h => ?_) (fun h => ?_) <;> (try simp -implicitDefEqProofs only [go_sem, Nat.reduceAdd, Nat.reduceLeDiff, Nat.reduceEqDiff, Nat.reduceBEq, Nat.reduceLT, h, g4])) | (refine plan_split rfl rfl (fun h => ?_) (fun h => ?_) <;> simp -implicitDefEqProofs only [go_sem, Nat.reduceAdd, Nat.reduceLeDiff, Nat.reduceEqDiff, Nat.reduceBEq, Nat.reduceLT, h, g4]) | (refine planD_split rfl rfl (fun h => ?_) (fun h => ?_) <;> simp -implicitDefEqProofs only [go_sem, Nat.reduceAdd, Nat.reduceLeDiff, Nat.reduceEqDiff, Nat.reduceBEq, Nat.reduceLT, h, g4]) | (refine go ?_; try simp -implicitDefEqProofs only [go_sem, Nat.reduceAdd, Nat.reduceLeDiff, Nat.reduceEqDiff, Nat.reduceBEq, Nat.reduceLT, g4]) | ((with_reducible refine wpC_id ?_); simp -implicitDefEqProofs only [go_sem, Nat.reduceAdd, Nat.reduceLeDiff, Nat.reduceEqDiff, Nat.reduceBEq, Nat.reduceLT, g4]) | ((with_reducible first | refine quiet_id ?_ | refine wrote_id ?_ | refine resQ_id ?_); simp -implicitDefEqProofs only [go_sem, Nat.reduceAdd, Nat.reduceLeDiff, Nat.reduceEqDiff, Nat.reduceBEq, Nat.reduceLT, g4]) | fail)
        refine ⟨?_, hle _ _⟩
        rw [hr, hf]
        exact ⟨_, _, rfl⟩
    · exact ⟨OneRes_ok (by simp_all [refAt, kindB]), hle _ _⟩
  refine ACalls.forget (key.mono ?_)
  rintro r H' ⟨hr, hl⟩
  unfold OneRes at hr ⊢
  cases hA : refAt s i c with
  | some t => rw [hA] at hr; subst hr; exact ⟨_, H, .refl _, hl, rfl, rfl⟩
  | none => rw [hA] at hr; obtain ⟨k, t, rfl⟩ := hr; exact ⟨_, H, .refl _, hl, ⟨k, t, rfl⟩, rfl⟩

end Go.Proofs.YtkcljempplchkaaDoor

/- The reference's token is that of lexis; blanks. -/
set_option maxRecDepth 100000
set_option linter.unusedVariables false
set_option linter.unusedSimpArgs false
namespace Go.Proofs.YtkcljempplchkaaDoor
open Go.Eng

theorem sign_iff (c : UInt8) : iLe 0 (Lib.indexByte signs c) = signs.contains c := by
  have key : ∀ l : List UInt8, iLe 0 (Lib.indexByte l c) = l.contains c := by
    intro l
    induction l with
    | nil => rfl
    | cons b l ih =>
      rw [Lib.indexByte, List.contains_cons]
      by_cases hb : b = c
      · subst hb; simp [iLe]
      · have h1 : (b == c) = false := by simpa using hb
        have h2 : (c == b) = false := by simpa using fun h => hb h.symm
        simp only [h1, h2, Bool.false_eq_true, if_false, Bool.false_or]
        rw [← ih]
        have := Lib.indexByte_ge l c
        split
        · rename_i h; simp only [beq_iff_eq] at h; rw [h]
        · rename_i h
          simp only [beq_iff_eq] at h
          have h3 : 0 ≤ Lib.indexByte l c := by omega
          simp only [iLe]
          rw [decide_eq_true (by omega : 0 ≤ Lib.indexByte l c + 1), decide_eq_true h3]
  exact key _

theorem op_facts {c : UInt8} (h : inOp c = true) : signs.contains c = false ∧ iEq (uC c) 95 = false ∧ iEq (uC c) 39 = false ∧ inName c = false ∧ isBlank c = false := by
  rw [inOp_iff, List.contains_iff_mem] at h
  have key : ∀ x ∈ opBytes, signs.contains x = false ∧ iEq (uC x) 95 = false ∧ iEq (uC x) 39 = false ∧ inName x = false ∧ isBlank x = false := by decide
  exact key c h
theorem sign_facts {c : UInt8} (h : signs.contains c = true) : inOp c = false ∧ iEq (uC c) 95 = false ∧ iEq (uC c) 39 = false ∧ inName c = false ∧ rbytes.contains [c] = true := by
  rw [List.contains_iff_mem] at h
  have key : ∀ x ∈ signs, inOp x = false ∧ iEq (uC x) 95 = false ∧ iEq (uC x) 39 = false ∧ inName x = false ∧ rbytes.contains [x] = true := by decide
  exact key c h
theorem byte_of {c : UInt8} {n : Nat} (hn : n < 256) (h : iEq (uC c) (n : Int) = true) : c = UInt8.ofNat n := by
  rw [iEq_true] at h
  unfold uC at h
  apply UInt8.toNat_inj.1
  rw [UInt8.toNat_ofNat']
  omega
theorem spanN_pos {p : UInt8 → Bool} {s : List UInt8} {i : Nat} {c : UInt8} (hc : s[i]? = some c) (hp : p c = true) : ∃ t, spanS p s i = c :: t := by
  have hi := (List.getElem?_eq_some_iff.1 hc).1
  have h1 := spanN_at (p := p) hc
  rw [if_pos hp] at h1
  have h2 := spanN_le p (s.drop i)
  rw [List.length_drop] at h2
  unfold spanS
  rw [h1, List.drop_take]
  have e : s.drop i = c :: s.drop (i + 1) := by
    rw [List.drop_eq_getElem_cons hi]
    rw [List.getElem?_eq_getElem hi] at hc
    cases hc; rfl
  rw [e, show i + (spanN p (s.drop (i + 1)) + 1) - i = spanN p (s.drop (i + 1)) + 1 by omega, List.take_succ_cons]
  exact ⟨_, rfl⟩
/-- What begins so is no name. -/
theorem odd_none {c : UInt8} {t : List UInt8} (h : c = 95 ∨ c = 39) : isWord (c :: t) = false ∧ IsSmall (c :: t) = false ∧ IsCapital (c :: t) = false ∧ digit c = false := by
  have h1 : words.contains (c :: t) = false := by
    rw [Bool.eq_false_iff]
    intro hc
    have h' := List.contains_iff_mem.1 hc
    have key : ∀ x ∈ words, x.headD 0 ≠ 95 ∧ x.headD 0 ≠ 39 := by decide
    have := key _ h'
    simp only [List.headD_cons] at this
    rcases h with rfl | rfl
    · exact this.1 rfl
    · exact this.2 rfl
  refine ⟨h1, ?_, ?_, ?_⟩
  · rw [IsSmall, Bool.and_eq_false_iff]
    right
    show small c = false
    rcases h with rfl | rfl <;> decide
  · rw [IsCapital, Bool.and_eq_false_iff]
    right
    show capital c = false
    rcases h with rfl | rfl <;> decide
  · rcases h with rfl | rfl <;> decide

theorem tokAt_eq {s : List UInt8} {i : Nat} {c : UInt8} (hc : s[i]? = some c) : refAt s i c = tokAt s i c := by
  have hi := (List.getElem?_eq_some_iff.1 hc).1
  have z1 : inName 0 = false := by decide
  have z2 : capital 0 = false := by decide
  unfold refAt tokAt
  rw [sign_iff]
  cases ho : inOp c with
  | true =>
    obtain ⟨h1, h2, h3, h4, _⟩ := op_facts ho
    simp only [h1, h2, h3, h4, if_true, Bool.false_eq_true, if_false, Bool.false_and]
    generalize spanS inOp s i = T
    have er := reserved_eq T
    cases hr : reserved T with
    | true =>
      rw [hr] at er
      have e5 : isKind 5 T = true := by
        show (rruns.contains T || rbytes.contains T) = true
        rw [← er]; rfl
      rw [← er, e5]; rfl
    | false =>
      rw [hr] at er
      have e3 : isKind 3 T = isOp T := by rw [← IsOp_eq]; rfl
      rw [← er, e3]; rfl
  | false =>
    simp only [Bool.false_eq_true, if_false]
    cases hs : signs.contains c with
    | true =>
      obtain ⟨_, h2, h3, h4, h5⟩ := sign_facts hs
      simp only [h2, h3, h4, h5, Bool.false_eq_true, if_false, if_true]
    | false =>
      simp only [Bool.false_eq_true, if_false]
      cases h95 : iEq (uC c) 95 with
      | true =>
        have e : c = 95 := byte_of (by decide) h95
        subst e
        have hn : inName 95 = true := by decide
        have hsp := spanN_at (p := inName) hc
        rw [if_pos hn] at hsp
        obtain ⟨t, ht⟩ := spanN_pos hc hn
        obtain ⟨k1, k2, k3, k4⟩ := odd_none (t := t) (.inl rfl : (95 : UInt8) = 95 ∨ (95 : UInt8) = 39)
        have h39 : iEq (uC 95) 39 = false := by decide
        simp only [if_true, ht, k1, k2, k3, k4, h39, hn, Bool.false_eq_true, if_false, Bool.true_and, Bool.false_and]
        have : iEq ((i + spanN inName (s.drop i) : Nat) : Int) ((i + 1 : Nat) : Int) = !inName (s.getD (i + 1) 0) := by
          rw [hsp]
          cases hg : s[i + 1]? with
          | none =>
            rw [List.getD_eq_getElem?_getD, hg]
            have : s.drop (i + 1) = [] := List.drop_eq_nil_of_le (by simpa using hg)
            rw [this]
            simp [spanN, z1, iEq]
          | some d =>
            rw [List.getD_eq_getElem?_getD, hg]
            have h2 := spanN_at (p := inName) hg
            rw [h2]
            cases hd : inName d with
            | true =>
              have h3 : inName ((some d).getD 0) = true := hd
              rw [h3, if_pos rfl, Bool.not_true, iEq_false]; omega
            | false =>
              have h3 : inName ((some d).getD 0) = false := hd
              rw [h3, if_neg (by simp), Bool.not_false, iEq_true]
        rw [this]
      | false =>
        simp only [Bool.false_eq_true, if_false, Bool.false_and]
        cases h39 : iEq (uC c) 39 with
        | true =>
          have e : c = 39 := byte_of (by decide) h39
          subst e
          have hn : inName 39 = true := by decide
          obtain ⟨t, ht⟩ := spanN_pos hc hn
          obtain ⟨k1, k2, k3, k4⟩ := odd_none (t := t) (.inr rfl : (39 : UInt8) = 95 ∨ (39 : UInt8) = 39)
          simp only [if_true, ht, k1, k2, k3, k4, hn, Bool.false_eq_true, if_false, Bool.true_and, Bool.false_and]
          have : (iLt ((i + 1 : Nat) : Int) (sLen s) && capital (s.getD (i + 1) 0)) = capital (s.getD (i + 1) 0) := by
            cases hl : iLt ((i + 1 : Nat) : Int) (sLen s) with
            | true => rfl
            | false =>
              rw [iLt_false, sLen_eq] at hl
              rw [List.getD_eq_getElem?_getD, List.getElem?_eq_none (by omega)]
              rfl
          rw [this]
        | false =>
          simp only [Bool.false_eq_true, if_false, Bool.false_and]
          cases hn : inName c with
          | true =>
            simp only [if_true]
            obtain ⟨t, ht⟩ := spanN_pos hc hn
            have hd : number (spanS inName s i) = true → digit c = true := fun h => by
              rw [← number_eq, ht, isNum, Bool.and_eq_true, List.all_cons, Bool.and_eq_true] at h
              exact h.2.1
            generalize spanS inName s i = T at *
            have w1 : isWord T = true → IsSmall T = false ∧ IsCapital T = false := fun h => by
              simp [IsSmall, IsCapital, isName, nameHead, h]
            have e1 : isKind 1 T = IsSmall T := by simp [isKind, iEq, IsSmall_eq]
            have e2 : isKind 2 T = IsCapital T := by simp [isKind, iEq, IsCapital_eq]
            have e6 : isKind 6 T = isWord T := by simp [isKind, iEq, isWord]
            have e4 : isKind 4 T = number T := by simp [isKind, iEq, number_eq]
            simp only [kinds, List.find?_cons, e1, e2, e6, e4, List.find?_nil]
            cases hw : isWord T with
            | true => simp [(w1 hw).1, (w1 hw).2]
            | false =>
              cases IsSmall T <;> cases IsCapital T <;> cases hnum : number T <;> simp_all
          | false =>
            have : rbytes.contains [c] = false := by
              rw [Bool.eq_false_iff]
              intro h
              have h' := List.contains_iff_mem.1 h
              have key : ∀ x ∈ rbytes, x.length = 1 ∧ (signs.contains (x.headD 0) = true ∨ iEq (uC (x.headD 0)) 95 = true ∨ iEq (uC (x.headD 0)) 39 = true) := by decide
              have := (key _ h').2
              simp only [List.headD_cons, hs, h95, h39] at this
              simp at this
            simp only [this, Bool.false_eq_true, if_false]

/-! ### Blanks, step by step -/
theorem pfx_run {s : List UInt8} {i : Nat} {c : UInt8} (hc : s[i]? = some c) : pfx [45, 45] (spanS inOp s i) = pfx [45, 45] (s.drop i) := by
  have hi := (List.getElem?_eq_some_iff.1 hc).1
  have hm : inOp 45 = true := by decide
  have e0 : s.drop i = c :: s.drop (i + 1) := by
    rw [List.drop_eq_getElem_cons hi]
    rw [List.getElem?_eq_getElem hi] at hc
    cases hc; rfl
  have hspan : spanS inOp s i = (s.drop i).take (spanN inOp (s.drop i)) := by
    unfold spanS
    rw [List.drop_take, show i + spanN inOp (s.drop i) - i = spanN inOp (s.drop i) by omega]
  rw [hspan]
  generalize s.drop i = l
  match l with
  | [] => rfl
  | [a] => cases h : inOp a <;> simp [spanN, h, pfx, List.isPrefixOf]
  | a :: b :: t =>
    by_cases ha : a = 45
    · subst ha
      by_cases hb : b = 45
      · subst hb; simp [spanN, hm, pfx, List.isPrefixOf]
      · have hb' : (45 == b) = false := by simpa using fun e => hb e.symm
        cases h : inOp b <;> simp [spanN, hm, h, pfx, List.isPrefixOf, hb']
    · have ha' : (45 == a) = false := by simpa using fun e => ha e.symm
      cases h : inOp a <;> simp [spanN, h, pfx, List.isPrefixOf, ha']

def notNl (c : UInt8) : Bool := bNot (iEq (uC c) 10)
theorem blanks_end (s : List UInt8) : blanksTo s s.length = s.length := by simp [blanksTo, blk]
theorem blanks_blank {s : List UInt8} {i : Nat} {c : UInt8} (hc : s[i]? = some c) (hb : isBlank c = true) : blanksTo s i = blanksTo s (i + 1) := by
  have hi := (List.getElem?_eq_some_iff.1 hc).1
  unfold blanksTo
  obtain ⟨m, hm⟩ : ∃ m, s.length - i = m + 1 := ⟨s.length - i - 1, by omega⟩
  rw [hm, blk]
  simp only [hc, hb, if_true]
  rw [show m = s.length - (i + 1) by omega]
theorem spanN_index : ∀ l : List UInt8, spanN notNl l = if Lib.indexByte l 10 < 0 then l.length else (Lib.indexByte l 10).toNat
  | [] => rfl
  | b :: l => by
    have ih := spanN_index l
    have hge := Lib.indexByte_ge l 10
    have e : notNl b = !(b == 10) := by
      rw [notNl, uC_eq b 10 10 rfl]; cases (b == 10) <;> rfl
    rw [spanN, e, Lib.indexByte]
    cases hb : (b == 10) with
    | true => simp
    | false =>
      simp only [Bool.not_false, if_true, Bool.false_eq_true, if_false, ih]
      by_cases h : Lib.indexByte l 10 < 0
      · have h1 : Lib.indexByte l 10 = -1 := by omega
        simp [h1]
      · have h1 : (Lib.indexByte l 10 == -1) = false := by simp; omega
        simp only [h1, Bool.false_eq_true, if_false]
        rw [if_neg h, if_neg (by omega)]
        omega
theorem blanks_comment {s : List UInt8} {i : Nat} {c : UInt8} (hc : s[i]? = some c) (hb : isBlank c = false) (hp : pfx [45, 45] (s.drop i) = true) : blanksTo s i = blanksTo s (i + spanN notNl (s.drop i)) := by
  have hi := (List.getElem?_eq_some_iff.1 hc).1
  obtain ⟨m, hm⟩ : ∃ m, s.length - i = m + 1 := ⟨s.length - i - 1, by omega⟩
  have h1 : blanksTo s i = if Lib.indexByte (s.drop i) 10 < 0 then s.length else blk s m (i + (Lib.indexByte (s.drop i) 10).toNat) := by
    unfold blanksTo
    rw [hm, blk]
    simp only [hc, hb, hp, if_true, Bool.false_eq_true, if_false]
  rw [h1, spanN_index]
  have hpos := indexByte_pos hp
  have hlt := indexByte_lt (s.drop i) 10
  rw [List.length_drop] at *
  split
  · rw [show i + (s.length - i) = s.length by omega, blanks_end]
  · rw [blk_fuel _ _ _ (by omega)]; rfl
theorem blanks_none {s : List UInt8} {i : Nat} {c : UInt8} (hc : s[i]? = some c) (hb : isBlank c = false) (hp : pfx [45, 45] (s.drop i) = false) : blanksTo s i = i := by
  have hi := (List.getElem?_eq_some_iff.1 hc).1
  obtain ⟨m, hm⟩ : ∃ m, s.length - i = m + 1 := ⟨s.length - i - 1, by omega⟩
  unfold blanksTo
  rw [hm, blk]
  simp only [hc, hb, hp, Bool.false_eq_true, if_false]
/-- The rest is read alike from the place behind the blanks. -/
theorem lexF_same {s : List UInt8} {i j : Nat} (h : blanksTo s i = blanksTo s j) (f : Nat) : lexF s f i = lexF s f j ∨ f = 0 := by
  cases f with
  | zero => exact .inr rfl
  | succ f => left; simp only [lexF, h]

end Go.Proofs.YtkcljempplchkaaDoor

