/- What the machine's own functions on strings answer; the small functions that call them. -/
import Derived.Test.YtmpoklkgdcofbaaGreatDoorG04L1L1
import Derived.Test.YtmpoklkgdcofbaaGreatDoorG05E20E21
import Derived.Lib.Bytealg
set_option maxRecDepth 100000
set_option linter.unusedVariables false
set_option linter.unusedSimpArgs false
namespace Go.Proofs.YtmpoklkgdcofbaaGreatDoor
open Go.Eng

section
variable {O : Cfg}

theorem extern_pure {f : FuncId} {args : List AVal} {v : AVal} (h : ∀ G w vs, Reps G w args vs → ∃ u, (callFunc f (List.toArray vs)).run Tryz.prog w = .ok (.value u) w ∧ Rep G w v u) : PureCall O f args v := by
  intro H base w0 G w vs hL hw hvs
  obtain ⟨u, h1, h2⟩ := h G w vs hvs
  exact .inr ⟨u, w, h1, v, H, G, h2, ⟨rfl, rfl⟩, hw, GExt.refl _ _, Fr.refl _ _ _⟩

theorem reps_two {G : Gh} {w : World} {a b : AVal} {vs : List Value} (h : Reps G w [a, b] vs) : ∃ u v, vs = [u, v] ∧ Rep G w a u ∧ Rep G w b v := by
  match vs, h with
  | [u, v], h => exact ⟨u, v, rfl, h.head, h.tail.head⟩
  | [], h => have := h.1; simp at this
  | [_], h => have := h.1; simp at this
  | _ :: _ :: _ :: _, h => have := h.1; simp at this

theorem uC_toUInt8 (c : UInt8) : (uC c).toNat.toUInt8 = c := by
  unfold uC
  simp

theorem IndexByteString_pure (s : List UInt8) (c : UInt8) : PureCall O f_IndexByteString [.str s, .int .u8 (uC c)] (.int .i64 (Lib.indexByte s c)) :=
  extern_pure fun G w vs hvs => by
    obtain ⟨u, v, rfl, h1, h2⟩ := reps_two hvs
    rw [h1.str_inv, h2.int_inv]
    refine ⟨.int .i64 (Lib.indexByte s c), ?_, .int _ _⟩
    have := run_callFunc_extern (e := Extern.BytealgIndexByte.indexByte) Tryz.func258 (by kernel_rfl) (by kernel_rfl) (by kernel_rfl) (by kernel_rfl) #[.string ⟨s.toArray⟩, .int .u8 (uC c)] w
    rw [Lib.run_indexByteString] at this
    simpa [uC_toUInt8] using this

theorem slIndexByte_pure (s : List UInt8) (c : UInt8) : PureCall O f_slIndexByte [.str s, .int .u8 (uC c)] (.int .i64 (Lib.indexByte s c)) := fun H => by
  refine entry h_slIndexByte rfl ?_; simp -implicitDefEqProofs only [go_sem, Nat.reduceSub, Nat.reduceAdd, Nat.reduceLeDiff, Nat.reduceEqDiff, Nat.reduceBEq, Nat.reduceLT, c_slIndexByte]
  refine go ?_; simp -implicitDefEqProofs only [go_sem, Nat.reduceSub, Nat.reduceAdd, Nat.reduceLeDiff, Nat.reduceEqDiff, Nat.reduceBEq, Nat.reduceLT]
  refine PureCall.step (IndexByteString_pure _ _) ?_; simp -implicitDefEqProofs only [go_sem, Nat.reduceSub, Nat.reduceAdd, Nat.reduceLeDiff, Nat.reduceEqDiff, Nat.reduceBEq, Nat.reduceLT]
  refine go ?_; simp -implicitDefEqProofs only [go_sem, Nat.reduceSub, Nat.reduceAdd, Nat.reduceLeDiff, Nat.reduceEqDiff, Nat.reduceBEq, Nat.reduceLT, and_self]

theorem IndexByte_pure (s : List UInt8) (c : UInt8) : PureCall O f_IndexByte [.str s, .int .u8 (uC c)] (.int .i64 (Lib.indexByte s c)) := fun H => by
  refine entry h_IndexByte rfl ?_; simp -implicitDefEqProofs only [go_sem, Nat.reduceSub, Nat.reduceAdd, Nat.reduceLeDiff, Nat.reduceEqDiff, Nat.reduceBEq, Nat.reduceLT, c_IndexByte]
  refine go ?_; simp -implicitDefEqProofs only [go_sem, Nat.reduceSub, Nat.reduceAdd, Nat.reduceLeDiff, Nat.reduceEqDiff, Nat.reduceBEq, Nat.reduceLT]
  refine PureCall.step (slIndexByte_pure _ _) ?_; simp -implicitDefEqProofs only [go_sem, Nat.reduceSub, Nat.reduceAdd, Nat.reduceLeDiff, Nat.reduceEqDiff, Nat.reduceBEq, Nat.reduceLT]
  refine go ?_; simp -implicitDefEqProofs only [go_sem, Nat.reduceSub, Nat.reduceAdd, Nat.reduceLeDiff, Nat.reduceEqDiff, Nat.reduceBEq, Nat.reduceLT, and_self]

def opBytes : List UInt8 := [33, 35, 36, 37, 38, 42, 43, 46, 47, 60, 61, 62, 63, 64, 94, 124, 45, 126, 58, 92]
/-- A byte of an operator. -/
def inOp (c : UInt8) : Bool := iLe 0 (Lib.indexByte opBytes c)

theorem isOpByte_pure (c : UInt8) : PureCall O f_isOpByte [.int .u8 (uC c)] (.bool (inOp c)) := fun H => by
  refine entry h_isOpByte rfl ?_; simp -implicitDefEqProofs only [go_sem, Nat.reduceSub, Nat.reduceAdd, Nat.reduceLeDiff, Nat.reduceEqDiff, Nat.reduceBEq, Nat.reduceLT, c_isOpByte]
  refine go ?_; simp -implicitDefEqProofs only [go_sem, Nat.reduceSub, Nat.reduceAdd, Nat.reduceLeDiff, Nat.reduceEqDiff, Nat.reduceBEq, Nat.reduceLT]
  refine PureCall.step (IndexByte_pure _ _) ?_; simp -implicitDefEqProofs only [go_sem, Nat.reduceSub, Nat.reduceAdd, Nat.reduceLeDiff, Nat.reduceEqDiff, Nat.reduceBEq, Nat.reduceLT]
  refine go ?_; simp -implicitDefEqProofs only [go_sem, Nat.reduceSub, Nat.reduceAdd, Nat.reduceLeDiff, Nat.reduceEqDiff, Nat.reduceBEq, Nat.reduceLT]
  simp [inOp, opBytes]

/-- The runs that are signs. -/
def runs : List (List UInt8) := [[61], [45, 62], [61, 62], [60, 45], [58], [124], [64], [126], [33], [46], [92]]
def reserved (s : List UInt8) : Bool := runs.any fun r => sEq s r

theorem reserved_pure (s : List UInt8) : PureCall O f_reserved [.str s] (.bool (reserved s)) := fun H => by
  refine entry h_reserved rfl ?_; simp -implicitDefEqProofs only [go_sem, Nat.reduceSub, Nat.reduceAdd, Nat.reduceLeDiff, Nat.reduceEqDiff, Nat.reduceBEq, Nat.reduceLT, c_reserved]
  repeat' (first
    | (refine wpC_split rfl rfl (fun h => ?_) (fun h => ?_) <;> simp -implicitDefEqProofs only [go_sem, Nat.reduceSub, Nat.reduceAdd, Nat.reduceLeDiff, Nat.reduceEqDiff, Nat.reduceBEq, Nat.reduceLT])
    | (refine go ?_; try simp -implicitDefEqProofs only [go_sem, Nat.reduceSub, Nat.reduceAdd, Nat.reduceLeDiff, Nat.reduceEqDiff, Nat.reduceBEq, Nat.reduceLT]) | fail)
  all_goals simp_all [reserved, runs]

def pfx (p s : List UInt8) : Bool := p.isPrefixOf s
theorem slHasPrefix_pure (s p : List UInt8) : PureCall O f_slHasPrefix [.str s, .str p] (.bool (pfx p s)) := fun H => by
  refine entry h_slHasPrefix rfl ?_; simp -implicitDefEqProofs only [go_sem, Nat.reduceSub, Nat.reduceAdd, Nat.reduceLeDiff, Nat.reduceEqDiff, Nat.reduceBEq, Nat.reduceLT, c_slHasPrefix]
  refine go ?_; simp -implicitDefEqProofs only [go_sem, Nat.reduceSub, Nat.reduceAdd, Nat.reduceLeDiff, Nat.reduceEqDiff, Nat.reduceBEq, Nat.reduceLT]
  refine plan_split rfl rfl (fun h => ?_) (fun h => ?_) <;> simp -implicitDefEqProofs only [go_sem, Nat.reduceSub, Nat.reduceAdd, Nat.reduceLeDiff, Nat.reduceEqDiff, Nat.reduceBEq, Nat.reduceLT, h]
  · rw [iLe_true, sLen_eq, sLen_eq] at h
    have h' : p.length ≤ s.length := by omega
    simp -implicitDefEqProofs only [go_sem, Nat.reduceSub, Nat.reduceAdd, Nat.reduceLeDiff, Nat.reduceEqDiff, Nat.reduceBEq, Nat.reduceLT, sLen_eq, slSA_hi h']
    refine go ?_; simp -implicitDefEqProofs only [go_sem, Nat.reduceSub, Nat.reduceAdd, Nat.reduceLeDiff, Nat.reduceEqDiff, Nat.reduceBEq, Nat.reduceLT, and_true]
    congr 2
    rw [pfx, Bool.eq_iff_iff, sEq_true, List.isPrefixOf_iff_prefix, List.prefix_iff_eq_take]
    exact ⟨Eq.symm, Eq.symm⟩
  · refine go ?_; simp -implicitDefEqProofs only [go_sem, Nat.reduceSub, Nat.reduceAdd, Nat.reduceLeDiff, Nat.reduceEqDiff, Nat.reduceBEq, Nat.reduceLT, and_true]
    rw [iLe_false, sLen_eq, sLen_eq] at h
    congr 2
    symm
    rw [pfx, Bool.eq_false_iff]
    intro hp
    have := (List.isPrefixOf_iff_prefix.1 hp).length_le
    omega

theorem HasPrefix_pure (s p : List UInt8) : PureCall O f_HasPrefix [.str s, .str p] (.bool (pfx p s)) := fun H => by
  refine entry h_HasPrefix rfl ?_; simp -implicitDefEqProofs only [go_sem, Nat.reduceSub, Nat.reduceAdd, Nat.reduceLeDiff, Nat.reduceEqDiff, Nat.reduceBEq, Nat.reduceLT, c_HasPrefix]
  refine go ?_; simp -implicitDefEqProofs only [go_sem, Nat.reduceSub, Nat.reduceAdd, Nat.reduceLeDiff, Nat.reduceEqDiff, Nat.reduceBEq, Nat.reduceLT]
  refine PureCall.step (slHasPrefix_pure _ _) ?_; simp -implicitDefEqProofs only [go_sem, Nat.reduceSub, Nat.reduceAdd, Nat.reduceLeDiff, Nat.reduceEqDiff, Nat.reduceBEq, Nat.reduceLT]
  refine go ?_; simp -implicitDefEqProofs only [go_sem, Nat.reduceSub, Nat.reduceAdd, Nat.reduceLeDiff, Nat.reduceEqDiff, Nat.reduceBEq, Nat.reduceLT, and_self]

def isOp (s : List UInt8) : Bool := !(sEq s [] || iLt 16 (sLen s) || reserved s || pfx [45, 45] s) && s.all inOp

theorem IsOp_pure (s : List UInt8) : PureCall O f_IsOp [.str s] (.bool (isOp s)) := fun H => by
  refine entry h_IsOp rfl ?_; simp -implicitDefEqProofs only [go_sem, Nat.reduceSub, Nat.reduceAdd, Nat.reduceLeDiff, Nat.reduceEqDiff, Nat.reduceBEq, Nat.reduceLT, c_IsOp]
  repeat' (first
    | (refine PureCall.step (reserved_pure _) ?_; simp -implicitDefEqProofs only [go_sem, Nat.reduceSub, Nat.reduceAdd, Nat.reduceLeDiff, Nat.reduceEqDiff, Nat.reduceBEq, Nat.reduceLT])
    | (refine PureCall.step (HasPrefix_pure _ _) ?_; simp -implicitDefEqProofs only [go_sem, Nat.reduceSub, Nat.reduceAdd, Nat.reduceLeDiff, Nat.reduceEqDiff, Nat.reduceBEq, Nat.reduceLT])
    | (refine wpC_split rfl rfl (fun h => ?_) (fun h => ?_) <;> simp -implicitDefEqProofs only [go_sem, Nat.reduceSub, Nat.reduceAdd, Nat.reduceLeDiff, Nat.reduceEqDiff, Nat.reduceBEq, Nat.reduceLT])
    | (refine go ?_; try simp -implicitDefEqProofs only [go_sem, Nat.reduceSub, Nat.reduceAdd, Nat.reduceLeDiff, Nat.reduceEqDiff, Nat.reduceBEq, Nat.reduceLT])
    | (refine plan_split rfl rfl (fun h => ?_) (fun h => ?_) <;> simp -implicitDefEqProofs only [go_sem, Nat.reduceSub, Nat.reduceAdd, Nat.reduceLeDiff, Nat.reduceEqDiff, Nat.reduceBEq, Nat.reduceLT, h]) | fail)
  · simp_all [isOp]
  · simp_all [isOp]
  · simp_all [isOp]
  · simp_all [isOp]
  rename_i g1 g2 g3
  have g4 := h
  rw [iLt_false, sLen_eq] at g2
  rw [wpC_loop]
  refine AC.loop (fun n st => ∃ i : Nat, i + n = s.length ∧ (s.take i).all inOp = true ∧ st = ⟨mk 30 [(0, .str s), (20, .int .i64 (sLen s)), (21, .int .i64 i)], H, []⟩) s.length ⟨0, by omega, rfl, rfl⟩ ?_
  rintro n _ ⟨i, hi, hall, rfl⟩
  simp -implicitDefEqProofs only [go_sem, Nat.reduceSub, Nat.reduceAdd, Nat.reduceLeDiff, Nat.reduceEqDiff, Nat.reduceBEq, Nat.reduceLT, l_IsOp_0]
  repeat' (first
    | (refine PureCall.step (isOpByte_pure _) ?_; simp -implicitDefEqProofs only [go_sem, Nat.reduceSub, Nat.reduceAdd, Nat.reduceLeDiff, Nat.reduceEqDiff, Nat.reduceBEq, Nat.reduceLT])
    | (refine wpC_split rfl rfl (fun h => ?_) (fun h => ?_) <;> simp -implicitDefEqProofs only [go_sem, Nat.reduceSub, Nat.reduceAdd, Nat.reduceLeDiff, Nat.reduceEqDiff, Nat.reduceBEq, Nat.reduceLT])
    | (refine go ?_; try simp -implicitDefEqProofs only [go_sem, Nat.reduceSub, Nat.reduceAdd, Nat.reduceLeDiff, Nat.reduceEqDiff, Nat.reduceBEq, Nat.reduceLT])
    | (refine plan_split rfl rfl (fun h => ?_) (fun h => ?_) <;> simp -implicitDefEqProofs only [go_sem, Nat.reduceSub, Nat.reduceAdd, Nat.reduceLeDiff, Nat.reduceEqDiff, Nat.reduceBEq, Nat.reduceLT, h]) | fail)
  · rw [iLt_true, sLen_eq] at h
    have hlt : i < s.length := by omega
    obtain ⟨b, hb⟩ : ∃ b, s[i]? = some b := ⟨_, List.getElem?_eq_getElem hlt⟩
    simp -implicitDefEqProofs only [go_sem, Nat.reduceSub, Nat.reduceAdd, Nat.reduceLeDiff, Nat.reduceEqDiff, Nat.reduceBEq, Nat.reduceLT, ixK_at hb]
    refine PureCall.step (isOpByte_pure _) ?_; simp -implicitDefEqProofs only [go_sem, Nat.reduceSub, Nat.reduceAdd, Nat.reduceLeDiff, Nat.reduceEqDiff, Nat.reduceBEq, Nat.reduceLT]
    have e : wAdd .i64 (i : Int) 1 = ((i + 1 : Nat) : Int) := by rw [wAdd_i64] <;> omega
    repeat' (first
      | (refine wpC_split rfl rfl (fun h => ?_) (fun h => ?_) <;> simp -implicitDefEqProofs only [go_sem, Nat.reduceSub, Nat.reduceAdd, Nat.reduceLeDiff, Nat.reduceEqDiff, Nat.reduceBEq, Nat.reduceLT])
      | (refine go ?_; try simp -implicitDefEqProofs only [go_sem, Nat.reduceSub, Nat.reduceAdd, Nat.reduceLeDiff, Nat.reduceEqDiff, Nat.reduceBEq, Nat.reduceLT]) | fail)
    · have h1 := bNot_true.1 h
      congr 2
      symm
      simp only [isOp, Bool.and_eq_false_iff, List.all_eq_false]
      exact .inr ⟨b, List.mem_of_getElem? hb, by simp [h1]⟩
    · have h1 := bNot_false.1 h
      refine ⟨n - 1, by omega, i + 1, by omega, ?_, by rw [e]⟩
      rw [List.take_add_one, hb]
      simp [hall, h1]
  · rw [iLt_false, sLen_eq] at h
    have : i = s.length := by omega
    subst this
    rw [List.take_length] at hall
    have g2' : iLt 16 (sLen s) = false := by rw [iLt_false, sLen_eq]; exact g2
    simp [isOp, g1, g2', g3, g4, hall]

end
end Go.Proofs.YtmpoklkgdcofbaaGreatDoor

/- Lists of strings; words. -/
set_option maxRecDepth 100000
set_option linter.unusedVariables false
set_option linter.unusedSimpArgs false
namespace Go.Proofs.YtmpoklkgdcofbaaGreatDoor
open Go.Eng

section
variable {O : Cfg}

/-- The first place of a string in a list. -/
def indexS (l : List (List UInt8)) (w : List UInt8) : Int := match l.findIdx? (fun x => sEq w x) with
  | some i => i
  | none => -1

theorem indexS_at {l : List (List UInt8)} {w b : List UInt8} {i : Nat} (hb : l[i]? = some b) (h : sEq w b = true) (hall : ∀ j x, j < i → l[j]? = some x → sEq w x = false) : indexS l w = i := by
  have hi := (List.getElem?_eq_some_iff.1 hb).1
  have : l.findIdx? (fun x => sEq w x) = some i := by
    rw [List.findIdx?_eq_some_iff_getElem]
    refine ⟨hi, ?_, fun j hj => ?_⟩
    · rw [List.getElem?_eq_getElem hi] at hb; cases hb; exact h
    · have := hall j _ hj (List.getElem?_eq_getElem (by omega))
      simp [this]
  simp [indexS, this]
theorem indexS_none {l : List (List UInt8)} {w : List UInt8} (hall : ∀ x ∈ l, sEq w x = false) : indexS l w = -1 := by
  have : l.findIdx? (fun x => sEq w x) = none := by
    rw [List.findIdx?_eq_none_iff]
    exact hall
  simp [indexS, this]
theorem indexS_nonneg (l : List (List UInt8)) (w : List UInt8) : iLe 0 (indexS l w) = l.contains w := by
  unfold indexS
  cases h : l.findIdx? (fun x => sEq w x) with
  | none =>
    rw [List.findIdx?_eq_none_iff] at h
    have : l.contains w = false := by
      rw [Bool.eq_false_iff]
      intro hc
      have := h w (List.contains_iff_mem.1 hc)
      rw [sEq_self] at this
      cases this
    rw [this]; decide
  | some i =>
    rw [List.findIdx?_eq_some_iff_getElem] at h
    obtain ⟨hi, h1, _⟩ := h
    rw [sEq_true] at h1
    have : l.contains w = true := List.contains_iff_mem.2 (h1 ▸ List.getElem_mem hi)
    rw [this]
    simp [iLe]

theorem index_pure (l : List (List UInt8)) (hl : l.length < 1000000) (t : Tok) (w : List UInt8) : PureCall O f_index [.sl (strRows l) t, .str w] (.int .i64 (indexS l w)) := fun H => by
  refine entry h_index rfl ?_; simp -implicitDefEqProofs only [go_sem, Nat.reduceSub, Nat.reduceAdd, Nat.reduceLeDiff, Nat.reduceEqDiff, Nat.reduceBEq, Nat.reduceLT, c_index]
  repeat' (first
    | (refine go ?_; try simp -implicitDefEqProofs only [go_sem, Nat.reduceSub, Nat.reduceAdd, Nat.reduceLeDiff, Nat.reduceEqDiff, Nat.reduceBEq, Nat.reduceLT]) | fail)
  rw [wpC_loop]
  refine AC.loop (fun n st => ∃ i : Nat, i + n = l.length ∧ (∀ j x, j < i → l[j]? = some x → sEq w x = false) ∧ st = ⟨mk 19 [(0, .sl (strRows l) t), (1, .str w), (7, .int .i64 (rLen (strRows l))), (8, .int .i64 i)], H, []⟩) l.length ⟨0, by omega, fun j x hj => by omega, rfl⟩ ?_
  rintro n _ ⟨i, hi, hall, rfl⟩
  simp -implicitDefEqProofs only [go_sem, Nat.reduceSub, Nat.reduceAdd, Nat.reduceLeDiff, Nat.reduceEqDiff, Nat.reduceBEq, Nat.reduceLT, l_index_0]
  repeat' (first
    | (refine wpC_split rfl rfl (fun h => ?_) (fun h => ?_) <;> simp -implicitDefEqProofs only [go_sem, Nat.reduceSub, Nat.reduceAdd, Nat.reduceLeDiff, Nat.reduceEqDiff, Nat.reduceBEq, Nat.reduceLT])
    | (refine go ?_; try simp -implicitDefEqProofs only [go_sem, Nat.reduceSub, Nat.reduceAdd, Nat.reduceLeDiff, Nat.reduceEqDiff, Nat.reduceBEq, Nat.reduceLT]) | fail)
  · rw [iLt_true, rLen_str] at h
    have hlt : i < l.length := by omega
    obtain ⟨b, hb⟩ : ∃ b, l[i]? = some b := ⟨_, List.getElem?_eq_getElem hlt⟩
    simp -implicitDefEqProofs only [go_sem, Nat.reduceSub, Nat.reduceAdd, Nat.reduceLeDiff, Nat.reduceEqDiff, Nat.reduceBEq, Nat.reduceLT, iaddrA_str hb]
    have e : wAdd .i64 (i : Int) 1 = ((i + 1 : Nat) : Int) := by rw [wAdd_i64] <;> omega
    repeat' (first
      | (refine wpC_split rfl rfl (fun h => ?_) (fun h => ?_) <;> simp -implicitDefEqProofs only [go_sem, Nat.reduceSub, Nat.reduceAdd, Nat.reduceLeDiff, Nat.reduceEqDiff, Nat.reduceBEq, Nat.reduceLT])
      | (refine go ?_; try simp -implicitDefEqProofs only [go_sem, Nat.reduceSub, Nat.reduceAdd, Nat.reduceLeDiff, Nat.reduceEqDiff, Nat.reduceBEq, Nat.reduceLT]) | fail)
    · congr 2
      symm
      exact indexS_at hb h hall
    · have hne := h
      refine ⟨n - 1, by omega, i + 1, by omega, ?_, by rw [e]⟩
      intro j x hj hx
      rcases Nat.lt_or_ge j i with hji | hji
      · exact hall j x hji hx
      · have : j = i := by omega
        subst this
        rw [hb] at hx; cases hx
        exact hne
  · rw [iLt_false, rLen_str] at h
    congr 2
    symm
    exact indexS_none fun x hx => by
      obtain ⟨j, hj⟩ := List.mem_iff_getElem?.1 hx
      exact hall j x (by have := (List.getElem?_eq_some_iff.1 hj).1; omega) hj

theorem contains_pure (l : List (List UInt8)) (hl : l.length < 1000000) (t : Tok) (w : List UInt8) : PureCall O f_contains [.sl (strRows l) t, .str w] (.bool (l.contains w)) := fun H => by
  refine entry h_contains rfl ?_; simp -implicitDefEqProofs only [go_sem, Nat.reduceSub, Nat.reduceAdd, Nat.reduceLeDiff, Nat.reduceEqDiff, Nat.reduceBEq, Nat.reduceLT, c_contains]
  repeat' (first
    | (refine PureCall.step (index_pure _ hl _ _) ?_; simp -implicitDefEqProofs only [go_sem, Nat.reduceSub, Nat.reduceAdd, Nat.reduceLeDiff, Nat.reduceEqDiff, Nat.reduceBEq, Nat.reduceLT])
    | (refine go ?_; try simp -implicitDefEqProofs only [go_sem, Nat.reduceSub, Nat.reduceAdd, Nat.reduceLeDiff, Nat.reduceEqDiff, Nat.reduceBEq, Nat.reduceLT]) | fail)
  rw [indexS_nonneg]

end
end Go.Proofs.YtmpoklkgdcofbaaGreatDoor

