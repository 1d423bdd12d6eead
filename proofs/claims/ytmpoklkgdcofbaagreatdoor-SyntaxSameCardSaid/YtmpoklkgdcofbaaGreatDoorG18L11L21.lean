/- What stands between tokens. -/
import Derived.Test.YtmpoklkgdcofbaaGreatDoorG14L5L10
import Derived.Lib.AtoiAllCases
set_option maxRecDepth 100000
set_option linter.unusedVariables false
set_option linter.unusedSimpArgs false
namespace Go.Proofs.YtmpoklkgdcofbaaGreatDoor
open Go.Eng

def isBlank (c : UInt8) : Bool := iEq (uC c) 32 || iEq (uC c) 9 || iEq (uC c) 10 || iEq (uC c) 13

/-- Where blanks and comments end; the first number bounds the steps. -/
def blk (s : List UInt8) : Nat → Nat → Nat
  | 0, i => i
  | f + 1, i => match s[i]? with
    | none => i
    | some c => if isBlank c = true then blk s f (i + 1) else if pfx [45, 45] (s.drop i) = true then (if Lib.indexByte (s.drop i) 10 < 0 then s.length else blk s f (i + (Lib.indexByte (s.drop i) 10).toNat)) else i
def blanksTo (s : List UInt8) (i : Nat) : Nat := blk s (s.length - i) i

theorem indexByte_lt (l : List UInt8) (c : UInt8) : Lib.indexByte l c < l.length ∨ Lib.indexByte l c = -1 := by
  induction l with
  | nil => exact .inr rfl
  | cons b l ih =>
    unfold Lib.indexByte
    split
    · left; simp
    · split
      · exact .inr rfl
      · rename_i h; simp at h; left; simp; omega
theorem indexByte_pos {s : List UInt8} {i : Nat} (h : pfx [45, 45] (s.drop i) = true) : Lib.indexByte (s.drop i) 10 ≠ 0 := by
  cases hd : s.drop i with
  | nil => decide
  | cons b t =>
    rw [hd] at h
    unfold Lib.indexByte
    split
    · rename_i hb
      simp only [beq_iff_eq] at hb
      subst hb
      simp [pfx, List.isPrefixOf] at h
    · split
      · decide
      · have := Lib.indexByte_ge t 10; rename_i h1; simp at h1; omega

theorem blk_fuel (s : List UInt8) : ∀ (f i : Nat), s.length - i ≤ f → blk s f i = blk s (s.length - i) i := by
  intro f
  induction f using Nat.strongRecOn with
  | _ f ih =>
    intro i h
    cases f with
    | zero => rw [Nat.le_zero.1 h]
    | succ f =>
      cases hs : s[i]? with
      | none =>
        have : s.length ≤ i := by rw [List.getElem?_eq_none_iff] at hs; exact hs
        rw [show s.length - i = 0 by omega]
        simp only [blk, hs]
      | some c =>
        have hi : i < s.length := (List.getElem?_eq_some_iff.1 hs).1
        obtain ⟨m, hm⟩ : ∃ m, s.length - i = m + 1 := ⟨s.length - i - 1, by omega⟩
        rw [hm]
        simp only [blk, hs]
        split
        · rw [ih f (by omega) (i + 1) (by omega), ih m (by omega) (i + 1) (by omega)]
        · split
          · rename_i hp
            have := indexByte_pos hp
            have h1 := Lib.indexByte_ge (s.drop i) 10
            split
            · rfl
            · rw [ih f (by omega) _ (by omega), ih m (by omega) _ (by omega)]
          · rfl

theorem IndexByte_nl {O : Cfg} (s : List UInt8) : PureCall O f_IndexByte [.str s, .int .u8 10] (.int .i64 (Lib.indexByte s 10)) := IndexByte_pure s 10

theorem blanks_spec {O : Cfg} {s : List UInt8} (hs : s.length < 4611686018427387904) {i0 : Nat} (hi0 : i0 ≤ s.length) (id : Nat) (H : Hp) :
    ACalls O Tryz.prog f_blanks [.ref id 0] (H.upd id (.cells [.str s, .int .i64 i0])) (fun r H' => r = .ret (.tup []) ∧ H' = H.upd id (.cells [.str s, .int .i64 (blanksTo s i0)])) := by
  refine entry h_blanks rfl ?_; simp -implicitDefEqProofs only [go_sem, Nat.reduceSub, Nat.reduceAdd, Nat.reduceLeDiff, Nat.reduceEqDiff, Nat.reduceBEq, Nat.reduceLT, c_blanks]
  refine go ?_; simp -implicitDefEqProofs only [go_sem, Nat.reduceSub, Nat.reduceAdd, Nat.reduceLeDiff, Nat.reduceEqDiff, Nat.reduceBEq, Nat.reduceLT]
  rw [wpC_loop]
  refine AC.loop (fun n st => ∃ i : Nat, i ≤ s.length ∧ n = s.length - i ∧ blk s n i = blanksTo s i0 ∧ st = ⟨mk 84 [(0, .ref id 0)], H.upd id (.cells [.str s, .int .i64 i]), []⟩) (s.length - i0) ⟨i0, hi0, rfl, rfl, rfl⟩ ?_
  rintro n _ ⟨i, hi, rfl, hb, rfl⟩
  simp -implicitDefEqProofs only [go_sem, Nat.reduceSub, Nat.reduceAdd, Nat.reduceLeDiff, Nat.reduceEqDiff, Nat.reduceBEq, Nat.reduceLT, l_blanks_0]
  refine go ?_; simp -implicitDefEqProofs only [go_sem, Nat.reduceSub, Nat.reduceAdd, Nat.reduceLeDiff, Nat.reduceEqDiff, Nat.reduceBEq, Nat.reduceLT]
  refine go ?_
  refine wpC_split rfl rfl (fun h => ?_) (fun h => ?_) <;> simp -implicitDefEqProofs only [go_sem, Nat.reduceSub, Nat.reduceAdd, Nat.reduceLeDiff, Nat.reduceEqDiff, Nat.reduceBEq, Nat.reduceLT]
  · rw [iLt_true, sLen_eq] at h
    have hlt : i < s.length := by omega
    obtain ⟨b, hb'⟩ : ∃ b, s[i]? = some b := ⟨_, List.getElem?_eq_getElem hlt⟩
    have e : wAdd .i64 (i : Int) 1 = ((i + 1 : Nat) : Int) := by rw [wAdd_i64] <;> omega
    obtain ⟨m, hm⟩ : ∃ m, s.length - i = m + 1 := ⟨s.length - i - 1, by omega⟩
    rw [hm] at hb
    simp only [blk, hb'] at hb
    have k1 : isBlank b = true → blk s m (i + 1) = blanksTo s i0 := fun h => by rw [if_pos h] at hb; exact hb
    have k2 : isBlank b = false → pfx [45, 45] (s.drop i) = true → Lib.indexByte (s.drop i) 10 < 0 → s.length = blanksTo s i0 := fun h h' h2 => by
      rw [if_neg (by simp [h]), if_pos h', if_pos h2] at hb; exact hb
    have k3 : isBlank b = false → pfx [45, 45] (s.drop i) = true → ¬ Lib.indexByte (s.drop i) 10 < 0 → blk s m (i + (Lib.indexByte (s.drop i) 10).toNat) = blanksTo s i0 := fun h h' h2 => by
      rw [if_neg (by simp [h]), if_pos h', if_neg h2] at hb; exact hb
    have k4 : isBlank b = false → pfx [45, 45] (s.drop i) = false → i = blanksTo s i0 := fun h h' => by
      rw [if_neg (by simp [h]), if_neg (by simp [h'])] at hb; exact hb
    clear hb
    refine go ?_; simp -implicitDefEqProofs only [go_sem, Nat.reduceSub, Nat.reduceAdd, Nat.reduceLeDiff, Nat.reduceEqDiff, Nat.reduceBEq, Nat.reduceLT, ixK_at hb']
    repeat' (first
      | (refine PureCall.step (HasPrefix_pure _ _) ?_; simp -implicitDefEqProofs only [go_sem, Nat.reduceSub, Nat.reduceAdd, Nat.reduceLeDiff, Nat.reduceEqDiff, Nat.reduceBEq, Nat.reduceLT])
      | (refine PureCall.step (IndexByte_nl _) ?_; simp -implicitDefEqProofs only [go_sem, Nat.reduceSub, Nat.reduceAdd, Nat.reduceLeDiff, Nat.reduceEqDiff, Nat.reduceBEq, Nat.reduceLT])
      | (refine wpC_split rfl rfl (fun h => ?_) (fun h => ?_) <;> (try simp -implicitDefEqProofs only [go_sem, Nat.reduceSub, Nat.reduceAdd, Nat.reduceLeDiff, Nat.reduceEqDiff, Nat.reduceBEq, Nat.reduceLT, slSA_lo hi]))
      | (refine plan_split rfl rfl (fun h => ?_) (fun h => ?_) <;> simp -implicitDefEqProofs only [go_sem, Nat.reduceSub, Nat.reduceAdd, Nat.reduceLeDiff, Nat.reduceEqDiff, Nat.reduceBEq, Nat.reduceLT, h])
      | (refine go ?_; try simp -implicitDefEqProofs only [go_sem, Nat.reduceSub, Nat.reduceAdd, Nat.reduceLeDiff, Nat.reduceEqDiff, Nat.reduceBEq, Nat.reduceLT, slSA_lo hi]) | fail)
    · exact ⟨m, by omega, i + 1, by omega, by omega, k1 (by simp_all [isBlank]), by rw [e]⟩
    · exact ⟨m, by omega, i + 1, by omega, by omega, k1 (by simp_all [isBlank]), by rw [e]⟩
    · exact ⟨m, by omega, i + 1, by omega, by omega, k1 (by simp_all [isBlank]), by rw [e]⟩
    · exact ⟨m, by omega, i + 1, by omega, by omega, k1 (by simp_all [isBlank]), by rw [e]⟩
    · rename_i g1 g2 g3 g4 g5
      rw [← k2 (by simp_all [isBlank]) g5 (iLt_true.1 h)]
      exact ⟨rfl, rfl, rfl⟩
    · rename_i g1 g2 g3 g4 g5
      have hp := indexByte_pos g5
      have hge := Lib.indexByte_ge (s.drop i) 10
      have hlt2 := indexByte_lt (s.drop i) 10
      rw [List.length_drop] at hlt2
      have hn := iLt_false.1 h
      have e2 : wAdd .i64 (i : Int) (Lib.indexByte (s.drop i) 10) = ((i + (Lib.indexByte (s.drop i) 10).toNat : Nat) : Int) := by rw [wAdd_i64] <;> omega
      exact ⟨s.length - (i + (Lib.indexByte (s.drop i) 10).toNat), by omega, i + (Lib.indexByte (s.drop i) 10).toNat, by omega, rfl, by rw [← blk_fuel s m _ (by omega)]; exact k3 (by simp_all [isBlank]) g5 (by omega), by rw [e2]⟩
    · rw [← k4 (by simp_all [isBlank]) h]
      exact ⟨rfl, rfl, rfl⟩
  · rw [iLt_false, sLen_eq] at h
    have h1 : i = s.length := by omega
    subst h1
    rw [Nat.sub_self] at hb
    simp only [blk] at hb
    rw [← hb]
    exact ⟨rfl, rfl⟩

end Go.Proofs.YtmpoklkgdcofbaaGreatDoor

/- The bytes of a kind. -/
set_option maxRecDepth 100000
set_option linter.unusedVariables false
set_option linter.unusedSimpArgs false
namespace Go.Proofs.YtmpoklkgdcofbaaGreatDoor
open Go.Eng

/-- How many bytes of a kind stand first. -/
def spanN (p : UInt8 → Bool) : List UInt8 → Nat
  | [] => 0
  | c :: l => if p c = true then spanN p l + 1 else 0
theorem spanN_le (p : UInt8 → Bool) : ∀ l : List UInt8, spanN p l ≤ l.length
  | [] => Nat.le_refl _
  | c :: l => by
    unfold spanN
    split
    · have := spanN_le p l; simp; omega
    · simp
theorem spanN_at {p : UInt8 → Bool} {s : List UInt8} {i : Nat} {b : UInt8} (h : s[i]? = some b) : spanN p (s.drop i) = if p b = true then spanN p (s.drop (i + 1)) + 1 else 0 := by
  have hi := (List.getElem?_eq_some_iff.1 h).1
  rw [List.drop_eq_getElem_cons hi]
  have : s[i] = b := by rw [List.getElem?_eq_getElem hi] at h; exact Option.some.inj h
  rw [this, spanN]

theorem span_spec {O : Cfg} {s : List UInt8} (hs : s.length < 4611686018427387904) {i0 : Nat} (hi0 : i0 ≤ s.length) (at0 : AVal) (id : Nat) (H : Hp) (g : FuncId) (p : UInt8 → Bool) (hg : ∀ c, PureCall O g [.int .u8 (uC c)] (.bool (p c))) :
    ACalls O Tryz.prog f_span [.ref id 0, .int .i64 i0, .func (.func g) [] []] (H.upd id (.cells [.str s, at0])) (fun r H' => r = .ret (.str ((s.take (i0 + spanN p (s.drop i0))).drop i0)) ∧ H' = H.upd id (.cells [.str s, at0])) := by
  refine entry h_span rfl ?_; simp -implicitDefEqProofs only [go_sem, Nat.reduceSub, Nat.reduceAdd, Nat.reduceLeDiff, Nat.reduceEqDiff, Nat.reduceBEq, Nat.reduceLT, c_span]
  refine go ?_; simp -implicitDefEqProofs only [go_sem, Nat.reduceSub, Nat.reduceAdd, Nat.reduceLeDiff, Nat.reduceEqDiff, Nat.reduceBEq, Nat.reduceLT]
  refine go ?_; simp -implicitDefEqProofs only [go_sem, Nat.reduceSub, Nat.reduceAdd, Nat.reduceLeDiff, Nat.reduceEqDiff, Nat.reduceBEq, Nat.reduceLT]
  rw [wpC_loop]
  have hle := spanN_le p (s.drop i0)
  rw [List.length_drop] at hle
  refine AC.loop (fun n st => ∃ i : Nat, i ≤ s.length ∧ n = s.length - i ∧ i + spanN p (s.drop i) = i0 + spanN p (s.drop i0) ∧ st = ⟨mk 35 [(0, .ref id 0), (1, .int .i64 i0), (2, .func (.func g) [] []), (7, .int .i64 i)], H.upd id (.cells [.str s, at0]), []⟩) (s.length - i0) ⟨i0, hi0, rfl, rfl, rfl⟩ ?_
  rintro n _ ⟨i, hi, rfl, hb, rfl⟩
  simp -implicitDefEqProofs only [go_sem, Nat.reduceSub, Nat.reduceAdd, Nat.reduceLeDiff, Nat.reduceEqDiff, Nat.reduceBEq, Nat.reduceLT, l_span_0]
  refine go ?_; simp -implicitDefEqProofs only [go_sem, Nat.reduceSub, Nat.reduceAdd, Nat.reduceLeDiff, Nat.reduceEqDiff, Nat.reduceBEq, Nat.reduceLT]
  have hslice : spanN p (s.drop i) = 0 → slSA s (some (.int .i64 (i0 : Int))) (some (.int .i64 (i : Int))) = some (.str ((s.take (i0 + spanN p (s.drop i0))).drop i0)) := fun h0 => by
    rw [h0, Nat.add_zero] at hb
    rw [← hb]
    exact slSA_both (by omega) hi
  refine plan_split rfl rfl (fun h => ?_) (fun h => ?_) <;> simp -implicitDefEqProofs only [go_sem, Nat.reduceSub, Nat.reduceAdd, Nat.reduceLeDiff, Nat.reduceEqDiff, Nat.reduceBEq, Nat.reduceLT, h]
  · have hlt0 := iLt_true.1 h
    rw [sLen_eq] at hlt0
    have hlt : i < s.length := by omega
    obtain ⟨b, hb'⟩ : ∃ b, s[i]? = some b := ⟨_, List.getElem?_eq_getElem hlt⟩
    have e : wAdd .i64 (i : Int) 1 = ((i + 1 : Nat) : Int) := by rw [wAdd_i64] <;> omega
    have hsp := spanN_at (p := p) hb'
    simp -implicitDefEqProofs only [go_sem, Nat.reduceSub, Nat.reduceAdd, Nat.reduceLeDiff, Nat.reduceEqDiff, Nat.reduceBEq, Nat.reduceLT, ixK_at hb']
    refine PureCall.step (hg _) ?_; simp -implicitDefEqProofs only [go_sem, Nat.reduceSub, Nat.reduceAdd, Nat.reduceLeDiff, Nat.reduceEqDiff, Nat.reduceBEq, Nat.reduceLT]
    refine go ?_
    refine wpC_split rfl rfl (fun h => ?_) (fun h => ?_) <;> simp -implicitDefEqProofs only [go_sem, Nat.reduceSub, Nat.reduceAdd, Nat.reduceLeDiff, Nat.reduceEqDiff, Nat.reduceBEq, Nat.reduceLT]
    · rw [if_pos h] at hsp
      repeat' (first
        | (refine go ?_; try simp -implicitDefEqProofs only [go_sem, Nat.reduceSub, Nat.reduceAdd, Nat.reduceLeDiff, Nat.reduceEqDiff, Nat.reduceBEq, Nat.reduceLT]) | fail)
      exact ⟨s.length - (i + 1), by omega, i + 1, by omega, rfl, by omega, by rw [e]⟩
    · rw [if_neg (by simp [h])] at hsp
      repeat' (first
        | (refine go ?_; try simp -implicitDefEqProofs only [go_sem, Nat.reduceSub, Nat.reduceAdd, Nat.reduceLeDiff, Nat.reduceEqDiff, Nat.reduceBEq, Nat.reduceLT, hslice hsp]) | fail)
  · have hge := iLt_false.1 h
    rw [sLen_eq] at hge
    have hsp : spanN p (s.drop i) = 0 := by
      rw [List.drop_eq_nil_of_le (by omega)]; rfl
    refine go ?_; simp -implicitDefEqProofs only [go_sem, Nat.reduceSub, Nat.reduceAdd, Nat.reduceLeDiff, Nat.reduceEqDiff, Nat.reduceBEq, Nat.reduceLT]
    repeat' (first
      | (refine go ?_; try simp -implicitDefEqProofs only [go_sem, Nat.reduceSub, Nat.reduceAdd, Nat.reduceLeDiff, Nat.reduceEqDiff, Nat.reduceBEq, Nat.reduceLT, hslice hsp]) | fail)

end Go.Proofs.YtmpoklkgdcofbaaGreatDoor

/- A token is made. -/
set_option maxRecDepth 100000
set_option linter.unusedVariables false
set_option linter.unusedSimpArgs false
namespace Go.Proofs.YtmpoklkgdcofbaaGreatDoor
open Go.Eng

def tokV (k : Int) (text : List UInt8) (i : Nat) : AVal := .agg [.int .i64 k, .str text, .int .i64 i]

theorem made_spec {O : Cfg} {s : List UInt8} {i : Nat} (k : Int) (text : List UInt8) {id idb : Nat} {H : Hp} (hb : H idb = some (.cells [.ref id 0])) (hx : H id = some (.cells [.str s, .int .i64 i])) :
    ACalls O Tryz.prog f_made [.int .i64 k, .str text, .ref idb 0] H (fun r H' => r = .ret (.tup [tokV k text i, .bool true]) ∧ H' = H) := by
  refine ACalls.forget ((entry (Q := fun r H' => r = .ret (.tup [tokV k text i, .bool true]) ∧ H.le H') h_made rfl ?_).mono ?_)
  · simp -implicitDefEqProofs only [go_sem, Nat.reduceSub, Nat.reduceAdd, Nat.reduceLeDiff, Nat.reduceEqDiff, Nat.reduceBEq, Nat.reduceLT, c_made]
    intro id3 h3
    have hb3 := fun o => upd_old (o' := o) hb h3
    have hx3 := fun o => upd_old (o' := o) hx h3
    simp -implicitDefEqProofs only [go_sem, Nat.reduceSub, Nat.reduceAdd, Nat.reduceLeDiff, Nat.reduceEqDiff, Nat.reduceBEq, Nat.reduceLT]
    refine go ?_; simp -implicitDefEqProofs only [go_sem, Nat.reduceSub, Nat.reduceAdd, Nat.reduceLeDiff, Nat.reduceEqDiff, Nat.reduceBEq, Nat.reduceLT, hb3, hx3]
    refine go ?_; simp -implicitDefEqProofs only [go_sem, Nat.reduceSub, Nat.reduceAdd, Nat.reduceLeDiff, Nat.reduceEqDiff, Nat.reduceBEq, Nat.reduceLT]
    exact ⟨rfl, le_upd h3⟩
  · rintro r H' ⟨rfl, hl⟩
    exact ⟨_, H, .refl _, hl, rfl, rfl⟩

end Go.Proofs.YtmpoklkgdcofbaaGreatDoor

/- The reference: where a run ends. -/
set_option maxRecDepth 100000
set_option linter.unusedVariables false
set_option linter.unusedSimpArgs false
namespace Go.Proofs.YtmpoklkgdcofbaaGreatDoor
open Go.Eng

end Go.Proofs.YtmpoklkgdcofbaaGreatDoor

/- Lists of tokens compared. -/
set_option maxRecDepth 100000
set_option linter.unusedVariables false
set_option linter.unusedSimpArgs false
namespace Go.Proofs.YtmpoklkgdcofbaaGreatDoor
open Go.Eng

structure Token where
  kind : Int
  text : List UInt8
  pos : Int
  deriving DecidableEq

def tokRow (t : Token) : List AVal := [.int .i64 t.kind, .str t.text, .int .i64 t.pos]
def tokRows (l : List Token) : List (List AVal) := l.map tokRow
end Go.Proofs.YtmpoklkgdcofbaaGreatDoor

/- The reference: numbers. -/
set_option maxRecDepth 100000
set_option linter.unusedVariables false
set_option linter.unusedSimpArgs false
namespace Go.Proofs.YtmpoklkgdcofbaaGreatDoor
open Go.Eng

end Go.Proofs.YtmpoklkgdcofbaaGreatDoor

/- The reference: is a text one of its kind? -/
set_option maxRecDepth 100000
set_option linter.unusedVariables false
set_option linter.unusedSimpArgs false
namespace Go.Proofs.YtmpoklkgdcofbaaGreatDoor
open Go.Eng

end Go.Proofs.YtmpoklkgdcofbaaGreatDoor

/- Numbers: strconv.Atoi and Itoa by the library's contracts. -/
set_option maxRecDepth 100000
set_option linter.unusedVariables false
set_option linter.unusedSimpArgs false
namespace Go.Proofs.YtmpoklkgdcofbaaGreatDoor
open Go.Eng Go.RowKit Go.Sort

/-- What only lays new blocks changes nothing that counts. -/
theorem wr_below {base : Nat} {w0 w w' : World} {H : Hp} {G : Gh} (h : Wr base w0 H G w) (hb : Below w.heap.size w w') : Wr base w0 H G w' ∧ GExt G w G w' ∧ Fr H G w H G w' := by
  have hc : ∀ b, b < w.heap.size → w'.heap[b]? = w.heap[b]? := hb.block
  have x : GExt G w G w' := ⟨hb.size, fun b hb => shape?_of_heap (hc b hb), fun b hb hf => ⟨hf, hc b hb⟩, fun b n hb hf => ⟨fun n' hn' => by rw [hf] at hn'; cases hn'; exact Nat.le_refl _, fun o _ => cell?_of_heap (hc b hb)⟩,
    fun _ _ h => h, fun _ h => h, fun id b m s h => .inr ⟨b, m, s, h, Nat.le_refl _, fun _ => ⟨rfl, rfl⟩⟩⟩
  exact ⟨⟨h.below.trans (hb.mono h.le), Nat.le_trans h.le hb.size, h.old, fun b hb' => h.new b (Nat.le_trans hb.size hb'),
    fun id o' hi => (h.ob id o' hi).mono x rfl fun b hb' => ⟨rfl, (by
      obtain ⟨b', h1, h2, _⟩ := (h.ob id o' hi).lt
      rw [h1] at hb'; cases hb'
      exact hc b h2)⟩, h.apart, h.fresh⟩, x, fun b hb' _ => ⟨hc b hb', rfl⟩, fun _ _ h => h⟩

/-- A library's function that only lays new blocks. -/
theorem lib_pure {O : Cfg} {f : FuncId} {fn : Func} {args : List AVal} {v : AVal} (hf : Tryz.prog.funcs[f]? = some fn) (hn : (fn.name == "runtime.NumGoroutine") = false) (hb : fn.body.isNone = false)
    (h : ∀ base w0 H G w vs, O.L base w0 → Wr base w0 H G w → Reps G w args vs → Calls Tryz.prog f (List.toArray vs) w fun e w' => Below w.heap.size w w' ∧ ∃ u, e = .returned u ∧ (∀ G', Rep G' w' v u)) : PureCall O f args v := fun H =>
  lib_calls hf hn hb fun base w0 G w vs hL hw hvs => (h base w0 H G w vs hL hw hvs).mono fun e w' ⟨hb, u, he, hr⟩ => by
    subst he
    obtain ⟨k1, k2, k3⟩ := wr_below hw hb
    exact ⟨v, H, G, hr G, ⟨rfl, rfl⟩, k1, k2, k3⟩

theorem var_below {base : Nat} {w0 w : World} {name : String} {g : Nat} (hg : Tryz.prog.globalNamed name = some g) (hlt : g < base) (hb : Below base w0 w) : w.var? Tryz.prog name = w0.var? Tryz.prog name := by
  unfold World.var?
  rw [hg]
  simp only [Option.bind_some]
  rw [hb.block g hlt]

/-- How Atoi ends. -/
def atoiV (s : List UInt8) : AVal := match Lib.atoiAll s with
  | .ok v => .tup [.int .i64 v, .nilif]
  | .range => .tup [.int .i64 (Lib.atoiSat s), .iface 300 .unk]
  | _ => .tup [.int .i64 0, .iface 300 .unk]

theorem Atoi_pure (s : List UInt8) (hs : s.length ≤ 281474976710656) : PureCall lexC f_Atoi [.str s] (atoiV s) := by
  refine lib_pure Tryz.func195 (by kernel_rfl) (by kernel_rfl) ?_
  intro base w0 H G w vs hL hw hvs
  obtain ⟨u, rfl, hu⟩ := reps_one hvs
  rw [hu.str_inv]
  obtain ⟨hL1, _, _, ⟨tp, p, hp⟩, tr, r, hr⟩ := hL
  have e1 := (var_below (by kernel_rfl : Tryz.prog.globalNamed "strconv.ErrSyntax" = some 3) (by omega) hw.below).trans hp
  have e2 := (var_below (by kernel_rfl : Tryz.prog.globalNamed "strconv.ErrRange" = some 4) (by omega) hw.below).trans hr
  unfold atoiV
  cases h : Lib.atoiAll s
  · rename_i v
    refine (Tryz.strconv_Atoi_ok ⟨s.toArray⟩ (by simp [ByteArray.size]; omega) v (by simpa using h) w).mono ?_
    rintro e w' ⟨rfl, hw'⟩
    refine ⟨?_, _, rfl, fun G' => .tup' (Reps.cons (.int _ _) (Reps.cons .nilif Reps.nil))⟩
    rcases hw' with rfl | ⟨t, rfl⟩
    · exact Below.refl _ _
    · exact Lib.bytesWorld_below _ _ _
  · refine (Any.strconv_Atoi_syntax_var Tryz.laysC172 ⟨s.toArray⟩ (by simpa [ByteArray.size] using hs) (by simpa using h) tp p w e1).mono ?_
    rintro e w' ⟨N, rfl, _, _, hb⟩
    exact ⟨hb, _, rfl, fun G' => .tup' (Reps.cons (.int _ _) (Reps.cons (.iface (.unk _)) Reps.nil))⟩
  · refine (Tryz.strconv_Atoi_range_var ⟨s.toArray⟩ (by simpa [ByteArray.size] using hs) (by simpa using h) tr r w e2).mono ?_
    rintro e w' ⟨N, rfl, _, _, hb⟩
    exact ⟨hb, _, rfl, fun G' => .tup' (Reps.cons (.int _ _) (Reps.cons (.iface (.unk _)) Reps.nil))⟩

theorem below_grow_drew (w : World) (k : Nat) (os : Array Obj) : Below w.heap.size w (grow (w.drewN k) os) := by
  refine ⟨rfl, rfl, rfl, ?_, fun j hj => ?_⟩
  · show w.heap.size ≤ (w.heap ++ os).size
    rw [Array.size_append]; omega
  · show (w.heap ++ os)[j]? = w.heap[j]?
    rw [Array.getElem?_append_left hj]

theorem Itoa_pure (n : Int) (h0 : -9223372036854775808 ≤ n) (h1 : n ≤ 9223372036854775807) : PureCall lexC f_Itoa [.int .i64 n] (.str (Lib.itoa n)) := by
  refine lib_pure Tryz.func196 (by kernel_rfl) (by kernel_rfl) ?_
  intro base w0 H G w vs hL hw hvs
  obtain ⟨u, rfl, hu⟩ := reps_one hvs
  rw [hu.int_inv]
  have htab := tab_below (by kernel_rfl : Tryz.prog.globalNamed "internal/strconv.uint64pow10" = some 5) (by have := hL.1; omega) hw.below hL.2.2.1
  refine (Tryz.strconv_Itoa n h0 h1 w htab).mono ?_
  rintro e w' ⟨rfl, k, os, rfl⟩
  exact ⟨below_grow_drew _ _ _, _, rfl, fun G' => .str _⟩

end Go.Proofs.YtmpoklkgdcofbaaGreatDoor

/- Numbers: lexis and the reference agree. -/
set_option maxRecDepth 100000
set_option linter.unusedVariables false
set_option linter.unusedSimpArgs false
namespace Go.Proofs.YtmpoklkgdcofbaaGreatDoor
open Go.Eng

theorem ACalls.step {O : Cfg} {f : FuncId} {args : List AVal} {v : AVal} {H H2 : Hp} (h : ACalls O Tryz.prog f args H (fun r H' => r = .ret v ∧ H' = H2)) {ds : List ADef} {R E : Res} (k : R v H2 ds) : ACalls O Tryz.prog f args H (callPost ds R E) :=
  h.mono (by rintro r H' ⟨rfl, rfl⟩; exact k)

def number (s : List UInt8) : Bool := match Lib.atoiAll s with
  | .ok v => iLe 0 v && sEq (Lib.itoa v) s
  | _ => false

theorem number_pure (s : List UInt8) (hs : s.length ≤ 281474976710656) : PureCall lexC f_number [.str s] (.bool (number s)) := fun H => by
  refine entry h_number rfl ?_; simp -implicitDefEqProofs only [go_sem, Nat.reduceSub, Nat.reduceAdd, Nat.reduceLeDiff, Nat.reduceEqDiff, Nat.reduceBEq, Nat.reduceLT, c_number]
  refine go ?_; simp -implicitDefEqProofs only [go_sem, Nat.reduceSub, Nat.reduceAdd, Nat.reduceLeDiff, Nat.reduceEqDiff, Nat.reduceBEq, Nat.reduceLT]
  refine PureCall.step (Atoi_pure _ hs) ?_
  unfold atoiV number
  cases hA : Lib.atoiAll s
  · obtain ⟨h0, h1⟩ := Lib.atoiAll_bounds hA
    simp -implicitDefEqProofs only [go_sem, Nat.reduceSub, Nat.reduceAdd, Nat.reduceLeDiff, Nat.reduceEqDiff, Nat.reduceBEq, Nat.reduceLT]
    repeat' (first | ((with_reducible refine PureCall.step (Itoa_pure _ h0 h1) ?_); simp -implicitDefEqProofs only [go_sem, Nat.reduceSub, Nat.reduceAdd, Nat.reduceLeDiff, Nat.reduceEqDiff, Nat.reduceBEq, Nat.reduceLT]) | (refine wpC_split rfl rfl (fun h => ?_) (fun h => ?_) <;> (try simp -implicitDefEqProofs only [go_sem, Nat.reduceSub, Nat.reduceAdd, Nat.reduceLeDiff, Nat.reduceEqDiff, Nat.reduceBEq, Nat.reduceLT, h])) | (refine plan_split rfl rfl (fun h => ?_) (fun h => ?_) <;> simp -implicitDefEqProofs only [go_sem, Nat.reduceSub, Nat.reduceAdd, Nat.reduceLeDiff, Nat.reduceEqDiff, Nat.reduceBEq, Nat.reduceLT, h]) | (refine planD_split rfl rfl (fun h => ?_) (fun h => ?_) <;> simp -implicitDefEqProofs only [go_sem, Nat.reduceSub, Nat.reduceAdd, Nat.reduceLeDiff, Nat.reduceEqDiff, Nat.reduceBEq, Nat.reduceLT, h]) | (refine go ?_; try simp -implicitDefEqProofs only [go_sem, Nat.reduceSub, Nat.reduceAdd, Nat.reduceLeDiff, Nat.reduceEqDiff, Nat.reduceBEq, Nat.reduceLT]) | ((with_reducible refine wpC_id ?_); simp -implicitDefEqProofs only [go_sem, Nat.reduceSub, Nat.reduceAdd, Nat.reduceLeDiff, Nat.reduceEqDiff, Nat.reduceBEq, Nat.reduceLT]) | ((with_reducible first | refine quiet_id ?_ | refine wrote_id ?_ | refine resQ_id ?_); simp -implicitDefEqProofs only [go_sem, Nat.reduceSub, Nat.reduceAdd, Nat.reduceLeDiff, Nat.reduceEqDiff, Nat.reduceBEq, Nat.reduceLT]) | fail)
    all_goals simp_all
  · simp -implicitDefEqProofs only [go_sem, Nat.reduceSub, Nat.reduceAdd, Nat.reduceLeDiff, Nat.reduceEqDiff, Nat.reduceBEq, Nat.reduceLT]
    repeat' (first | (refine wpC_split rfl rfl (fun h => ?_) (fun h => ?_) <;> (try simp -implicitDefEqProofs only [go_sem, Nat.reduceSub, Nat.reduceAdd, Nat.reduceLeDiff, Nat.reduceEqDiff, Nat.reduceBEq, Nat.reduceLT, h])) | (refine plan_split rfl rfl (fun h => ?_) (fun h => ?_) <;> simp -implicitDefEqProofs only [go_sem, Nat.reduceSub, Nat.reduceAdd, Nat.reduceLeDiff, Nat.reduceEqDiff, Nat.reduceBEq, Nat.reduceLT, h]) | (refine planD_split rfl rfl (fun h => ?_) (fun h => ?_) <;> simp -implicitDefEqProofs only [go_sem, Nat.reduceSub, Nat.reduceAdd, Nat.reduceLeDiff, Nat.reduceEqDiff, Nat.reduceBEq, Nat.reduceLT, h]) | (refine go ?_; try simp -implicitDefEqProofs only [go_sem, Nat.reduceSub, Nat.reduceAdd, Nat.reduceLeDiff, Nat.reduceEqDiff, Nat.reduceBEq, Nat.reduceLT]) | ((with_reducible refine wpC_id ?_); simp -implicitDefEqProofs only [go_sem, Nat.reduceSub, Nat.reduceAdd, Nat.reduceLeDiff, Nat.reduceEqDiff, Nat.reduceBEq, Nat.reduceLT]) | ((with_reducible first | refine quiet_id ?_ | refine wrote_id ?_ | refine resQ_id ?_); simp -implicitDefEqProofs only [go_sem, Nat.reduceSub, Nat.reduceAdd, Nat.reduceLeDiff, Nat.reduceEqDiff, Nat.reduceBEq, Nat.reduceLT]) | fail)
  · simp -implicitDefEqProofs only [go_sem, Nat.reduceSub, Nat.reduceAdd, Nat.reduceLeDiff, Nat.reduceEqDiff, Nat.reduceBEq, Nat.reduceLT]
    repeat' (first | (refine wpC_split rfl rfl (fun h => ?_) (fun h => ?_) <;> (try simp -implicitDefEqProofs only [go_sem, Nat.reduceSub, Nat.reduceAdd, Nat.reduceLeDiff, Nat.reduceEqDiff, Nat.reduceBEq, Nat.reduceLT, h])) | (refine plan_split rfl rfl (fun h => ?_) (fun h => ?_) <;> simp -implicitDefEqProofs only [go_sem, Nat.reduceSub, Nat.reduceAdd, Nat.reduceLeDiff, Nat.reduceEqDiff, Nat.reduceBEq, Nat.reduceLT, h]) | (refine planD_split rfl rfl (fun h => ?_) (fun h => ?_) <;> simp -implicitDefEqProofs only [go_sem, Nat.reduceSub, Nat.reduceAdd, Nat.reduceLeDiff, Nat.reduceEqDiff, Nat.reduceBEq, Nat.reduceLT, h]) | (refine go ?_; try simp -implicitDefEqProofs only [go_sem, Nat.reduceSub, Nat.reduceAdd, Nat.reduceLeDiff, Nat.reduceEqDiff, Nat.reduceBEq, Nat.reduceLT]) | ((with_reducible refine wpC_id ?_); simp -implicitDefEqProofs only [go_sem, Nat.reduceSub, Nat.reduceAdd, Nat.reduceLeDiff, Nat.reduceEqDiff, Nat.reduceBEq, Nat.reduceLT]) | ((with_reducible first | refine quiet_id ?_ | refine wrote_id ?_ | refine resQ_id ?_); simp -implicitDefEqProofs only [go_sem, Nat.reduceSub, Nat.reduceAdd, Nat.reduceLeDiff, Nat.reduceEqDiff, Nat.reduceBEq, Nat.reduceLT]) | fail)

/-! ### Numerals -/
def val (l : List UInt8) : Nat := l.foldl (fun a c => a * 10 + (c.toNat - 48)) 0
end Go.Proofs.YtmpoklkgdcofbaaGreatDoor

/- One token. -/
set_option maxRecDepth 100000
set_option linter.unusedVariables false
set_option linter.unusedSimpArgs false
namespace Go.Proofs.YtmpoklkgdcofbaaGreatDoor
open Go.Eng

def signs : List UInt8 := [40, 41, 123, 125, 44, 59]
def spanS (p : UInt8 → Bool) (s : List UInt8) (i : Nat) : List UInt8 := (s.take (i + spanN p (s.drop i))).drop i

/-- The token at a place where a byte c stands. -/
def tokAt (s : List UInt8) (i : Nat) (c : UInt8) : Option (Int × List UInt8) :=
  if iLe 0 (Lib.indexByte signs c) then some (5, [c])
  else if iEq (uC c) 95 && !inName (s.getD (i + 1) 0) then some (5, [95])
  else if iEq (uC c) 39 && capital (s.getD (i + 1) 0) then some (5, [39])
  else if inName c then
    (if isWord (spanS inName s i) then some (6, spanS inName s i) else if IsSmall (spanS inName s i) then some (1, spanS inName s i) else if IsCapital (spanS inName s i) then some (2, spanS inName s i)
      else if digit c && number (spanS inName s i) then some (4, spanS inName s i) else none)
  else if inOp c then (if reserved (spanS inOp s i) then some (5, spanS inOp s i) else if isOp (spanS inOp s i) then some (3, spanS inOp s i) else none)
  else none

def tokRes (i : Nat) : Option (Int × List UInt8) → AVal
  | some t => .tup [tokV t.1 t.2 i, .bool true]
  | none => .tup [tokV 0 [] 0, .bool false]

theorem span_spec' {O : Cfg} {s : List UInt8} (hs : s.length < 4611686018427387904) {i0 : Nat} (hi0 : i0 ≤ s.length) {at0 : AVal} {id : Nat} {H : Hp} (hx : H id = some (.cells [.str s, at0])) (g : FuncId) (p : UInt8 → Bool) (hg : ∀ c, PureCall O g [.int .u8 (uC c)] (.bool (p c))) :
    ACalls O Tryz.prog f_span [.ref id 0, .int .i64 i0, .func (.func g) [] []] H (fun r H' => r = .ret (.str (spanS p s i0)) ∧ H' = H) := by
  have := span_spec hs hi0 at0 id H g p hg
  rw [Hp.upd_id H hx] at this
  exact this

theorem take_one {s : List UInt8} {i : Nat} {c : UInt8} (h : s[i]? = some c) : (s.take (i + 1)).drop i = [c] := by
  rw [List.take_add_one, h, List.drop_append, List.drop_eq_nil_of_le (by simp; omega)]
  have hi := (List.getElem?_eq_some_iff.1 h).1
  simp [Nat.min_eq_left (Nat.le_of_lt hi)]

set_option maxHeartbeats 4000000 in
theorem token_spec {s : List UInt8} (hs : s.length ≤ 281474976710656) {i : Nat} {c : UInt8} (hc : s[i]? = some c) {id : Nat} {H : Hp} (hx : H id = some (.cells [.str s, .int .i64 i])) :
    ACalls lexC Tryz.prog f_token [.ref id 0] H (fun r H' => r = .ret (tokRes i (tokAt s i c)) ∧ H' = H) := by
  have hi := (List.getElem?_eq_some_iff.1 hc).1
  have e : wAdd .i64 (i : Int) 1 = ((i + 1 : Nat) : Int) := by rw [wAdd_i64] <;> omega
  refine ACalls.forget ((entry (Q := fun r H' => r = .ret (tokRes i (tokAt s i c)) ∧ H.le H') h_token rfl ?_).mono ?_)
  · simp -implicitDefEqProofs only [go_sem, Nat.reduceSub, Nat.reduceAdd, Nat.reduceLeDiff, Nat.reduceEqDiff, Nat.reduceBEq, Nat.reduceLT, c_token]
    refine ⟨rfl, fun idb h2 => ?_⟩
    simp -implicitDefEqProofs only [go_sem, Nat.reduceSub, Nat.reduceAdd, Nat.reduceLeDiff, Nat.reduceEqDiff, Nat.reduceBEq, Nat.reduceLT]
    intro id3 h3
    have hx2 : (H.upd idb (.cells [.ref id 0])) id = some (.cells [.str s, .int .i64 i]) := upd_old hx h2
    have hb2 : (H.upd idb (.cells [.ref id 0])) idb = some (.cells [.ref id 0]) := Hp.upd_same _ _ _
    have hl2 : H.le (H.upd idb (.cells [.ref id 0])) := le_upd h2
    generalize H.upd idb (.cells [.ref id 0]) = K at *
    have hx3 := fun o => upd_old (o' := o) hx2 h3
    have hb3 := fun o => upd_old (o' := o) hb2 h3
    have hl3 : ∀ o, H.le (K.upd id3 o) := fun o j ob hj => le_upd h3 j ob (hl2 j ob hj)
    simp -implicitDefEqProofs only [go_sem, Nat.reduceSub, Nat.reduceAdd, Nat.reduceLeDiff, Nat.reduceEqDiff, Nat.reduceBEq, Nat.reduceLT]
    refine go ?_; simp -implicitDefEqProofs only [go_sem, Nat.reduceSub, Nat.reduceAdd, Nat.reduceLeDiff, Nat.reduceEqDiff, Nat.reduceBEq, Nat.reduceLT, hx3, hb3, ixK_at hc]
    refine go ?_; simp -implicitDefEqProofs only [go_sem, Nat.reduceSub, Nat.reduceAdd, Nat.reduceLeDiff, Nat.reduceEqDiff, Nat.reduceBEq, Nat.reduceLT]
    refine go ?_; simp -implicitDefEqProofs only [go_sem, Nat.reduceSub, Nat.reduceAdd, Nat.reduceLeDiff, Nat.reduceEqDiff, Nat.reduceBEq, Nat.reduceLT]
    refine AC.cut (fun st => st = ⟨mk 157 [(1, .ref idb 0), (2, .ref id3 0), (4, .int .u8 (uC c)), (5, .func (.func 109) [] [.ref idb 0]), (6, .int .u8 (uC (s.getD (i + 1) 0)))], K.upd id3 (.cells [.int .i64 0, .str [], .int .i64 0]), []⟩) ?_ ?_
    · refine go ?_; simp -implicitDefEqProofs only [go_sem, Nat.reduceSub, Nat.reduceAdd, Nat.reduceLeDiff, Nat.reduceEqDiff, Nat.reduceBEq, Nat.reduceLT, hx3, hb3, e]
      refine go ?_
      refine wpC_split rfl rfl (fun h => ?_) (fun h => ?_) <;> simp -implicitDefEqProofs only [go_sem, Nat.reduceSub, Nat.reduceAdd, Nat.reduceLeDiff, Nat.reduceEqDiff, Nat.reduceBEq, Nat.reduceLT]
      · have hlt := iLt_true.1 h
        rw [sLen_eq] at hlt
        obtain ⟨b, hb⟩ : ∃ b, s[i + 1]? = some b := ⟨_, List.getElem?_eq_getElem (by omega)⟩
        simp -implicitDefEqProofs only [go_sem, Nat.reduceSub, Nat.reduceAdd, Nat.reduceLeDiff, Nat.reduceEqDiff, Nat.reduceBEq, Nat.reduceLT, hx3, hb3, e, ixK_at hb]
        rw [List.getD_eq_getElem?_getD, hb]; rfl
      · have hge := iLt_false.1 h
        rw [sLen_eq] at hge
        rw [List.getD_eq_getElem?_getD, List.getElem?_eq_none (by omega)]; rfl
    · rintro _ rfl
      have sl1 : slSA s (some (.int .i64 (i : Int))) (some (.int .i64 ((i + 1 : Nat) : Int))) = some (.str [c]) := by
        rw [slSA_both (by omega) hi, take_one hc]
      have hn : s.length < 4611686018427387904 := by omega
      have hsp : ∀ p, (spanS p s i).length ≤ 281474976710656 := fun p => by
        unfold spanS; rw [List.length_drop, List.length_take]; omega
      have hm := fun (k : Int) text o => made_spec (O := lexC) k text (hb3 o) (hx3 o)
      have h1 := fun o => span_spec' (O := lexC) hn (Nat.le_of_lt hi) (hx3 o) f_isNameByte inName isNameByte_pure
      have h2 := fun o => span_spec' (O := lexC) hn (Nat.le_of_lt hi) (hx3 o) f_isOpByte inOp isOpByte_pure
      repeat' (first | ((with_reducible refine PureCall.step (IndexByte_pure _ _) ?_); simp -implicitDefEqProofs only [go_sem, Nat.reduceSub, Nat.reduceAdd, Nat.reduceLeDiff, Nat.reduceEqDiff, Nat.reduceBEq, Nat.reduceLT, hx3, hb3, e, sl1, tokV]) | ((with_reducible refine PureCall.step (isNameByte_pure _) ?_); simp -implicitDefEqProofs only [go_sem, Nat.reduceSub, Nat.reduceAdd, Nat.reduceLeDiff, Nat.reduceEqDiff, Nat.reduceBEq, Nat.reduceLT, hx3, hb3, e, sl1, tokV]) | ((with_reducible refine PureCall.step (isCapital_pure _) ?_); simp -implicitDefEqProofs only [go_sem, Nat.reduceSub, Nat.reduceAdd, Nat.reduceLeDiff, Nat.reduceEqDiff, Nat.reduceBEq, Nat.reduceLT, hx3, hb3, e, sl1, tokV]) | ((with_reducible refine PureCall.step (isWord_pure _) ?_); simp -implicitDefEqProofs only [go_sem, Nat.reduceSub, Nat.reduceAdd, Nat.reduceLeDiff, Nat.reduceEqDiff, Nat.reduceBEq, Nat.reduceLT, hx3, hb3, e, sl1, tokV]) | ((with_reducible refine PureCall.step (IsSmall_pure _) ?_); simp -implicitDefEqProofs only [go_sem, Nat.reduceSub, Nat.reduceAdd, Nat.reduceLeDiff, Nat.reduceEqDiff, Nat.reduceBEq, Nat.reduceLT, hx3, hb3, e, sl1, tokV]) | ((with_reducible refine PureCall.step (IsCapital_pure _) ?_); simp -implicitDefEqProofs only [go_sem, Nat.reduceSub, Nat.reduceAdd, Nat.reduceLeDiff, Nat.reduceEqDiff, Nat.reduceBEq, Nat.reduceLT, hx3, hb3, e, sl1, tokV]) | ((with_reducible refine PureCall.step (isDigit_pure _) ?_); simp -implicitDefEqProofs only [go_sem, Nat.reduceSub, Nat.reduceAdd, Nat.reduceLeDiff, Nat.reduceEqDiff, Nat.reduceBEq, Nat.reduceLT, hx3, hb3, e, sl1, tokV]) | ((with_reducible refine PureCall.step (number_pure _ (hsp _)) ?_); simp -implicitDefEqProofs only [go_sem, Nat.reduceSub, Nat.reduceAdd, Nat.reduceLeDiff, Nat.reduceEqDiff, Nat.reduceBEq, Nat.reduceLT, hx3, hb3, e, sl1, tokV]) | ((with_reducible refine PureCall.step (isOpByte_pure _) ?_); simp -implicitDefEqProofs only [go_sem, Nat.reduceSub, Nat.reduceAdd, Nat.reduceLeDiff, Nat.reduceEqDiff, Nat.reduceBEq, Nat.reduceLT, hx3, hb3, e, sl1, tokV]) | ((with_reducible refine PureCall.step (reserved_pure _) ?_); simp -implicitDefEqProofs only [go_sem, Nat.reduceSub, Nat.reduceAdd, Nat.reduceLeDiff, Nat.reduceEqDiff, Nat.reduceBEq, Nat.reduceLT, hx3, hb3, e, sl1, tokV]) | ((with_reducible refine PureCall.step (IsOp_pure _) ?_); simp -implicitDefEqProofs only [go_sem, Nat.reduceSub, Nat.reduceAdd, Nat.reduceLeDiff, Nat.reduceEqDiff, Nat.reduceBEq, Nat.reduceLT, hx3, hb3, e, sl1, tokV]) | ((with_reducible refine ACalls.step (hm 5 _ _) ?_); simp -implicitDefEqProofs only [go_sem, Nat.reduceSub, Nat.reduceAdd, Nat.reduceLeDiff, Nat.reduceEqDiff, Nat.reduceBEq, Nat.reduceLT, hx3, hb3, e, sl1, tokV]) | ((with_reducible refine ACalls.step (hm 6 _ _) ?_); simp -implicitDefEqProofs only [go_sem, Nat.reduceSub, Nat.reduceAdd, Nat.reduceLeDiff, Nat.reduceEqDiff, Nat.reduceBEq, Nat.reduceLT, hx3, hb3, e, sl1, tokV]) | ((with_reducible refine ACalls.step (hm 1 _ _) ?_); simp -implicitDefEqProofs only [go_sem, Nat.reduceSub, Nat.reduceAdd, Nat.reduceLeDiff, Nat.reduceEqDiff, Nat.reduceBEq, Nat.reduceLT, hx3, hb3, e, sl1, tokV]) | ((with_reducible refine ACalls.step (hm 2 _ _) ?_); simp -implicitDefEqProofs only [go_sem, Nat.reduceSub, Nat.reduceAdd, Nat.reduceLeDiff, Nat.reduceEqDiff, Nat.reduceBEq, Nat.reduceLT, hx3, hb3, e, sl1, tokV]) | ((with_reducible refine ACalls.step (hm 4 _ _) ?_); simp -implicitDefEqProofs only [go_sem, Nat.reduceSub, Nat.reduceAdd, Nat.reduceLeDiff, Nat.reduceEqDiff, Nat.reduceBEq, Nat.reduceLT, hx3, hb3, e, sl1, tokV]) | ((with_reducible refine ACalls.step (hm 3 _ _) ?_); simp -implicitDefEqProofs only [go_sem, Nat.reduceSub, Nat.reduceAdd, Nat.reduceLeDiff, Nat.reduceEqDiff, Nat.reduceBEq, Nat.reduceLT, hx3, hb3, e, sl1, tokV]) | ((with_reducible refine ACalls.step (h1 _) ?_); simp -implicitDefEqProofs only [go_sem, Nat.reduceSub, Nat.reduceAdd, Nat.reduceLeDiff, Nat.reduceEqDiff, Nat.reduceBEq, Nat.reduceLT, hx3, hb3, e, sl1, tokV]) | ((with_reducible refine ACalls.step (h2 _) ?_); simp -implicitDefEqProofs only [go_sem, Nat.reduceSub, Nat.reduceAdd, Nat.reduceLeDiff, Nat.reduceEqDiff, Nat.reduceBEq, Nat.reduceLT, hx3, hb3, e, sl1, tokV]) | (refine wpC_split rfl rfl (fun h => ?_) (fun h => ?_) <;> (try simp -implicitDefEqProofs only [go_sem, Nat.reduceSub, Nat.reduceAdd, Nat.reduceLeDiff, Nat.reduceEqDiff, Nat.reduceBEq, Nat.reduceLT, h, hx3, hb3, e, sl1, tokV])) | (refine plan_split rfl rfl (fun h => ?_) (fun h => ?_) <;> simp -implicitDefEqProofs only [go_sem, Nat.reduceSub, Nat.reduceAdd, Nat.reduceLeDiff, Nat.reduceEqDiff, Nat.reduceBEq, Nat.reduceLT, h, hx3, hb3, e, sl1, tokV]) | (refine planD_split rfl rfl (fun h => ?_) (fun h => ?_) <;> simp -implicitDefEqProofs only [go_sem, Nat.reduceSub, Nat.reduceAdd, Nat.reduceLeDiff, Nat.reduceEqDiff, Nat.reduceBEq, Nat.reduceLT, h, hx3, hb3, e, sl1, tokV]) | (refine go ?_; try simp -implicitDefEqProofs only [go_sem, Nat.reduceSub, Nat.reduceAdd, Nat.reduceLeDiff, Nat.reduceEqDiff, Nat.reduceBEq, Nat.reduceLT, hx3, hb3, e, sl1, tokV]) | ((with_reducible refine wpC_id ?_); simp -implicitDefEqProofs only [go_sem, Nat.reduceSub, Nat.reduceAdd, Nat.reduceLeDiff, Nat.reduceEqDiff, Nat.reduceBEq, Nat.reduceLT, hx3, hb3, e, sl1, tokV]) | ((with_reducible first | refine quiet_id ?_ | refine wrote_id ?_ | refine resQ_id ?_); simp -implicitDefEqProofs only [go_sem, Nat.reduceSub, Nat.reduceAdd, Nat.reduceLeDiff, Nat.reduceEqDiff, Nat.reduceBEq, Nat.reduceLT, hx3, hb3, e, sl1, tokV]) | fail)
      all_goals clear hm h1 h2 sl1 e hsp hx3 hb3
      all_goals exact ⟨by simp_all [tokAt, tokRes, tokV, spanS, signs, bNot_true, bNot_false], hl3 _⟩
  · rintro r H' ⟨rfl, hl⟩
    exact ⟨_, H, .refl _, hl, rfl, rfl⟩

end Go.Proofs.YtmpoklkgdcofbaaGreatDoor

/- All tokens. -/
set_option maxRecDepth 100000
set_option linter.unusedVariables false
set_option linter.unusedSimpArgs false
namespace Go.Proofs.YtmpoklkgdcofbaaGreatDoor
open Go.Eng

/-! ### The plain text -/
def consE (t : Token) : Except Nat (List Token) → Except Nat (List Token)
  | .ok l => .ok (t :: l)
  | .error e => .error e
def lexF (s : List UInt8) : Nat → Nat → Except Nat (List Token)
  | 0, i => .error i
  | f + 1, i => match s[blanksTo s i]? with
    | none => .ok [⟨7, [], s.length⟩]
    | some c => match tokAt s (blanksTo s i) c with
      | none => .error (blanksTo s i)
      | some t => consE ⟨t.1, t.2, blanksTo s i⟩ (lexF s f (blanksTo s i + t.2.length))
def lexE (s : List UInt8) : Except Nat (List Token) := lexF s (s.length + 1) 0
def lexRes : Except Nat (List Token) → List Token × Nat × Int
  | .ok l => (l, 0, 0)
  | .error e => ([], e, 4)
/-- The tokens, the position, the error. -/
def lexP (s : List UInt8) : List Token × Nat × Int := if 12000 < s.length then ([], 0, 5) else lexRes (lexE s)

theorem blk_le (s : List UInt8) : ∀ (f i : Nat), i ≤ s.length → i ≤ blk s f i ∧ blk s f i ≤ s.length
  | 0, i, h => ⟨Nat.le_refl _, h⟩
  | f + 1, i, h => by
    unfold blk
    cases hs : s[i]? with
    | none => exact ⟨Nat.le_refl _, h⟩
    | some c =>
      have hi := (List.getElem?_eq_some_iff.1 hs).1
      simp only
      split
      · have := blk_le s f (i + 1) (by omega); omega
      · split
        · split
          · omega
          · rename_i h1 h2
            have h3 := indexByte_lt (s.drop i) 10
            rw [List.length_drop] at h3
            have := blk_le s f (i + (Lib.indexByte (s.drop i) 10).toNat) (by omega)
            omega
        · exact ⟨Nat.le_refl _, h⟩
theorem blanksTo_le {s : List UInt8} {i : Nat} (h : i ≤ s.length) : i ≤ blanksTo s i ∧ blanksTo s i ≤ s.length := blk_le s _ i h

theorem spanS_len {p : UInt8 → Bool} {s : List UInt8} {i : Nat} (hi : i ≤ s.length) : (spanS p s i).length = spanN p (s.drop i) ∧ i + spanN p (s.drop i) ≤ s.length := by
  have h := spanN_le p (s.drop i)
  rw [List.length_drop] at h
  unfold spanS
  rw [List.length_drop, List.length_take]
  omega
theorem spanS_pos {p : UInt8 → Bool} {s : List UInt8} {i : Nat} {c : UInt8} (hc : s[i]? = some c) (hp : p c = true) : 1 ≤ (spanS p s i).length ∧ i + (spanS p s i).length ≤ s.length := by
  have hi := (List.getElem?_eq_some_iff.1 hc).1
  obtain ⟨h1, h2⟩ := spanS_len (p := p) (Nat.le_of_lt hi)
  have h3 := spanN_at (p := p) hc
  rw [if_pos hp] at h3
  omega
theorem tokAt_len {s : List UInt8} {i : Nat} {c : UInt8} (hc : s[i]? = some c) {t : Int × List UInt8} (h : tokAt s i c = some t) : 1 ≤ t.2.length ∧ i + t.2.length ≤ s.length := by
  have hi := (List.getElem?_eq_some_iff.1 hc).1
  have h1 := fun (hp : inName c = true) => spanS_pos hc hp
  have h2 := fun (hp : inOp c = true) => spanS_pos hc hp
  unfold tokAt at h
  generalize spanS inName s i = a at *
  generalize spanS inOp s i = b at *
  repeat' split at h
  all_goals first
    | (cases h; done)
    | (cases h; exact ⟨Nat.le_refl _, hi⟩)
    | (cases h; exact h1 (by assumption))
    | (cases h; exact h2 (by assumption))
theorem lexF_fuel (s : List UInt8) : ∀ (f i : Nat), i ≤ s.length → s.length - i + 1 ≤ f → lexF s f i = lexF s (s.length - i + 1) i := by
  intro f
  induction f using Nat.strongRecOn with
  | _ f ih =>
    intro i hi h
    cases f with
    | zero => omega
    | succ f =>
      obtain ⟨b1, b2⟩ := blanksTo_le hi
      simp only [lexF]
      cases hs : s[blanksTo s i]? with
      | none => rfl
      | some c =>
        simp only
        cases ht : tokAt s (blanksTo s i) c with
        | none => rfl
        | some t =>
          simp only
          obtain ⟨h1, h2⟩ := tokAt_len hs ht
          rw [ih f (by omega) _ h2 (by omega)]
          rcases Nat.lt_or_ge (s.length - i) (f + 1) with h3 | h3
          · rcases Nat.lt_or_ge f (s.length - i + 1) with h4 | h4
            · rw [show s.length - i = f by omega, ih f (by omega) _ h2 (by omega)]
            · rw [ih (s.length - i) (by omega) _ h2 (by omega)]
          · omega

def appE (acc : List Token) : Except Nat (List Token) → Except Nat (List Token)
  | .ok l => .ok (acc ++ l)
  | .error e => .error e

theorem blanks_spec' {O : Cfg} {s : List UInt8} (hs : s.length < 4611686018427387904) {i0 : Nat} (hi0 : i0 ≤ s.length) {id : Nat} {H : Hp} (hx : H id = some (.cells [.str s, .int .i64 i0])) :
    ACalls O Tryz.prog f_blanks [.ref id 0] H (fun r H' => r = .ret (.tup []) ∧ H' = H.upd id (.cells [.str s, .int .i64 (blanksTo s i0)])) := by
  have := blanks_spec (O := O) hs hi0 id H
  rw [Hp.upd_id H hx] at this
  exact this

theorem wk_tup1 {a b : AVal} {l : List AVal} (h : Wk a b) : Wk (.tup (a :: l)) (.tup (b :: l)) := by
  refine .tup rfl fun i x y hx hy => ?_
  cases i with
  | zero => simp only [List.getElem?_cons_zero, Option.some.injEq] at hx hy; subst hx; subst hy; exact h
  | succ i => simp only [List.getElem?_cons_succ] at hx hy; rw [hx] at hy; cases hy; exact .refl _

theorem tokRows_len (l : List Token) : (tokRows l).length = l.length := by simp [tokRows]
theorem tokRows_sz (l : List Token) : ∀ r ∈ tokRows l, r.length = 3 := fun r hr => by
  obtain ⟨x, _, rfl⟩ := List.mem_map.1 hr; rfl
theorem tokRows_app (l : List Token) (t : Token) : tokRows l ++ [[.int .i64 t.kind, .str t.text, .int .i64 t.pos]] = tokRows (l ++ [t]) := by simp [tokRows, tokRow]
theorem iEq_nat {a b : Nat} : iEq (a : Int) (b : Int) = true ↔ a = b := by rw [iEq_true]; omega

theorem Tokens_pure (s : List UInt8) : PureCall lexC f_Tokens [.str s] (.tup [.sl (tokRows (lexP s).1) .no, .int .i64 (lexP s).2.1, .int .i64 (lexP s).2.2]) := by
  refine entryF h_Tokens rfl fun H => ?_; simp -implicitDefEqProofs only [go_sem, Nat.reduceSub, Nat.reduceAdd, Nat.reduceLeDiff, Nat.reduceEqDiff, Nat.reduceBEq, Nat.reduceLT, c_Tokens]
  refine go ?_; simp -implicitDefEqProofs only [go_sem, Nat.reduceSub, Nat.reduceAdd, Nat.reduceLeDiff, Nat.reduceEqDiff, Nat.reduceBEq, Nat.reduceLT]
  refine go ?_
  refine wpC_split rfl rfl (fun h => ?_) (fun h => ?_) <;> simp -implicitDefEqProofs only [go_sem, Nat.reduceSub, Nat.reduceAdd, Nat.reduceLeDiff, Nat.reduceEqDiff, Nat.reduceBEq, Nat.reduceLT]
  · have h1 := iLt_true.1 h
    rw [sLen_eq] at h1
    have e : lexP s = ([], 0, 5) := by rw [lexP, if_pos (by omega)]
    repeat' (first | (refine wpC_split rfl rfl (fun h => ?_) (fun h => ?_) <;> (try simp -implicitDefEqProofs only [go_sem, Nat.reduceSub, Nat.reduceAdd, Nat.reduceLeDiff, Nat.reduceEqDiff, Nat.reduceBEq, Nat.reduceLT, h])) | (refine plan_split rfl rfl (fun h => ?_) (fun h => ?_) <;> simp -implicitDefEqProofs only [go_sem, Nat.reduceSub, Nat.reduceAdd, Nat.reduceLeDiff, Nat.reduceEqDiff, Nat.reduceBEq, Nat.reduceLT, h]) | (refine planD_split rfl rfl (fun h => ?_) (fun h => ?_) <;> simp -implicitDefEqProofs only [go_sem, Nat.reduceSub, Nat.reduceAdd, Nat.reduceLeDiff, Nat.reduceEqDiff, Nat.reduceBEq, Nat.reduceLT, h]) | (refine go ?_; try simp -implicitDefEqProofs only [go_sem, Nat.reduceSub, Nat.reduceAdd, Nat.reduceLeDiff, Nat.reduceEqDiff, Nat.reduceBEq, Nat.reduceLT]) | ((with_reducible refine wpC_id ?_); simp -implicitDefEqProofs only [go_sem, Nat.reduceSub, Nat.reduceAdd, Nat.reduceLeDiff, Nat.reduceEqDiff, Nat.reduceBEq, Nat.reduceLT]) | ((with_reducible first | refine quiet_id ?_ | refine wrote_id ?_ | refine resQ_id ?_); simp -implicitDefEqProofs only [go_sem, Nat.reduceSub, Nat.reduceAdd, Nat.reduceLeDiff, Nat.reduceEqDiff, Nat.reduceBEq, Nat.reduceLT]) | fail)
    rw [e]
    exact ⟨_, rfl, wk_tup1 (.sl _ _), fun _ _ h => h⟩
  · have h1 := iLt_false.1 h
    rw [sLen_eq] at h1
    have hs : s.length ≤ 12000 := by omega
    have eP : lexP s = lexRes (lexE s) := by rw [lexP, if_neg (by omega)]
    refine go ?_; simp -implicitDefEqProofs only [go_sem, Nat.reduceSub, Nat.reduceAdd, Nat.reduceLeDiff, Nat.reduceEqDiff, Nat.reduceBEq, Nat.reduceLT]
    refine ⟨rfl, fun idx hidx => ?_⟩; simp -implicitDefEqProofs only [go_sem, Nat.reduceSub, Nat.reduceAdd, Nat.reduceLeDiff, Nat.reduceEqDiff, Nat.reduceBEq, Nat.reduceLT]
    refine go ?_; simp -implicitDefEqProofs only [go_sem, Nat.reduceSub, Nat.reduceAdd, Nat.reduceLeDiff, Nat.reduceEqDiff, Nat.reduceBEq, Nat.reduceLT]
    refine go ?_; simp -implicitDefEqProofs only [go_sem, Nat.reduceSub, Nat.reduceAdd, Nat.reduceLeDiff, Nat.reduceEqDiff, Nat.reduceBEq, Nat.reduceLT]
    rw [wpC_loop]
    refine AC.loop (fun n st => ∃ i acc t H', i ≤ s.length ∧ n = s.length - i ∧ acc.length ≤ i ∧ lexE s = appE acc (lexF s (n + 1) i) ∧ Acc H H' t acc.length 3 ∧ H' idx = some (.cells [.str s, .int .i64 (i : Nat)]) ∧
      st = ⟨mk 55 [(0, .str s), (5, .ref idx 0), (6, .sl (tokRows acc) t)], H', []⟩) s.length ⟨0, [], .full, _, Nat.zero_le _, rfl, Nat.le_refl _, ?_, (Acc.start H 0 3).new hidx _, Hp.upd_same _ _ _, rfl⟩ ?_
    · unfold lexE
      cases lexF s (s.length + 1) 0 <;> rfl
    · rintro n _ ⟨i, acc, t, H', hi, rfl, hacc, hE, hA, hx, rfl⟩
      obtain ⟨b1, b2⟩ := blanksTo_le hi
      simp only [lexF] at hE
      simp -implicitDefEqProofs only [go_sem, Nat.reduceSub, Nat.reduceAdd, Nat.reduceLeDiff, Nat.reduceEqDiff, Nat.reduceBEq, Nat.reduceLT, l_Tokens_0]
      refine go ?_; simp -implicitDefEqProofs only [go_sem, Nat.reduceSub, Nat.reduceAdd, Nat.reduceLeDiff, Nat.reduceEqDiff, Nat.reduceBEq, Nat.reduceLT]
      refine ACalls.step (blanks_spec' (by omega) hi hx) ?_; simp -implicitDefEqProofs only [go_sem, Nat.reduceSub, Nat.reduceAdd, Nat.reduceLeDiff, Nat.reduceEqDiff, Nat.reduceBEq, Nat.reduceLT]
      generalize blanksTo s i = j at *
      have hA1 := hA.set hx hidx (.cells [.str s, .int .i64 j])
      have hx1 : (H'.upd idx (.cells [.str s, .int .i64 j])) idx = some (.cells [.str s, .int .i64 j]) := Hp.upd_same _ _ _
      generalize H'.upd idx (.cells [.str s, .int .i64 j]) = H1 at *
      clear hA hx
      refine go ?_; simp -implicitDefEqProofs only [go_sem, Nat.reduceSub, Nat.reduceAdd, Nat.reduceLeDiff, Nat.reduceEqDiff, Nat.reduceBEq, Nat.reduceLT, hx1, sLen_eq]
      refine go ?_
      refine wpC_split rfl rfl (fun h => ?_) (fun h => ?_) <;> simp -implicitDefEqProofs only [go_sem, Nat.reduceSub, Nat.reduceAdd, Nat.reduceLeDiff, Nat.reduceEqDiff, Nat.reduceBEq, Nat.reduceLT]
      · have hj := iEq_nat.1 h
        have hs0 : s[j]? = none := List.getElem?_eq_none (by omega)
        simp only [hs0, appE] at hE
        rw [hE] at eP
        simp -implicitDefEqProofs only [go_sem, Nat.reduceSub, Nat.reduceAdd, Nat.reduceLeDiff, Nat.reduceEqDiff, Nat.reduceBEq, Nat.reduceLT, sLen_eq]
        refine hA1.app (tokRows_len _) (by simp) (tokRows_sz _) (by simp) (by simp [AVal.one]) (by simp; omega) fun t' H2 hA2 hk => ?_
        simp -implicitDefEqProofs only [go_sem, Nat.reduceSub, Nat.reduceAdd, Nat.reduceLeDiff, Nat.reduceEqDiff, Nat.reduceBEq, Nat.reduceLT]
        repeat' (first | (refine wpC_split rfl rfl (fun h => ?_) (fun h => ?_) <;> (try simp -implicitDefEqProofs only [go_sem, Nat.reduceSub, Nat.reduceAdd, Nat.reduceLeDiff, Nat.reduceEqDiff, Nat.reduceBEq, Nat.reduceLT, h])) | (refine plan_split rfl rfl (fun h => ?_) (fun h => ?_) <;> simp -implicitDefEqProofs only [go_sem, Nat.reduceSub, Nat.reduceAdd, Nat.reduceLeDiff, Nat.reduceEqDiff, Nat.reduceBEq, Nat.reduceLT, h]) | (refine planD_split rfl rfl (fun h => ?_) (fun h => ?_) <;> simp -implicitDefEqProofs only [go_sem, Nat.reduceSub, Nat.reduceAdd, Nat.reduceLeDiff, Nat.reduceEqDiff, Nat.reduceBEq, Nat.reduceLT, h]) | (refine go ?_; try simp -implicitDefEqProofs only [go_sem, Nat.reduceSub, Nat.reduceAdd, Nat.reduceLeDiff, Nat.reduceEqDiff, Nat.reduceBEq, Nat.reduceLT]) | ((with_reducible refine wpC_id ?_); simp -implicitDefEqProofs only [go_sem, Nat.reduceSub, Nat.reduceAdd, Nat.reduceLeDiff, Nat.reduceEqDiff, Nat.reduceBEq, Nat.reduceLT]) | ((with_reducible first | refine quiet_id ?_ | refine wrote_id ?_ | refine resQ_id ?_); simp -implicitDefEqProofs only [go_sem, Nat.reduceSub, Nat.reduceAdd, Nat.reduceLeDiff, Nat.reduceEqDiff, Nat.reduceBEq, Nat.reduceLT]) | fail)
        rw [eP]
        refine ⟨_, rfl, wk_tup1 ?_, hA2.le⟩
        have := tokRows_app acc ⟨7, [], s.length⟩
        simp only at this
        rw [this]
        exact .sl _ _
      · have hj : ¬ j = s.length := fun e => by rw [iEq_false] at h; exact h (by rw [e])
        obtain ⟨c, hc⟩ : ∃ c, s[j]? = some c := ⟨_, List.getElem?_eq_getElem (by omega)⟩
        simp only [hc] at hE
        refine go ?_; simp -implicitDefEqProofs only [go_sem, Nat.reduceSub, Nat.reduceAdd, Nat.reduceLeDiff, Nat.reduceEqDiff, Nat.reduceBEq, Nat.reduceLT]
        refine ACalls.step (token_spec (by omega) hc hx1) ?_; simp -implicitDefEqProofs only [go_sem, Nat.reduceSub, Nat.reduceAdd, Nat.reduceLeDiff, Nat.reduceEqDiff, Nat.reduceBEq, Nat.reduceLT]
        cases ht : tokAt s j c with
        | none =>
          simp only [ht, appE] at hE
          rw [hE] at eP
          simp -implicitDefEqProofs only [go_sem, Nat.reduceSub, Nat.reduceAdd, Nat.reduceLeDiff, Nat.reduceEqDiff, Nat.reduceBEq, Nat.reduceLT, tokRes, tokV]
          intro id7 h7
          simp -implicitDefEqProofs only [go_sem, Nat.reduceSub, Nat.reduceAdd, Nat.reduceLeDiff, Nat.reduceEqDiff, Nat.reduceBEq, Nat.reduceLT]
          repeat' (first | (refine wpC_split rfl rfl (fun h => ?_) (fun h => ?_) <;> (try simp -implicitDefEqProofs only [go_sem, Nat.reduceSub, Nat.reduceAdd, Nat.reduceLeDiff, Nat.reduceEqDiff, Nat.reduceBEq, Nat.reduceLT, h, upd_old hx1 h7])) | (refine plan_split rfl rfl (fun h => ?_) (fun h => ?_) <;> simp -implicitDefEqProofs only [go_sem, Nat.reduceSub, Nat.reduceAdd, Nat.reduceLeDiff, Nat.reduceEqDiff, Nat.reduceBEq, Nat.reduceLT, h, upd_old hx1 h7]) | (refine planD_split rfl rfl (fun h => ?_) (fun h => ?_) <;> simp -implicitDefEqProofs only [go_sem, Nat.reduceSub, Nat.reduceAdd, Nat.reduceLeDiff, Nat.reduceEqDiff, Nat.reduceBEq, Nat.reduceLT, h, upd_old hx1 h7]) | (refine go ?_; try simp -implicitDefEqProofs only [go_sem, Nat.reduceSub, Nat.reduceAdd, Nat.reduceLeDiff, Nat.reduceEqDiff, Nat.reduceBEq, Nat.reduceLT, upd_old hx1 h7]) | ((with_reducible refine wpC_id ?_); simp -implicitDefEqProofs only [go_sem, Nat.reduceSub, Nat.reduceAdd, Nat.reduceLeDiff, Nat.reduceEqDiff, Nat.reduceBEq, Nat.reduceLT, upd_old hx1 h7]) | ((with_reducible first | refine quiet_id ?_ | refine wrote_id ?_ | refine resQ_id ?_); simp -implicitDefEqProofs only [go_sem, Nat.reduceSub, Nat.reduceAdd, Nat.reduceLeDiff, Nat.reduceEqDiff, Nat.reduceBEq, Nat.reduceLT, upd_old hx1 h7]) | fail)
          rw [eP]
          exact ⟨_, rfl, wk_tup1 (.sl _ _), (hA1.new h7 _).le⟩
        | some tk =>
          obtain ⟨l1, l2⟩ := tokAt_len hc ht
          simp only [ht] at hE
          simp -implicitDefEqProofs only [go_sem, Nat.reduceSub, Nat.reduceAdd, Nat.reduceLeDiff, Nat.reduceEqDiff, Nat.reduceBEq, Nat.reduceLT, tokRes, tokV]
          intro id7 h7
          simp -implicitDefEqProofs only [go_sem, Nat.reduceSub, Nat.reduceAdd, Nat.reduceLeDiff, Nat.reduceEqDiff, Nat.reduceBEq, Nat.reduceLT]
          repeat' (first | (refine wpC_split rfl rfl (fun h => ?_) (fun h => ?_) <;> (try simp -implicitDefEqProofs only [go_sem, Nat.reduceSub, Nat.reduceAdd, Nat.reduceLeDiff, Nat.reduceEqDiff, Nat.reduceBEq, Nat.reduceLT, h, upd_old hx1 h7])) | (refine plan_split rfl rfl (fun h => ?_) (fun h => ?_) <;> simp -implicitDefEqProofs only [go_sem, Nat.reduceSub, Nat.reduceAdd, Nat.reduceLeDiff, Nat.reduceEqDiff, Nat.reduceBEq, Nat.reduceLT, h, upd_old hx1 h7]) | (refine planD_split rfl rfl (fun h => ?_) (fun h => ?_) <;> simp -implicitDefEqProofs only [go_sem, Nat.reduceSub, Nat.reduceAdd, Nat.reduceLeDiff, Nat.reduceEqDiff, Nat.reduceBEq, Nat.reduceLT, h, upd_old hx1 h7]) | (refine go ?_; try simp -implicitDefEqProofs only [go_sem, Nat.reduceSub, Nat.reduceAdd, Nat.reduceLeDiff, Nat.reduceEqDiff, Nat.reduceBEq, Nat.reduceLT, upd_old hx1 h7]) | ((with_reducible refine wpC_id ?_); simp -implicitDefEqProofs only [go_sem, Nat.reduceSub, Nat.reduceAdd, Nat.reduceLeDiff, Nat.reduceEqDiff, Nat.reduceBEq, Nat.reduceLT, upd_old hx1 h7]) | ((with_reducible first | refine quiet_id ?_ | refine wrote_id ?_ | refine resQ_id ?_); simp -implicitDefEqProofs only [go_sem, Nat.reduceSub, Nat.reduceAdd, Nat.reduceLeDiff, Nat.reduceEqDiff, Nat.reduceBEq, Nat.reduceLT, upd_old hx1 h7]) | fail)
          refine (hA1.new h7 _).app (tokRows_len _) (by simp) (tokRows_sz _) (by simp) (by simp [AVal.one]) (by simp; omega) fun t' H2 hA2 hk => ?_
          have hx2 := hk idx _ (upd_old hx1 h7) (by simp)
          have h72 := hk id7 _ (Hp.upd_same _ _ _) (by simp)
          have e : wAdd .i64 (j : Int) (sLen tk.2) = ((j + tk.2.length : Nat) : Int) := by rw [sLen_eq, wAdd_i64] <;> omega
          repeat' (first | (refine wpC_split rfl rfl (fun h => ?_) (fun h => ?_) <;> (try simp -implicitDefEqProofs only [go_sem, Nat.reduceSub, Nat.reduceAdd, Nat.reduceLeDiff, Nat.reduceEqDiff, Nat.reduceBEq, Nat.reduceLT, h, hx2, h72, e])) | (refine plan_split rfl rfl (fun h => ?_) (fun h => ?_) <;> simp -implicitDefEqProofs only [go_sem, Nat.reduceSub, Nat.reduceAdd, Nat.reduceLeDiff, Nat.reduceEqDiff, Nat.reduceBEq, Nat.reduceLT, h, hx2, h72, e]) | (refine planD_split rfl rfl (fun h => ?_) (fun h => ?_) <;> simp -implicitDefEqProofs only [go_sem, Nat.reduceSub, Nat.reduceAdd, Nat.reduceLeDiff, Nat.reduceEqDiff, Nat.reduceBEq, Nat.reduceLT, h, hx2, h72, e]) | (refine go ?_; try simp -implicitDefEqProofs only [go_sem, Nat.reduceSub, Nat.reduceAdd, Nat.reduceLeDiff, Nat.reduceEqDiff, Nat.reduceBEq, Nat.reduceLT, hx2, h72, e]) | ((with_reducible refine wpC_id ?_); simp -implicitDefEqProofs only [go_sem, Nat.reduceSub, Nat.reduceAdd, Nat.reduceLeDiff, Nat.reduceEqDiff, Nat.reduceBEq, Nat.reduceLT, hx2, h72, e]) | ((with_reducible first | refine quiet_id ?_ | refine wrote_id ?_ | refine resQ_id ?_); simp -implicitDefEqProofs only [go_sem, Nat.reduceSub, Nat.reduceAdd, Nat.reduceLeDiff, Nat.reduceEqDiff, Nat.reduceBEq, Nat.reduceLT, hx2, h72, e]) | fail)
          refine ⟨s.length - (j + tk.2.length), by omega, j + tk.2.length, acc ++ [⟨tk.1, tk.2, j⟩], t', H2.upd idx (.cells [.str s, .int .i64 ((j + tk.2.length : Nat) : Int)]), l2, rfl, by simp; omega, ?_, ?_, Hp.upd_same _ _ _, ?_⟩
          · rw [hE, lexF_fuel s _ _ l2 (by omega)]
            cases lexF s (s.length - (j + tk.2.length) + 1) (j + tk.2.length) <;> simp [appE, consE]
          · have := hA2.set hx2 hidx (.cells [.str s, .int .i64 ((j + tk.2.length : Nat) : Int)])
            simpa using this
          · have := tokRows_app acc ⟨tk.1, tk.2, j⟩
            simp only at this
            rw [this]

end Go.Proofs.YtmpoklkgdcofbaaGreatDoor

