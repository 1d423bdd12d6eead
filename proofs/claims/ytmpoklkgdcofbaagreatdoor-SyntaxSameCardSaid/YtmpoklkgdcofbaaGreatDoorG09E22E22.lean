/- What has been read as data stands in memory as an abstract value does. -/
import Derived.Test.YtmpoklkgdcofbaaGreatDoorG05E20E21
import Derived.ChangeArms
import Derived.Carry
set_option linter.unusedVariables false
set_option linter.unusedSimpArgs false
namespace Go.Eng
open Go.RowKit (Below)

section
variable {T : Type}
mutual
/-- The cells of a datum. -/
def avCells : DataW T → List AVal
  | .lit (.bool b) => [.bool b]
  | .lit (.int k n) => [.int k n]
  | .lit (.string s) => [.str s]
  | .nil => [.sl [] .no]
  | .agg ds => avCat ds
  | .slice es _ => [.sl (avRows es) .no]
  | _ => [.unk]
def avCat : List (DataW T) → List AVal
  | [] => []
  | d :: ds => avCells d ++ avCat ds
def avRows : List (DataW T) → List (List AVal)
  | [] => []
  | d :: ds => avCells d :: avRows ds
end

theorem avRows_map (ds : List (DataW T)) : avRows ds = ds.map avCells := by
  induction ds with
  | nil => rw [avRows]; rfl
  | cons d ds ih => rw [avRows, ih]; rfl

/-- The fields lie one behind the other, from a place on; how many cells they have. -/
def tile (P : Program) : Nat → List Field → Option Nat
  | o, [] => some o
  | o, f :: fs => if f.offset = o then tile P (o + P.cellsOf f.type) fs else none

/-- Plain types: whose parts are plain, too. -/
def okT (P : Program) (S : List TypeId) (t : TypeId) : Bool :=
  match P.underlying t with
  | some .bool | some (.int _) | some .string => true
  | some (.slice e) => S.contains e && decide (0 < P.cellsOf e)
  | some (.struct fs) => (fs.toList.all fun f => S.contains f.type) && (tile P 0 fs.toList == some (P.cellsOf t))
  | _ => false

/-- Nothing is known yet: all that lies is never written. -/
def G0 : Gh := ⟨fun _ => .unused, fun _ => none⟩

theorem wr_start (W : World) : Wr W.heap.size W Hp.none G0 W :=
  ⟨Below.refl _ _, Nat.le_refl _, fun _ _ => rfl, fun _ _ => rfl, fun id o (h : Option.none = some o) => (by cases h), fun i j b h => absurd rfl h, ⟨0, fun _ _ => rfl⟩⟩

variable {enc : TypeId × Value → T} {P : Program} {w : World} {base : Nat} {sp : Nat → Bool} {held : Bool} {S : List TypeId}

theorem mapM_cells {f : Nat → Option Value} : ∀ (n i : Nat) (cs : List Value), (List.range' i n).mapM f = some cs → cs.length = n ∧ ∀ j v, cs[j]? = some v → f (i + j) = some v
  | 0, i, cs, h => by simp at h; subst h; exact ⟨rfl, fun j v hv => by simp at hv⟩
  | n + 1, i, cs, h => by
    rw [List.range'_succ, List.mapM_cons] at h
    cases hf : f i with
    | none => simp [hf] at h
    | some x =>
      cases hr : (List.range' (i + 1) n).mapM f with
      | none => simp [hf, hr] at h
      | some r =>
        simp only [hf, hr, Option.bind_eq_bind, Option.bind_some, Option.pure_def, Option.some.injEq] at h
        subst h
        obtain ⟨h1, h2⟩ := mapM_cells n (i + 1) r hr
        refine ⟨by simp [h1], fun j v hv => ?_⟩
        cases j with
        | zero => simp at hv; subst hv; exact hf
        | succ j => simp at hv; have := h2 j v hv; rw [← this]; congr 1; omega

theorem cells_read {a : Addr} {n : Nat} {cs : List Value} (h : w.cells? base a n = some cs) : cs.length = n ∧ ∀ j v, cs[j]? = some v → w.cell? (a.add j) = some v := by
  unfold World.cells? at h
  split at h
  · rw [List.range_eq_range'] at h
    obtain ⟨h1, h2⟩ := mapM_cells n 0 cs h
    exact ⟨h1, fun j v hv => by simpa using h2 j v hv⟩
  · cases h

theorem imm_G0 {b off : Nat} {vs : List Value} (h : ∀ i v, vs[i]? = some v → w.cell? ⟨b, off + i, none⟩ = some v) : ImmRow G0 w b off vs :=
  fun i v hv => ⟨h i v hv, World.cell?_lt (h i v hv), fun n hn => by cases hn⟩

theorem reps1 {G : Gh} {a : AVal} {v : Value} (h : Rep G w a v) : Reps G w [a] [v] := Reps.cons h Reps.nil

theorem tile_le : ∀ (fs : List Field) (o n : Nat), tile P o fs = some n → o ≤ n
  | [], o, n, h => by simp only [tile, Option.some.injEq] at h; omega
  | f :: fs, o, n, h => by
    rw [tile] at h
    split at h
    · have := tile_le fs _ _ h; omega
    · cases h

theorem reps_fields (fs : List Field) (cs : List Value) (rd : Field → Nat) : ∀ (o n : Nat) (xs : List (DataW T × List MemPlace)), tile P o fs = some n → n ≤ cs.length → xs.length = fs.length →
    (∀ (i : Nat) (f : Field), fs[i]? = some f → ∃ x : DataW T × List MemPlace, xs[i]? = some x ∧ Reps G0 w (avCells x.1) ((cs.drop f.offset).take (P.cellsOf f.type))) → Reps G0 w (avCat (xs.map (·.1))) ((cs.take n).drop o) := by
  induction fs with
  | nil =>
    intro o n xs ht hn hl _
    simp only [tile, Option.some.injEq] at ht
    subst ht
    have : xs = [] := List.length_eq_zero_iff.1 hl
    subst this
    rw [List.drop_eq_nil_of_le (by rw [List.length_take]; omega)]
    show Reps G0 w (avCat []) []
    rw [avCat]
    exact Reps.nil
  | cons f fs ih =>
    intro o n xs ht hn hl hx
    rw [tile] at ht
    split at ht
    · rename_i ho
      cases xs with
      | nil => simp at hl
      | cons x xs =>
        obtain ⟨y, hy, hr⟩ := hx 0 f rfl
        simp only [List.getElem?_cons_zero, Option.some.injEq] at hy
        subst hy
        have hrest := ih (o + P.cellsOf f.type) n xs ht hn (by simpa using hl) fun i g hg => by
          obtain ⟨y, hy, hr⟩ := hx (i + 1) g (by simpa using hg)
          exact ⟨y, by simpa using hy, hr⟩
        have hle : o + P.cellsOf f.type ≤ n := by
          exact tile_le fs _ _ ht
        rw [ho] at hr
        show Reps G0 w (avCat (x.1 :: xs.map (·.1))) _
        rw [avCat]
        have e : (cs.take n).drop o = (cs.drop o).take (P.cellsOf f.type) ++ (cs.take n).drop (o + P.cellsOf f.type) := by
          rw [List.drop_take, List.drop_take, ← List.drop_drop]
          have : n - o = P.cellsOf f.type + (n - (o + P.cellsOf f.type)) := by omega
          rw [this, List.take_add]
        rw [e]
        exact hr.append hrest
    · cases ht

theorem trod_reps (hS : ∀ t ∈ S, okT P S t = true) : ∀ (fuel : Nat) (t : TypeId) (cs : List Value) (x : DataW T × List MemPlace), t ∈ S → DataW.trod enc P w base sp held fuel t cs = some x → Reps G0 w (avCells x.1) cs := by
  intro fuel
  induction fuel with
  | zero => intro t cs x _ h; simp [DataW.trod] at h
  | succ fuel ih =>
    intro t cs x ht h
    have hk := hS t ht
    unfold okT at hk
    split at hk
    · rename_i hu
      obtain ⟨b, rfl, rfl⟩ := DataW.trod_bool hu h
      rw [avCells]; exact reps1 (.bool b)
    · rename_i k hu
      obtain ⟨n, rfl, rfl, _⟩ := DataW.trod_int hu h
      rw [avCells]; exact reps1 (.int _ _)
    · rename_i hu
      obtain ⟨s, rfl, rfl, _⟩ := DataW.trod_string hu h
      rw [avCells]
      have := Rep.str (G := G0) (w := w) s.data.toList
      exact reps1 this
    · rename_i e hu
      rw [Bool.and_eq_true, decide_eq_true_eq, List.contains_iff_mem] at hk
      rcases DataW.trod_slice hu h with ⟨rfl, rfl⟩ | ⟨a, len, cap, elems, rest, n, hf, rfl, rfl, _, hlc, _, hel, hread, _⟩
      · rw [avCells]; exact reps1 (.slnil (.inl rfl))
      · cases hf
        rw [avCells]
        refine reps1 ?_
        rcases Nat.eq_zero_or_pos len with h0 | h0
        · subst h0
          have : elems = [] := List.length_eq_zero_iff.1 hel
          subst this
          show Rep G0 w (.sl (avRows []) .no) _
          rw [avRows]
          exact .slz (.inl rfl)
        · -- the elements, one by one
          have each : ∀ i, i < len → ∃ x csi, elems[i]? = some x ∧ csi.length = P.cellsOf e ∧ (∀ j v, csi[j]? = some v → w.cell? ((a.add (i * P.cellsOf e)).add j) = some v) ∧ Reps G0 w (avCells x.1) csi := by
            intro i hi
            have hr := hread i hi
            have hx : elems[i]? = some elems[i] := List.getElem?_eq_getElem (by omega)
            rw [hx, Option.bind_eq_some_iff] at hr
            obtain ⟨csi, h1, h2⟩ := hr
            obtain ⟨k1, k2⟩ := cells_read h1
            exact ⟨_, csi, hx, k1, k2, ih e csi _ hk.1 h2⟩
          obtain ⟨b, off, rfl⟩ : ∃ b off, a = ⟨b, off, none⟩ := by
            obtain ⟨_, csi, _, h1, h2, _⟩ := each 0 h0
            obtain ⟨v, hv⟩ : ∃ v, csi[0]? = some v := ⟨_, List.getElem?_eq_getElem (by omega)⟩
            have := h2 0 v hv
            simp only [Nat.zero_mul, Addr.add, if_true] at this
            unfold World.cell? at this
            obtain ⟨b, off, spt⟩ := a
            cases spt with
            | none => exact ⟨b, off, rfl⟩
            | some s => split at this <;> simp at this
          have add2 : ∀ i j : Nat, ((⟨b, off, none⟩ : Addr).add i).add j = ⟨b, off + i + j, none⟩ := by
            intro i j; unfold Addr.add; split <;> split <;> simp_all
          -- all cells
          have all : ∀ k, k ≤ len → ∃ vs : List Value, vs.length = k * P.cellsOf e ∧ (∀ i v, vs[i]? = some v → w.cell? ⟨b, off + i, none⟩ = some v) ∧ Reps G0 w ((avRows (elems.map (·.1))).take k).flatten vs ∧ (∀ r ∈ (avRows (elems.map (·.1))).take k, r.length = P.cellsOf e) := by
            intro k
            induction k with
            | zero => intro _; exact ⟨[], by simp, fun i v h => by simp at h, by simpa using Reps.nil, by simp⟩
            | succ k ihk =>
              intro hkl
              obtain ⟨vs, v1, v2, v3, v4⟩ := ihk (by omega)
              obtain ⟨x, csi, hx, c1, c2, c3⟩ := each k (by omega)
              have hrow : (avRows (elems.map (·.1)))[k]? = some (avCells x.1) := by rw [avRows_map]; simp [hx]
              have htake : (avRows (elems.map (·.1))).take (k + 1) = (avRows (elems.map (·.1))).take k ++ [avCells x.1] := by rw [List.take_add_one, hrow]; rfl
              refine ⟨vs ++ csi, by rw [List.length_append, v1, c1, Nat.succ_mul], fun i v hv => ?_, ?_, ?_⟩
              · rcases Nat.lt_or_ge i vs.length with hi | hi
                · rw [List.getElem?_append_left hi] at hv; exact v2 i v hv
                · rw [List.getElem?_append_right hi] at hv
                  have := c2 _ v hv
                  rw [add2] at this
                  rw [v1] at this hi
                  rw [show off + i = off + k * P.cellsOf e + (i - k * P.cellsOf e) by omega]
                  exact this
              · rw [htake, List.flatten_append]
                simpa using v3.append c3
              · rw [htake]
                intro r hr
                rcases List.mem_append.1 hr with hr | hr
                · exact v4 r hr
                · simp only [List.mem_singleton] at hr; subst hr; rw [c3.1, c1]
          obtain ⟨vs, v1, v2, v3, v4⟩ := all len (Nat.le_refl _)
          have hlen : (avRows (elems.map (·.1))).length = len := by rw [avRows_map]; simp [hel]
          rw [List.take_of_length_le (by omega)] at v3 v4
          have hb : b < w.heap.size := by
            have : 0 < vs.length := by rw [v1]; exact Nat.mul_pos h0 hk.2
            exact World.cell?_lt (v2 0 _ (List.getElem?_eq_getElem this))
          have := Rep.sl (G := G0) (w := w) (t := .no) (off := off) (cap := cap) v4 v3.1 v3.2 (imm_G0 v2) hb (by omega) trivial
          rw [hlen] at this
          exact this
    · rename_i fs hu
      rw [Bool.and_eq_true, beq_iff_eq, List.all_eq_true] at hk
      obtain ⟨xs, n, hf, rfl, hl, hxl, hrd⟩ := DataW.trod_struct hu h
      cases hf
      rw [avCells]
      have := reps_fields (w := w) (T := T) fs.toList cs (fun _ => 0) 0 (P.cellsOf t) xs hk.2 (by omega) (by simpa using hxl) fun i f hfi => by
        have hi : i < xs.length := by
          have := (List.getElem?_eq_some_iff.1 hfi).1
          rw [hxl]; simpa using this
        have hx : xs[i]? = some xs[i] := List.getElem?_eq_getElem hi
        have hr := hrd i f (by simpa using hfi)
        rw [hx] at hr
        have hm : f.type ∈ S := by
          have := hk.1 f (List.mem_of_getElem? hfi)
          simpa [List.contains_iff_mem] using this
        exact ⟨_, hx, ih _ _ _ hm hr⟩
      rw [← hl, List.take_length, List.drop_zero] at this
      exact this
    · cases hk

end
end Go.Eng

