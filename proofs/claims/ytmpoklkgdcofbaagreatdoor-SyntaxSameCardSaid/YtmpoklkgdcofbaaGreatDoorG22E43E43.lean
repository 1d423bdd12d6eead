/- A call of which only a closed value is known leaves alone what is known. -/
import Derived.Test.YtmpoklkgdcofbaaGreatDoorG20E42E42
set_option linter.unusedVariables false
set_option linter.unusedSimpArgs false
namespace Go.Eng
open Go.RowKit (Below)

theorem bndL_get {k : Nat} {l : List AVal} (h : bndL k l = true) {i : Nat} {a : AVal} (ha : l[i]? = some a) : a.bnd k = true := bndL_iff.1 h a (List.mem_of_getElem? ha)

theorem Rep.of_closed {G G' : Gh} {w : World} (hf : G'.fr = G.fr) {a : AVal} {v : Value} (h : Rep G w a v) : a.bnd 0 = true → Rep G' w a v := by
  induction h with
  | bool b => exact fun _ => .bool b
  | int k n => exact fun _ => .int k n
  | str s => exact fun _ => .str s
  | agg hl _ ih => intro hb; rw [AVal.bnd] at hb; exact .agg hl fun i a v ha hv => ih i a v ha hv (bndL_get hb ha)
  | slnil ht => exact fun _ => .slnil ht
  | slz ht => exact fun _ => .slz ht
  | @sl rows t vs b off cap sz hsz hl _ hi hb hc ht ih =>
    intro hbd
    rw [AVal.bnd, Bool.and_eq_true] at hbd
    refine .sl hsz hl (fun i a v ha hv => ih i a v ha hv (bndL_get (bndR_flat hbd.1) ha)) (fun i v hv => ?_) hb hc ?_
    · obtain ⟨h1, h2⟩ := hi i v hv
      exact ⟨h1, h2.1, fun n hn => h2.2 n (by rw [← hf]; exact hn)⟩
    · cases t with
      | no => trivial
      | full => exact ht
      | nil => exact ht
      | frz => exact ⟨by rw [hf]; exact ht.1, ht.2⟩
      | own i s => have := hbd.2; simp [Tok.bnd, Nat.blt_eq] at this
  | slm h hs hc hN => intro hb; simp [AVal.bnd, Nat.blt_eq] at hb
  | ref off h => intro hb; simp [AVal.bnd, Nat.blt_eq] at hb
  | ip hl _ hi hb ih =>
    intro hbd
    rw [AVal.bnd] at hbd
    refine .ip hl (fun i a v ha hv => ih i a v ha hv (bndL_get hbd ha)) (fun i v hv => ?_) hb
    obtain ⟨h1, h2⟩ := hi i v hv
    exact ⟨h1, h2.1, fun n hn => h2.2 n (by rw [← hf]; exact hn)⟩
  | nilptr => exact fun _ => .nilptr
  | map h => intro hb; simp [AVal.bnd, Nat.blt_eq] at hb
  | nilmap => exact fun _ => .nilmap
  | func hl _ hl' _ ih ih' =>
    intro hb
    rw [AVal.bnd, Bool.and_eq_true] at hb
    exact .func hl (fun i a v ha hv => ih i a v ha hv (bndL_get hb.1 ha)) hl' (fun i a v ha hv => ih' i a v ha hv (bndL_get hb.2 ha))
  | nilfunc => exact fun _ => .nilfunc
  | iface _ ih => intro hb; rw [AVal.bnd] at hb; exact .iface (ih hb)
  | nilif => exact fun _ => .nilif
  | tup hl _ ih => intro hb; rw [AVal.bnd] at hb; exact .tup hl fun i a v ha hv => ih i a v ha hv (bndL_get hb ha)
  | unk v => exact fun _ => .unk v

theorem pure_of_none {O : Cfg} {P : Program} {f : FuncId} {args : List AVal} {v : AVal} (hv : v.bnd 0 = true) (h : ACalls O P f args Hp.none (fun r _ => r = .ret v)) (H : Hp) : ACalls O P f args H (fun r H' => r = .ret v ∧ H' = H) := by
  intro base w0 G w vs hL hw hvs
  have hw0 : Wr base w0 Hp.none G w := hw.le' fun i o hi => by cases hi
  refine (h base w0 G w vs hL hw0 hvs).mono fun e w' hm => ?_
  have hun : ∀ b, unkB Hp.none G b := fun b id hid => absurd rfl hid
  have key : ∀ (H' : Hp) (G' : Gh) (u : Value), Rep G' w' v u → Wr base w0 H' G' w' → GExt G w G' w' → Fr Hp.none G w H' G' w' →
      ∃ G2, Rep G2 w' v u ∧ Wr base w0 H G2 w' ∧ GExt G w G2 w' ∧ Fr H G w H G2 w' := by
    intro H' G' u hr hw' hx hf
    have dec : ∀ i, ∃ s, (H i ≠ none → s = G.st i) ∧ (H i = none → s = G'.st i) := fun i => by
      cases hi : H i with
      | none => exact ⟨G'.st i, fun h => absurd rfl h, fun _ => rfl⟩
      | some o => exact ⟨G.st i, fun _ => rfl, fun h => by cases h⟩
    obtain ⟨st, hst⟩ : ∃ st : Nat → Sta, ∀ i, (H i ≠ none → st i = G.st i) ∧ (H i = none → st i = G'.st i) := ⟨fun i => (dec i).choose, fun i => (dec i).choose_spec⟩
    have hcase : ∀ i, (H i ≠ none ∧ st i = G.st i) ∨ (H i = none ∧ st i = G'.st i) := fun i => by
      cases hi : H i with
      | none => exact .inr ⟨rfl, (hst i).2 hi⟩
      | some o => exact .inl ⟨by simp, (hst i).1 (by rw [hi]; simp)⟩
    have x : GExt G w ⟨st, G'.fr⟩ w' := {
      size := hx.size
      shape := hx.shape
      imm := hx.imm
      own := hx.own
      obj := fun i b hi => by
        rcases hcase i with ⟨_, e⟩ | ⟨_, e⟩
        · exact e.trans hi
        · exact e.trans (hx.obj i b hi)
      dead := fun i hi => by
        rcases hcase i with ⟨_, e⟩ | ⟨_, e⟩
        · exact e.trans hi
        · exact e.trans (hx.dead i hi)
      tok := fun i b m s hi => by
        rcases hcase i with ⟨_, e⟩ | ⟨_, e⟩
        · exact .inr ⟨b, m, s, e.trans hi, Nat.le_refl _, fun _ => ⟨rfl, rfl⟩⟩
        · show st i = _ ∨ ∃ b' m' s', st i = _ ∧ _
          rw [e]; exact hx.tok i b m s hi }
    refine ⟨⟨st, G'.fr⟩, Rep.of_closed (G := G') (G' := ⟨st, G'.fr⟩) rfl hr hv, ⟨hw'.below, hw'.le, hw'.old, hw'.new, fun i o hi => ?_, fun i j b hi hj h1 h2 => ?_, ?_⟩, x, ⟨fun b hb hu => hf.kept b hb (hun b), fun b hb hu i hi => ?_⟩⟩
    · refine (hw.ob i o hi).mono x ((hst i).1 (by rw [hi]; simp)) fun b hb => ?_
      obtain ⟨b', k1, k2, _⟩ := (hw.ob i o hi).lt
      rw [k1] at hb
      obtain rfl := Option.some.inj hb
      obtain ⟨q1, q2⟩ := hf.kept b' k2 (hun b')
      exact ⟨q2, q1⟩
    · have e1 := (hst i).1 hi
      have e2 := (hst j).1 hj
      simp only at h1 h2
      rw [e1] at h1; rw [e2] at h2
      exact hw.apart i j b hi hj h1 h2
    · obtain ⟨n1, hn1⟩ := hw.fresh
      obtain ⟨n2, hn2⟩ := hw'.fresh
      refine ⟨max n1 n2, fun i hi => ?_⟩
      rcases hcase i with ⟨_, e⟩ | ⟨_, e⟩
      · exact e.trans (hn1 i (by omega))
      · exact e.trans (hn2 i (by omega))
    · simp only
      rw [(hst i).1 hi]
      exact hu i hi
  cases e with
  | outgrown => exact hm
  | panicked c => obtain ⟨v', u, H', G', _, _, hq, _⟩ := hm; cases hq
  | returned u =>
    obtain ⟨v', H', G', hr, hq, hw', hx, hf⟩ := hm
    cases hq
    obtain ⟨G2, k1, k2, k3, k4⟩ := key H' G' u hr hw' hx hf
    exact ⟨v, H, G2, k1, ⟨rfl, rfl⟩, k2, k3, k4⟩
end Go.Eng

