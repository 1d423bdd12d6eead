/- The interpreter, quicker: slots as lists of what is known. -/
import Derived.Test.YtmpoklkgdcofbaaGreatDoorG19E23E41
set_option linter.unusedVariables false
set_option linter.unusedSimpArgs false
namespace Go.Eng

abbrev Sl := List (Nat × AVal)
structure IT where
  m : Sl
  hp : List Ob
  ds : List ADef

def getM (n : Nat) (m : Sl) (i : Nat) : AVal := bif Nat.blt i n then look m i else .unk
def evM (n : Nat) (m : Sl) : Opd → AVal
  | .t i => getM n m i
  | .c v => v
  | .f f => .func (.func f) [] []
def setM (m : Sl) (d : Option Nat) (v : AVal) : Sl :=
  match d with
  | some d => (d, v) :: m
  | none => m
def gdM (n : Nat) (gd : Option (Nat × Bool)) (m : Sl) : Option Bool :=
  match gd with
  | none => some true
  | some (t, b) => match getM n m t with
    | .bool c => some (c == b)
    | .tup [] => some false
    | _ => none
def pickT (c x y : AVal) : Option AVal :=
  match c with
  | .bool b => some (b2i b x y)
  | _ => none
def intB (op : BinOp) (k : IntKind) (a b : Int) : Option AVal :=
  match op with
  | .add => some (.int k (wAdd k a b))
  | .sub => some (.int k (wSub k a b))
  | .mul => some (.int k (wMul k a b))
  | .eql => some (.bool (iEq a b))
  | .neq => some (.bool (bNot (iEq a b)))
  | .lss => some (.bool (iLt a b))
  | .leq => some (.bool (iLe a b))
  | .gtr => some (.bool (iLt b a))
  | .geq => some (.bool (iLe b a))
  | op => binA op (.int k a) (.int k b)
def strB (op : BinOp) (a b : List UInt8) : Option AVal :=
  match op with
  | .add => catK a b
  | .eql => some (.bool (sEq a b))
  | .neq => some (.bool (bNot (sEq a b)))
  | op => binA op (.str a) (.str b)
def binT (op : BinOp) (x y : AVal) : Option AVal :=
  match x with
  | .int k a => match y with
    | .int k' b => if k = k' then intB op k a b else none
    | _ => none
  | .str a => match y with
    | .str b => strB op a b
    | _ => none
  | _ => none
def buildT (z : List AVal) (ps : List (Nat × Nat × AVal)) : Option AVal := match fillA z ps with | some x => some (.agg x) | none => none
def bslT (sz : Nat) (t : Tok) (ps : List AVal) : Option AVal := match rowsA sz ps with | some rows => some (.sl rows t) | none => none
def lenMT (H : Hp) (m : AVal) : Option AVal :=
  match m with
  | .map id => match H id with
    | some (.map es) => some (.int .i64 es.length)
    | _ => none
  | .nilmap => some (.int .i64 0)
  | _ => none
def quietT (v : Option AVal) (hp : List Ob) : Option (AVal × List Ob) :=
  match v with
  | some v => some (v, hp)
  | none => none
def storeC (n o i : Nat) (v : AVal) (hp : List Ob) (cs : List AVal) (ty : Option TypeId) : Option (AVal × List Ob) :=
  if v.known = true ∧ v.cells.length = n ∧ v.cells.all AVal.one = true ∧ o + n ≤ cs.length then some (.tup [], hp.set i (.cells (cs.take o ++ v.cells ++ cs.drop (o + n)) ty)) else none
def storeT (n : Nat) (x v : AVal) (hp : List Ob) : Option (AVal × List Ob) :=
  match x with
  | .ref i o => match hp[i]? with
    | some (.cells cs ty) => storeC n o i v hp cs ty
    | _ => none
  | _ => none
def msetT (kk : KK) (m k v : AVal) (hp : List Ob) : Option (AVal × List Ob) :=
  match m with
  | .map i => match hp[i]? with
    | some (.map es) => match setA kk k v es with
      | some es' => some (.tup [], hp.set i (.map es'))
      | none => none
    | _ => none
  | _ => none
def appsT (bytes : Nat) (e : TypeId) (x y : AVal) (hp : List Ob) : Option (AVal × List Ob) :=
  match y with
  | .str l => appI 1 bytes e x (.sl (byteRows l) .no) hp
  | _ => none
def boxT (v : AVal) (hp : List Ob) : Option (AVal × List Ob) := if v.known = true then some (.ref hp.length 0, hp ++ [.cells v.cells]) else none

/-- An operation, by small steps. -/
def opT (f : Opd → AVal) (hp : List Ob) (op : AOp) : Option (AVal × List Ob) :=
  match op with
  | .mv x => some (f x, hp)
  | .pick c x y => quietT (pickT (f c) (f x) (f y)) hp
  | .build z ps => quietT (buildT z (ps.map fun p => (p.1, p.2.1, f p.2.2))) hp
  | .load k x => quietT (loadA (hpF hp) k (f x)) hp
  | .nilck x => quietT (nilckA (f x)) hp
  | .bin op x y => quietT (binT op (f x) (f y)) hp
  | .beq ng x y => quietT (beqK ng (f x) (f y)) hp
  | .isnil ng nk x => quietT (isnilK ng (isNilA nk (f x))) hp
  | .sleq ng ks x y => quietT (sleqK ng ks (f x) (f y)) hp
  | .not x => quietT (notK (f x)) hp
  | .neg x => quietT (negK (f x)) hp
  | .cint k x => quietT (cintK k (f x)) hp
  | .cstr x => quietT (cstrK (f x)) hp
  | .b2s x => quietT (b2sK (f x)) hp
  | .s2b x => quietT (s2bK (f x)) hp
  | .sls x => quietT (slsK (f x)) hp
  | .mkif t x => some (.iface t (f x), hp)
  | .mkfn fn a b => some (.func fn (a.map f) (b.map f), hp)
  | .slS x lo hi => quietT (slSK (lo.map f) (hi.map f) (f x)) hp
  | .slL sz x lo hi mx => quietT (slLK sz (lo.map f) (hi.map f) (mx.map f) (f x)) hp
  | .faddr off x => quietT (faddrA off (f x)) hp
  | .field k off x => quietT (fieldK k off (f x)) hp
  | .iaddr sz x i => quietT (iaddrK sz (f x) (f i)) hp
  | .ixS x i => quietT (ixSK (f x) (f i)) hp
  | .ext x i => quietT (extK i (f x)) hp
  | .lenS x => quietT (lenSK (f x)) hp
  | .lenL x => quietT (lenLK (f x)) hp
  | .bsl sz ps => quietT (bslT sz .full (ps.map f)) hp
  | .bslf sz ps => quietT (bslT sz .frz (ps.map f)) hp
  | .tas ok t z x => quietT (tasA ok t z (f x)) hp
  | .look ok kk z m k => quietT (lookA (hpF hp) ok kk z (f m) (f k)) hp
  | .lenM m => quietT (lenMT (hpF hp) (f m)) hp
  | .maxi x y => quietT (maxK (f x) (f y)) hp
  | .mini x y => quietT (minK (f x) (f y)) hp
  | .alloc z => some (.ref hp.length 0, hp ++ [.cells z])
  | .allocT t z => some (.ref hp.length 0, hp ++ [.cells z (some t)])
  | .box x => boxT (f x) hp
  | .mkmap => some (.map hp.length, hp ++ [.map []])
  | .store n x v => storeT n (f x) (f v) hp
  | .mset kk m k v => msetT kk (f m) (f k) (f v) hp
  | .app sz bytes e x y => appI sz bytes e (f x) (f y) hp
  | .apps bytes e x y => appsT bytes e (f x) (f y) hp
  | _ => none

def callT (cI : CallI) (g : AVal) (args : List AVal) (hp : List Ob) (ds : List ADef) : Option OpOut :=
  match g with
  | .func (.func g) fs cs => match cI g (fs ++ args ++ cs) hp with
    | some (.ret v, hp') => some (.go v hp' ds)
    | some (.panic v, hp') => some (.pnc v hp')
    | none => none
  | _ => none
def dfrT (g : AVal) (args : List AVal) (hp : List Ob) (ds : List ADef) : Option OpOut :=
  match g with
  | .func fn fs cs => some (.go (.tup []) hp (⟨fn, cs, fs ++ args⟩ :: ds))
  | _ => none
def pncT (x : AVal) (hp : List Ob) : Option OpOut :=
  match x with
  | .iface t v => some (.pnc (.iface t v) hp)
  | _ => none
def outT (r : Option (AVal × List Ob)) (ds : List ADef) : Option OpOut :=
  match r with
  | some (v, hp') => some (.go v hp' ds)
  | none => none

def opStepQ (cI : CallI) (f : Opd → AVal) (op : AOp) (hp : List Ob) (ds : List ADef) : Option OpOut :=
  match op with
  | .call g args => callT cI (f g) (args.map f) hp ds
  | .dfr g args => dfrT (f g) (args.map f) hp ds
  | .pnc x => pncT (f x) hp
  | op => outT (opT f hp op) ds

def runOpsQ (cI : CallI) (n : Nat) (sp : Sl) : List AOper → IT → Option (Option AVal × IT)
  | [], s => some (none, s)
  | o :: rest, s => match gdM n o.gd s.m with
    | some false => runOpsQ cI n sp rest ⟨setM s.m o.dst (.tup []), s.hp, s.ds⟩
    | some true => match opStepQ cI (evM n s.m) o.op s.hp s.ds with
      | some (.go v hp' ds') => runOpsQ cI n sp rest ⟨setM s.m o.dst v, hp', ds'⟩
      | some (.pnc v hp') => some (some v, ⟨sp, hp', s.ds⟩)
      | none => none
    | none => none

def chkQ (n : Nat) (t : IT) (r : AOper) : Bool :=
  match gdM n r.gd t.m with
  | some true => r.op.clo && !(isW r.op) && match opT (evM n t.m) t.hp r.op with
    | some (v, _) => v.eqA (match r.dst with | some d => getM n t.m d | none => .unk)
    | none => false
  | some false => true
  | none => false

def runOpsDQ (cI : CallI) (n : Nat) (sp : Sl) : List AOperD → IT → Option (Option AVal × IT)
  | [], s => some (none, s)
  | o :: rest, s => match gdM n o.op.gd s.m with
    | some false => runOpsDQ cI n sp rest ⟨setM s.m o.op.dst (.tup []), s.hp, s.ds⟩
    | some true => match opStepQ cI (evM n s.m) o.op.op s.hp s.ds with
      | some (.go v hp' ds') => if o.chk.all (chkQ n ⟨setM s.m o.op.dst v, hp', ds'⟩) = true then runOpsDQ cI n sp rest ⟨setM s.m o.op.dst v, hp', ds'⟩ else none
      | some (.pnc v hp') => some (some v, ⟨sp, hp', s.ds⟩)
      | none => none
    | none => none

def forgetM (m : Sl) : List AOper → Sl
  | [] => m
  | o :: rest => forgetM (setM m o.dst .unk) rest
def forgetMD (m : Sl) : List AOperD → Sl
  | [] => m
  | o :: rest => forgetMD (setM m o.op.dst .unk) rest

def dropQ (dr : Bool) (o : Opd) (t : IT) : IT :=
  match dr, o with
  | true, .t i => ⟨(i, .unk) :: t.m, t.hp, t.ds⟩
  | _, _ => t
def regOutQ (d : List Nat) : Option (Option AVal × IT) → Option (IEx × IT)
  | some (none, t) => some (.normal, ⟨pickM d t.m, t.hp, t.ds⟩)
  | some (some v, t) => some (.panic v, t)
  | none => none
def blkOutQ (id : Nat) : Option (IEx × IT) → Option (IEx × IT)
  | some (.exit id', t) => if id' = id then some (.normal, t) else some (.exit id', t)
  | r => r
def scpOutQ : Option (IEx × IT) → Option (IEx × IT)
  | some (.goto _, _) => none
  | r => r
def condQ (v : AVal) (a b : Unit → Option (IEx × IT)) : Option (IEx × IT) :=
  match v with
  | .bool true => a ()
  | .bool false => b ()
  | _ => none

def runCQ (cI : CallI) (n : Nat) : Nat → ACode → IT → Option (IEx × IT)
  | 0, _, _ => none
  | k + 1, c, t => match c with
    | .skip => some (.normal, t)
    | .ret => some (.ret, t)
    | .exit id => some (.exit id, t)
    | .goto l => some (.goto l, t)
    | .label _ => some (.normal, t)
    | .block id b => blkOutQ id (runCQ cI n k b t)
    | .scope b => scpOutQ (runCQ cI n k b t)
    | .loop b => match runCQ cI n k b t with
      | some (.normal, t') => runCQ cI n k (.loop b) t'
      | r => r
    | .seq a b => match runCQ cI n k a t with
      | some (.normal, t') => runCQ cI n k b t'
      | r => r
    | .cond o dr a b => condQ (evM n t.m o) (fun _ => runCQ cI n k a (dropQ dr o t)) (fun _ => runCQ cI n k b (dropQ dr o t))
    | .reg as d => regOutQ d (runOpsQ cI n (forgetM t.m as) as t)
    | .dreg as d => regOutQ d (runOpsDQ cI n (forgetMD t.m as) as t)

/-- All constants in the code are closed. -/
def cloC : ACode → Bool
  | .seq a b => cloC a && cloC b
  | .cond _ _ a b => cloC a && cloC b
  | .block _ b => cloC b
  | .loop b => cloC b
  | .scope b => cloC b
  | .reg as _ => as.all fun o => o.op.clo
  | .dreg as _ => as.all fun o => o.op.op.clo
  | _ => true

def toIS (n : Nat) (t : IT) : IS := ⟨mk n t.m, t.hp, t.ds⟩

theorem getM_eq (n : Nat) (m : Sl) (i : Nat) : (mk n m).getD i .unk = getM n m i := by
  unfold getM
  by_cases h : i < n
  · rw [mk_getD n m i h, show Nat.blt i n = true by rwa [Nat.blt_eq]]; rfl
  · rw [List.getD_eq_getElem?_getD, mk_at, if_neg h, show Nat.blt i n = false by rw [← Bool.not_eq_true, Nat.blt_eq]; exact h]; rfl
theorem evM_eq (n : Nat) (m : Sl) (o : Opd) : ev (mk n m) o = evM n m o := by
  cases o with
  | t i => exact getM_eq n m i
  | c v => rfl
  | f f => rfl
theorem evM_fun (n : Nat) (m : Sl) : ev (mk n m) = evM n m := funext (evM_eq n m)
theorem setM_eq (n : Nat) (m : Sl) (d : Option Nat) (v : AVal) : setTm (mk n m) d v = mk n (setM m d v) := by
  cases d with
  | none => rfl
  | some d => exact mk_set n m d v
theorem gdM_eq (n : Nat) (m : Sl) (gd : Option (Nat × Bool)) : gdA gd (mk n m) = gdM n gd m := by
  cases gd with
  | none => rfl
  | some p =>
    simp only [gdA, gdM, getM_eq]
    generalize getM n m p.1 = v
    cases v <;> first | rfl | (rename_i cs; cases cs <;> rfl)
theorem getTm_eq (n : Nat) (m : Sl) (d : Option Nat) : getTm (mk n m) d = (match d with | some d => getM n m d | none => .unk) := by
  cases d with
  | none => rfl
  | some d => exact getM_eq n m d

theorem binT_eq (op : BinOp) (x y : AVal) : binT op x y = binA op x y := by
  cases x <;> cases y <;> first
    | (simp only [binT, binA]; done)
    | skip
  · rename_i k a k' b
    simp only [binT]
    by_cases h : k = k'
    · subst h
      rw [if_pos rfl]
      cases op <;> first | rfl | (simp only [intB, binA_lss, binA_leq, binA_gtr, binA_geq, binA_eql, binA_neq, binA_add, binA_sub, binA_mul]; done)
    · rw [if_neg h]
      simp only [binA, if_neg h]
  · rename_i a b
    simp only [binT]
    cases op <;> first | rfl | (simp only [strB, binA_sadd, binA_seql, binA_sneq]; done)

theorem quietT_map (v : Option AVal) (hp : List Ob) : quietT v hp = v.map fun v => (v, hp) := by cases v <;> rfl

theorem opT_rop (tm : List AVal) (hp : List Ob) (op : AOp) (hw : isW op = false) : opT (ev tm) hp op = (rop op tm (hpF hp)).map fun v => (v, hp) := by
  cases op <;> first
    | (simp only [isW, reduceCtorEq] at hw; done)
    | (simp only [opT, quietT_map, binT_eq, rop_mv, rop_beq, rop_load, rop_nilck, rop_bin, rop_isnil, rop_sleq, rop_not, rop_neg, rop_cint, rop_cstr, rop_b2s, rop_s2b, rop_sls, rop_mkif, rop_mkfn, rop_slS, rop_slL, rop_faddr, rop_field, rop_iaddr, rop_ixS, rop_ext, rop_lenS, rop_lenL, rop_tas, rop_look, rop_maxi, rop_mini, Option.map_some]; done)
    | skip
  case pick c x y => simp only [opT, quietT_map, rop_pick, pickT]; cases ev tm c <;> rfl
  case build z ps => simp only [opT, quietT_map, rop_build, buildT]; cases fillA z (List.map (fun p => (p.1, p.2.1, ev tm p.2.2)) ps) <;> rfl
  case bsl sz ps => simp only [opT, quietT_map, rop_bsl, bslT]; cases rowsA sz (List.map (ev tm) ps) <;> rfl
  case bslf sz ps => simp only [opT, quietT_map, rop_bslf, bslT]; cases rowsA sz (List.map (ev tm) ps) <;> rfl
  case lenM m =>
    simp only [opT, quietT_map, rop, lenMT]
    rfl
theorem opT_eq (tm : List AVal) (hp : List Ob) (op : AOp) : opT (ev tm) hp op = opI op tm hp := by
  cases hw : isW op with
  | false =>
    rw [opT_rop tm hp op hw]
    cases op <;> first | rfl | (simp only [isW, reduceCtorEq] at hw; done)
  | true =>
    cases op <;> first | rfl | (simp only [isW, reduceCtorEq] at hw; done) | skip
    rename_i kk m k v
    simp only [opT, opI, msetT]
    generalize ev tm m = a
    cases a <;> first | rfl | skip
    simp only
    rename_i i
    cases hp[i]? with
    | none => rfl
    | some ob =>
      cases ob <;> first | rfl | skip
      simp only
      rename_i es
      cases setA kk (ev tm k) (ev tm v) es <;> rfl

section
variable {O : Cfg} {P : Program} {cI : CallI}

theorem opStepQ_ok {n : Nat} {m : Sl} {op : AOp} {hp : List Ob} {ds : List ADef} {r : OpOut} (hc : op.clo = true) (h : opStepQ cI (evM n m) op hp ds = some r) (hb : HB hp) (ht : bndL hp.length (mk n m) = true) :
    opStep cI op (mk n m) hp ds = some r := by
  rw [← evM_fun] at h
  have quiet : outT (opT (ev (mk n m)) hp op) ds = some r → (match opI op (mk n m) hp with
    | some (v, hp') => if v.bnd hp'.length = true then some (OpOut.go v hp' ds) else none
    | none => none) = some r := by
    intro hq
    rw [opT_eq] at hq
    cases ho : opI op (mk n m) hp with
    | none => rw [ho] at hq; cases hq
    | some p =>
      obtain ⟨v, hp'⟩ := p
      rw [ho] at hq
      simp only at hq ⊢
      rw [if_pos (opI_vbnd hc ho hb ht)]
      exact hq
  cases op with
  | call f args => exact h
  | dfr f args => exact h
  | pnc x => exact h
  | _ => exact quiet h

theorem runOpsQ_ok (hcI : CallOkI O P cI) {n : Nat} {sp : Sl} : ∀ (as : List AOper) (t t' : IT) (out : Option AVal), runOpsQ cI n sp as t = some (out, t') → (as.all fun o => o.op.clo) = true → IOk (toIS n t) → runOps cI (mk n sp) as (toIS n t) = some (out, toIS n t')
  | [], t, t', out, h, hc, hI => by
    simp only [runOpsQ, Option.some.injEq, Prod.mk.injEq] at h
    obtain ⟨rfl, rfl⟩ := h
    rfl
  | o :: rest, t, t', out, h, hc, hI => by
    rw [List.all_cons, Bool.and_eq_true] at hc
    simp only [runOpsQ] at h
    simp only [runOps, toIS, gdM_eq]
    have hI' : ∀ (v : AVal) hp' ds', OutOk t.hp.length t.ds (.go v hp' ds') → IOk (toIS n ⟨setM t.m o.dst v, hp', ds'⟩) := fun v hp' ds' ho => by
      obtain ⟨o1, o2, o3, o4⟩ := ho
      exact ⟨o1, by show bndL hp'.length (mk n (setM t.m o.dst v)) = true; rw [← setM_eq]; exact setTm_bnd (bndL_le o2 _ hI.tm) o3, o4⟩
    split at h
    · rename_i hg
      rw [hg]
      simp only [setM_eq]
      exact runOpsQ_ok hcI rest ⟨setM t.m o.dst (.tup []), t.hp, t.ds⟩ t' out h hc.2 (hI' _ _ _ ⟨hI.hp, Nat.le_refl _, rfl, hI.ds⟩)
    · rename_i hg
      rw [hg]
      simp only [hc.1, if_true]
      split at h
      · rename_i v hp' ds' hs
        have h1 := opStepQ_ok hc.1 hs hI.hp hI.tm
        rw [h1]
        simp only [setM_eq]
        exact runOpsQ_ok hcI rest ⟨setM t.m o.dst v, hp', ds'⟩ t' out h hc.2 (hI' _ _ _ (opStep_bnd hcI hc.1 h1 hI.hp hI.tm hI.ds))
      · rename_i v hp' hs
        have h1 := opStepQ_ok hc.1 hs hI.hp hI.tm
        rw [h1]
        simp only [Option.some.injEq, Prod.mk.injEq] at h ⊢
        obtain ⟨rfl, rfl⟩ := h
        exact ⟨rfl, rfl⟩
      · cases h
    · cases h

theorem chkQ_ok {n : Nat} {t : IT} {r : AOper} (h : chkQ n t r = true) : chkI (toIS n t) r = true := by
  unfold chkQ at h
  simp only [chkI, toIS, gdM_eq, getTm_eq]
  generalize gdM n r.gd t.m = b at h
  cases b with
  | none => cases h
  | some b =>
    cases b
    · rfl
    · simp only at h ⊢
      rw [Bool.and_eq_true, Bool.and_eq_true] at h
      obtain ⟨⟨h1, h2⟩, h3⟩ := h
      rw [← evM_fun, opT_rop (mk n t.m) t.hp r.op (by simpa using h2)] at h3
      rw [h1, Bool.true_and]
      cases hr : rop r.op (mk n t.m) (hpF t.hp) with
      | none => rw [hr] at h3; cases h3
      | some v => rw [hr] at h3; exact h3

theorem runOpsDQ_ok (hcI : CallOkI O P cI) {n : Nat} {sp : Sl} : ∀ (as : List AOperD) (t t' : IT) (out : Option AVal), runOpsDQ cI n sp as t = some (out, t') → (as.all fun o => o.op.op.clo) = true → IOk (toIS n t) → runOpsD cI (mk n sp) as (toIS n t) = some (out, toIS n t')
  | [], t, t', out, h, hc, hI => by
    simp only [runOpsDQ, Option.some.injEq, Prod.mk.injEq] at h
    obtain ⟨rfl, rfl⟩ := h
    rfl
  | o :: rest, t, t', out, h, hc, hI => by
    rw [List.all_cons, Bool.and_eq_true] at hc
    simp only [runOpsDQ] at h
    simp only [runOpsD, toIS, gdM_eq]
    have hI' : ∀ (v : AVal) hp' ds', OutOk t.hp.length t.ds (.go v hp' ds') → IOk (toIS n ⟨setM t.m o.op.dst v, hp', ds'⟩) := fun v hp' ds' ho => by
      obtain ⟨o1, o2, o3, o4⟩ := ho
      exact ⟨o1, by show bndL hp'.length (mk n (setM t.m o.op.dst v)) = true; rw [← setM_eq]; exact setTm_bnd (bndL_le o2 _ hI.tm) o3, o4⟩
    split at h
    · rename_i hg
      rw [hg]
      simp only [setM_eq]
      exact runOpsDQ_ok hcI rest ⟨setM t.m o.op.dst (.tup []), t.hp, t.ds⟩ t' out h hc.2 (hI' _ _ _ ⟨hI.hp, Nat.le_refl _, rfl, hI.ds⟩)
    · rename_i hg
      rw [hg]
      simp only [hc.1, if_true]
      split at h
      · rename_i v hp' ds' hs
        split at h
        · rename_i hk
          have h1 := opStepQ_ok hc.1 hs hI.hp hI.tm
          rw [h1]
          simp only [setM_eq]
          have hk' : o.chk.all (chkI ⟨mk n (setM t.m o.op.dst v), hp', ds'⟩) = true := by
            rw [List.all_eq_true] at hk ⊢
            exact fun r hr => chkQ_ok (hk r hr)
          rw [hk']
          simp only [if_true]
          exact runOpsDQ_ok hcI rest ⟨setM t.m o.op.dst v, hp', ds'⟩ t' out h hc.2 (hI' _ _ _ (opStep_bnd hcI hc.1 h1 hI.hp hI.tm hI.ds))
        · cases h
      · rename_i v hp' hs
        have h1 := opStepQ_ok hc.1 hs hI.hp hI.tm
        rw [h1]
        simp only [Option.some.injEq, Prod.mk.injEq] at h ⊢
        obtain ⟨rfl, rfl⟩ := h
        exact ⟨rfl, rfl⟩
      · cases h
    · cases h

theorem forgetM_eq (n : Nat) : ∀ (as : List AOper) (m : Sl), forgetT (mk n m) as = mk n (forgetM m as)
  | [], m => rfl
  | o :: rest, m => by rw [forgetT, forgetM, setM_eq, forgetM_eq n rest]
theorem forgetMD_eq (n : Nat) : ∀ (as : List AOperD) (m : Sl), forgetTD (mk n m) as = mk n (forgetMD m as)
  | [], m => rfl
  | o :: rest, m => by rw [forgetTD, forgetMD, setM_eq, forgetMD_eq n rest]
theorem dropQ_eq (n : Nat) (dr : Bool) (o : Opd) (t : IT) : dropI dr o (toIS n t) = toIS n (dropQ dr o t) := by
  cases dr with
  | false => rfl
  | true =>
    cases o with
    | t i => simp only [dropI, dropQ, toIS, mk_set]
    | c v => rfl
    | f f => rfl

theorem runCQ_ok (hcI : CallOkI O P cI) {n : Nat} : ∀ (k : Nat) (c : ACode) (t t' : IT) (out : IEx), runCQ cI n k c t = some (out, t') → cloC c = true → IOk (toIS n t) → runC cI k c (toIS n t) = some (out, toIS n t') := by
  intro k
  induction k with
  | zero => intro c t t' out h; simp [runCQ] at h
  | succ k ih =>
    intro c t t' out h hc hI
    cases c with
    | skip => simp only [runCQ, Option.some.injEq, Prod.mk.injEq] at h; obtain ⟨rfl, rfl⟩ := h; rfl
    | ret => simp only [runCQ, Option.some.injEq, Prod.mk.injEq] at h; obtain ⟨rfl, rfl⟩ := h; rfl
    | exit id => simp only [runCQ, Option.some.injEq, Prod.mk.injEq] at h; obtain ⟨rfl, rfl⟩ := h; rfl
    | goto id => simp only [runCQ, Option.some.injEq, Prod.mk.injEq] at h; obtain ⟨rfl, rfl⟩ := h; rfl
    | label id => simp only [runCQ, Option.some.injEq, Prod.mk.injEq] at h; obtain ⟨rfl, rfl⟩ := h; rfl
    | block id b =>
      simp only [runCQ] at h
      simp only [runC]
      cases hr : runCQ cI n k b t with
      | none => rw [hr] at h; simp [blkOutQ] at h
      | some p =>
        obtain ⟨o1, t1⟩ := p
        rw [hr] at h
        rw [ih b t t1 o1 hr hc hI]
        cases o1 with
        | exit i =>
          simp only [blkOutQ] at h
          simp only [blkOut]
          split at h <;> rename_i e
          · rw [if_pos e]; cases h; rfl
          · rw [if_neg e]; cases h; rfl
        | _ => simp only [blkOutQ, Option.some.injEq, Prod.mk.injEq] at h; obtain ⟨rfl, rfl⟩ := h; rfl
    | scope b =>
      simp only [runCQ] at h
      simp only [runC]
      cases hr : runCQ cI n k b t with
      | none => rw [hr] at h; simp [scpOutQ] at h
      | some p =>
        obtain ⟨o1, t1⟩ := p
        rw [hr] at h
        rw [ih b t t1 o1 hr hc hI]
        cases o1 with
        | goto i => simp [scpOutQ] at h
        | _ => simp only [scpOutQ, Option.some.injEq, Prod.mk.injEq] at h; obtain ⟨rfl, rfl⟩ := h; rfl
    | loop b =>
      simp only [runCQ] at h
      simp only [runC]
      cases hr : runCQ cI n k b t with
      | none => rw [hr] at h; simp at h
      | some p =>
        obtain ⟨o1, t1⟩ := p
        rw [hr] at h
        have h1 := ih b t t1 o1 hr hc hI
        rw [h1]
        cases o1 with
        | normal =>
          simp only at h ⊢
          exact ih (.loop b) t1 t' out h hc (runC_bnd hcI k b _ _ _ h1 hI).1
        | _ => simp only [Option.some.injEq, Prod.mk.injEq] at h ⊢; obtain ⟨rfl, rfl⟩ := h; exact ⟨rfl, rfl⟩
    | seq a b =>
      simp only [cloC, Bool.and_eq_true] at hc
      simp only [runCQ] at h
      simp only [runC]
      cases hr : runCQ cI n k a t with
      | none => rw [hr] at h; simp at h
      | some p =>
        obtain ⟨o1, t1⟩ := p
        rw [hr] at h
        have h1 := ih a t t1 o1 hr hc.1 hI
        rw [h1]
        cases o1 with
        | normal =>
          simp only at h ⊢
          exact ih b t1 t' out h hc.2 (runC_bnd hcI k a _ _ _ h1 hI).1
        | _ => simp only [Option.some.injEq, Prod.mk.injEq] at h ⊢; obtain ⟨rfl, rfl⟩ := h; exact ⟨rfl, rfl⟩
    | cond o dr a b =>
      simp only [cloC, Bool.and_eq_true] at hc
      simp only [runCQ] at h
      simp only [runC, dropQ_eq]
      have hd : IOk (toIS n (dropQ dr o t)) := by rw [← dropQ_eq]; exact (dropI_iok hI dr o).1
      show condI (ev (mk n t.m) o) _ _ = _
      rw [evM_eq]
      unfold condQ at h
      unfold condI
      split at h
      · rename_i e; rw [e]; exact ih a _ t' out h hc.1 hd
      · rename_i e; rw [e]; exact ih b _ t' out h hc.2 hd
      · cases h
    | reg as d =>
      simp only [runCQ] at h
      simp only [runC]
      cases hr : runOpsQ cI n (forgetM t.m as) as t with
      | none => rw [hr] at h; simp [regOutQ] at h
      | some p =>
        obtain ⟨o1, t1⟩ := p
        rw [hr] at h
        have h1 := runOpsQ_ok hcI as t t1 o1 hr hc hI
        rw [← forgetM_eq] at h1
        show regOut d (runOps cI (forgetT (mk n t.m) as) as (toIS n t)) = _
        rw [h1]
        cases o1 with
        | none =>
          simp only [regOutQ, Option.some.injEq, Prod.mk.injEq] at h; obtain ⟨rfl, rfl⟩ := h
          simp only [regOut, toIS, mk_kill]
        | some v => simp only [regOutQ, Option.some.injEq, Prod.mk.injEq] at h; obtain ⟨rfl, rfl⟩ := h; rfl
    | dreg as d =>
      simp only [runCQ] at h
      simp only [runC]
      cases hr : runOpsDQ cI n (forgetMD t.m as) as t with
      | none => rw [hr] at h; simp [regOutQ] at h
      | some p =>
        obtain ⟨o1, t1⟩ := p
        rw [hr] at h
        have h1 := runOpsDQ_ok hcI as t t1 o1 hr hc hI
        rw [← forgetMD_eq] at h1
        show regOut d (runOpsD cI (forgetTD (mk n t.m) as) as (toIS n t)) = _
        rw [h1]
        cases o1 with
        | none =>
          simp only [regOutQ, Option.some.injEq, Prod.mk.injEq] at h; obtain ⟨rfl, rfl⟩ := h
          simp only [regOut, toIS, mk_kill]
        | some v => simp only [regOutQ, Option.some.injEq, Prod.mk.injEq] at h; obtain ⟨rfl, rfl⟩ := h; rfl

/-! ### Functions -/
def resM (n : Nat) (m : Sl) (hp : List Ob) : List ARes → Option (List AVal)
  | [] => some []
  | .tmp t :: rest => (resM n m hp rest).map (getM n m t :: ·)
  | .cell k t :: rest => match loadA (hpF hp) k (getM n m t), resM n m hp rest with
    | some v, some r => some (v :: r)
    | _, _ => none
theorem resM_eq (n : Nat) (m : Sl) (hp : List Ob) (ds : List ADef) : ∀ ars, resA ⟨mk n m, hpF hp, ds⟩ ars = resM n m hp ars
  | [] => rfl
  | .tmp t :: rest => by simp only [resA, resM, getM_eq, resM_eq n m hp ds rest]
  | .cell k t :: rest => by
    simp only [resA, resM, getM_eq, resM_eq n m hp ds rest]
    cases loadA (hpF hp) k (getM n m t) <;> cases resM n m hp rest <;> rfl

def leavesQ (dI : DCallI) (ars : List ARes) (n : Nat) (m : Sl) : List ADef → Option AVal → List Ob → Option (ARet × List Ob)
  | [], none, hp => match resM n m hp ars with
    | some vs => some (.ret (one1 vs), hp)
    | none => none
  | [], some v, hp => some (.panic v, hp)
  | d :: ds, p, hp => match d.fn with
    | .func g => match dI g (d.args ++ d.caps) p hp with
      | some hp' => leavesQ dI ars n m ds none hp'
      | none => none
    | _ => none

theorem leavesQ_ok {dI : DCallI} (hdI : DCallOk O P dI) {ars : List ARes} {n : Nat} {m : Sl} : ∀ (ds : List ADef) (p : Option AVal) (hp hp' : List Ob) (r : ARet), leavesQ dI ars n m ds p hp = some (r, hp') → HB hp → bndL hp.length (mk n m) = true → bndDs hp.length ds = true → (∀ v, p = some v → v.bnd hp.length = true) →
    leavesI dI ars (mk n m) ds p hp = some (r, hp')
  | [], none, hp, hp', r, h, hb, ht, hd, hp0 => by
    simp only [leavesQ] at h
    simp only [leavesI]
    have e := resM_eq n m hp [] ars
    rw [e]
    cases hr : resM n m hp ars with
    | none => rw [hr] at h; cases h
    | some vs =>
      rw [hr] at h e
      simp only at h ⊢
      rw [if_pos (one1_bnd (resA_bnd hb ht e))]
      exact h
  | [], some v, hp, hp', r, h, hb, ht, hd, hp0 => h
  | d :: ds, p, hp, hp', r, h, hb, ht, hd, hp0 => by
    simp only [leavesQ] at h
    simp only [leavesI]
    split at h
    · rename_i g hg
      rw [hg]
      simp only
      split at h
      · rename_i hp1 h1
        rw [h1]
        simp only
        have hdd : (bndL hp.length d.caps = true ∧ bndL hp.length d.args = true) ∧ bndDs hp.length ds = true := by
          simpa only [bndDs, List.all_cons, Bool.and_eq_true] using hd
        obtain ⟨k1, k2, k3⟩ := hdI g _ p hp hp1 h1 hb (bndL_app hdd.1.2 hdd.1.1) hp0
        exact leavesQ_ok hdI ds none hp1 hp' r h k1 (bndL_le k2 _ ht) (bndDs_le k2 hdd.2) (fun v e => by cases e)
      · cases h
    · cases h

def fnQ (cI : CallI) (dI : DCallI) (fuel : Nat) (F : AFn) (args : List AVal) (hp : List Ob) : Option (ARet × List Ob) :=
  if cloC F.code = true then
    if Nat.ble args.length F.n = true then
      match runCQ cI F.n fuel F.code ⟨argM 0 args, hp, []⟩ with
      | some (.normal, t) => leavesQ dI F.res F.n t.m t.ds none t.hp
      | some (.ret, t) => leavesQ dI F.res F.n t.m t.ds none t.hp
      | some (.panic v, t) => leavesQ dI F.res F.n t.m t.ds (some v) t.hp
      | _ => none
    else none
  else none

def rcvQ (cI : CallI) (fuel : Nat) (F : RFn) (args : List AVal) (p : Option AVal) (hp : List Ob) : Option (List Ob) :=
  if cloC F.code = true then
    if Nat.ble args.length F.n = true then
      match runCQ cI F.n fuel F.code ⟨(F.t, p.getD .nilif) :: argM 0 args, hp, []⟩ with
      | some (.normal, t) => if t.ds.isEmpty = true then some t.hp else none
      | some (.ret, t) => if t.ds.isEmpty = true then some t.hp else none
      | _ => none
    else none
  else none

theorem fnQ_ok (hcI : CallOkI O P cI) {dI : DCallI} (hdI : DCallOk O P dI) {fuel : Nat} {F : AFn} {args : List AVal} {hp hp' : List Ob} {r : ARet} (h : fnQ cI dI fuel F args hp = some (r, hp')) (hb : HB hp) (ha : bndL hp.length args = true) :
    fnI cI dI fuel F args hp = some (r, hp') := by
  unfold fnQ at h
  split at h
  · rename_i hc
    split at h
    · rename_i hn
      unfold fnI
      rw [mk_args F.n args hn]
      have hI : IOk (toIS F.n ⟨argM 0 args, hp, []⟩) := ⟨hb, by
        show bndL hp.length (mk F.n (argM 0 args)) = true
        rw [← mk_args F.n args hn]; exact bndL_app ha (replicate_bnd _ _), rfl⟩
      have fin : ∀ (out : IEx) (t : IT) (p : Option AVal), runCQ cI F.n fuel F.code ⟨argM 0 args, hp, []⟩ = some (out, t) → leavesQ dI F.res F.n t.m t.ds p t.hp = some (r, hp') → (∀ v, p = some v → out = .panic v) →
          runC cI fuel F.code ⟨mk F.n (argM 0 args), hp, []⟩ = some (out, toIS F.n t) ∧ leavesI dI F.res (mk F.n t.m) t.ds p t.hp = some (r, hp') := fun out t p hr hl hpo => by
        have h1 := runCQ_ok hcI fuel F.code _ t out hr hc hI
        obtain ⟨b1, b2, b3⟩ := runC_bnd hcI fuel F.code _ _ out h1 hI
        exact ⟨h1, leavesQ_ok hdI t.ds p t.hp hp' r hl b1.hp b1.tm b1.ds (fun v e => by have := hpo v e; subst this; exact b3)⟩
      split at h
      · rename_i t hr
        obtain ⟨k1, k2⟩ := fin _ t none hr h (fun v e => by cases e)
        rw [k1]; exact k2
      · rename_i t hr
        obtain ⟨k1, k2⟩ := fin _ t none hr h (fun v e => by cases e)
        rw [k1]; exact k2
      · rename_i v t hr
        obtain ⟨k1, k2⟩ := fin _ t (some v) hr h (fun v' e => by cases e; rfl)
        rw [k1]; exact k2
      · cases h
    · cases h
  · cases h

theorem rcvQ_ok (hcI : CallOkI O P cI) {fuel : Nat} {F : RFn} {args : List AVal} {p : Option AVal} {hp hp' : List Ob} (h : rcvQ cI fuel F args p hp = some hp') (hb : HB hp) (ha : bndL hp.length args = true) (hpb : ∀ v, p = some v → v.bnd hp.length = true) :
    rcvI cI fuel F args p hp = some hp' := by
  have hpv : (p.getD .nilif).bnd hp.length = true := by
    cases p with
    | none => rfl
    | some v => exact hpb v rfl
  unfold rcvQ at h
  split at h
  · rename_i hc
    split at h
    · rename_i hn
      unfold rcvI
      rw [mk_args F.n args hn, setTm_some, mk_set]
      have hI : IOk (toIS F.n ⟨(F.t, p.getD .nilif) :: argM 0 args, hp, []⟩) := ⟨hb, by
        show bndL hp.length (mk F.n ((F.t, p.getD .nilif) :: argM 0 args)) = true
        rw [← mk_set, ← mk_args F.n args hn]
        exact setTm_bnd (d := some F.t) (bndL_app ha (replicate_bnd _ _)) hpv, rfl⟩
      split at h
      · rename_i t hr
        have h1 := runCQ_ok hcI fuel F.code _ t _ hr hc hI
        simp only [toIS] at h1
        rw [h1]; exact h
      · rename_i t hr
        have h1 := runCQ_ok hcI fuel F.code _ t _ hr hc hI
        simp only [toIS] at h1
        rw [h1]; exact h
      · cases h
    · cases h
  · cases h

def dcQ (P : Program) (T : KTabs) (cI : CallI) (fuel : Nat) : DCallI := fun g args p hp =>
  match lookF T.rc g with
  | some ks => match compRcv P ks g with
    | some F => rcvQ cI fuel F args p hp
    | none => none
  | none => none

/-- A call, quicker. -/
def callQ (P : Program) (T : KTabs) (orc : CallI) (fuel : Nat) : Nat → CallI
  | 0, _, _, _ => none
  | n + 1, g, args, hp => match lookF T.fn g with
    | some ks => match compFn P ks g with
      | some F => fnQ (callQ P T orc fuel n) (dcQ P T (callQ P T orc fuel n) fuel) fuel F args hp
      | none => none
    | none => orc g args hp

theorem callQ_ok (hm : P.follows .mixedOrders = true) {T : KTabs} {orc : CallI} (ho : CallOkI O P orc) (fuel : Nat) : ∀ n, CallOkI O P (callQ P T orc fuel n) := by
  intro n
  induction n with
  | zero => intro g args hp r hp' h; simp [callQ] at h
  | succ n ih =>
    intro g args hp r hp' h hb ha
    simp only [callQ] at h
    split at h
    · split at h
      · rename_i F hF
        have hdI : DCallOk O P (dcQ P T (callQ P T orc fuel n) fuel) := fun g args p hp hp' h hb ha hpb => by
          unfold dcQ at h
          split at h
          · split at h
            · rename_i F' hF'
              exact rcvI_ok hm ih hF' (rcvQ_ok ih h hb ha hpb) hb ha hpb
            · cases h
          · cases h
        exact fnI_ok hm ih hdI hF (fnQ_ok ih hdI h hb ha) hb ha
      · cases h
    · exact ho g args hp r hp' h hb ha

/-- What the interpreter answers from nothing. -/
theorem runQ_ans (hm : P.follows .mixedOrders = true) {T : KTabs} {orc : CallI} (ho : CallOkI O P orc) {fuel n : Nat} {g : FuncId} {b : Bool}
    (h : ansI (callQ P T orc fuel n g [] []) = some b) (H : Hp) : ACalls O P g [] H fun r _ => r = .ret (.bool b) := by
  unfold ansI at h
  split at h
  · rename_i b' hp' hc
    cases h
    obtain ⟨_, _, _, k⟩ := callQ_ok hm ho fuel n g [] [] _ hp' hc (fun o ho => by cases ho) rfl
    refine (k (fun i => i) H ⟨fun i o h _ => by simp at h, fun i j o o' h => by simp at h⟩).mono fun r H' ⟨ρ', _, _, e⟩ => ?_
    subst e; rfl
  · cases h
end
end Go.Eng

