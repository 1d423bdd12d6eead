/- How the preconditions are evaluated: what 'cbv' leaves as it stands, and what it puts for it. -/
import Derived.Test.YtkcljempplchkaaDoorG01E11E18
set_option linter.unusedVariables false
set_option linter.unusedSimpArgs false
namespace Go.Eng

def iLt (a b : Int) : Bool := decide (a < b)
def iLe (a b : Int) : Bool := decide (a ≤ b)
def iEq (a b : Int) : Bool := a == b
def sEq (a b : List UInt8) : Bool := a == b
def bEq (a b : Bool) : Bool := a == b
def bNot (a : Bool) : Bool := !a
def bXor (a b : Bool) : Bool := xor a b
def wAdd (k : IntKind) (a b : Int) : Int := k.wrap (a + b)
def wSub (k : IntKind) (a b : Int) : Int := k.wrap (a - b)
def wMul (k : IntKind) (a b : Int) : Int := k.wrap (a * b)
def wInt (k : IntKind) (a : Int) : Int := k.wrap a
def wNeg (k : IntKind) (a : Int) : Int := k.wrap (0 - a)
def sLen (s : List UInt8) : Int := s.length
def rLen (l : List (List AVal)) : Int := l.length
def uC (b : UInt8) : Int := b.toNat
def iMax (a b : Int) : Int := if b > a then b else a
def iMin (a b : Int) : Int := if b < a then b else a
/-- A string's byte. -/
def ixK (s : List UInt8) (n : Int) : Option AVal := if 0 ≤ n then (s[n.toNat]?).map fun b => .int .u8 (uC b) else none
def catK (a b : List UInt8) : Option AVal := if a.length + b.length ≤ 9223372036854775807 then some (.str (a ++ b)) else none


theorem condL_intro {t : Bool} {A B : Unit → Prop} (h1 : t = true → A ()) (h2 : t = false → B ()) : condL t A B := ⟨h1, h2⟩

def quiet (v : Option AVal) (R : Res) (H : Hp) (ds : List ADef) : Prop :=
  match v with
  | some v => R v H ds
  | none => False
theorem quiet_some (v : AVal) (R : Res) (H : Hp) (ds : List ADef) : quiet (some v) R H ds = R v H ds := rfl
def wrote (H' : Option Hp) (R : Res) (ds : List ADef) : Prop :=
  match H' with
  | some H' => R (.tup []) H' ds
  | none => False
theorem wrote_some (H' : Hp) (R : Res) (ds : List ADef) : wrote (some H') R ds = R (.tup []) H' ds := rfl
def newCellsT (t : TypeId) (cs : List AVal) (H : Hp) (R : Res) (ds : List ADef) : Prop := ∀ id, H id = none → R (.ref id 0) (H.upd id (.cells cs (some t))) ds
def newCells (cs : List AVal) (H : Hp) (R : Res) (ds : List ADef) : Prop := ∀ id, H id = none → R (.ref id 0) (H.upd id (.cells cs)) ds
def newMap (H : Hp) (R : Res) (ds : List ADef) : Prop := ∀ id, H id = none → R (.map id) (H.upd id (.map [])) ds
def boxed (v : AVal) (H : Hp) (R : Res) (ds : List ADef) : Prop := v.known = true ∧ newCells v.cells H R ds
def called (O : Cfg) (P : Program) (f : AVal) (args : List AVal) (H : Hp) (ds : List ADef) (R E : Res) : Prop :=
  match f with
  | .func (.func g) fs cs => ACalls O P g (fs ++ args ++ cs) H (callPost ds R E)
  | _ => False
theorem called_func (O : Cfg) (P : Program) (g : FuncId) (fs cs args : List AVal) (H : Hp) (ds : List ADef) (R E : Res) : called O P (.func (.func g) fs cs) args H ds R E = ACalls O P g (fs ++ args ++ cs) H (callPost ds R E) := rfl
def defers (f : AVal) (args : List AVal) (H : Hp) (ds : List ADef) (R : Res) : Prop :=
  match f with
  | .func fn fs cs => R (.tup []) H (⟨fn, cs, fs ++ args⟩ :: ds)
  | _ => False
theorem defers_func (fn : Fn) (fs cs args : List AVal) (H : Hp) (ds : List ADef) (R : Res) : defers (.func fn fs cs) args H ds R = R (.tup []) H (⟨fn, cs, fs ++ args⟩ :: ds) := rfl
def panicks (v : AVal) (H : Hp) (ds : List ADef) (E : Res) : Prop :=
  match v with
  | .iface t v => E (.iface t v) H ds
  | _ => False
theorem panicks_iface (t : TypeId) (v : AVal) (H : Hp) (ds : List ADef) (E : Res) : panicks (.iface t v) H ds E = E (.iface t v) H ds := rfl

section
variable (O : Cfg) (P : Program) (tm : List AVal) (H : Hp) (ds : List ADef) (R E : Res)
theorem opR_mv (x : Opd) : opR O P (.mv x) tm H ds R E = quiet (rop (.mv x) tm H) R H ds := rfl
theorem opR_pick (c x y : Opd) : opR O P (.pick c x y) tm H ds R E = quiet (rop (.pick c x y) tm H) R H ds := rfl
theorem opR_build (z : List AVal) (ps : List (Nat × Nat × Opd)) : opR O P (.build z ps) tm H ds R E = quiet (rop (.build z ps) tm H) R H ds := rfl
theorem opR_load (k : Option Nat) (x : Opd) : opR O P (.load k x) tm H ds R E = quiet (rop (.load k x) tm H) R H ds := rfl
theorem opR_nilck (x : Opd) : opR O P (.nilck x) tm H ds R E = quiet (rop (.nilck x) tm H) R H ds := rfl
theorem opR_bin (op : BinOp) (x y : Opd) : opR O P (.bin op x y) tm H ds R E = quiet (rop (.bin op x y) tm H) R H ds := rfl
theorem opR_beq (ng : Bool) (x y : Opd) : opR O P (.beq ng x y) tm H ds R E = quiet (rop (.beq ng x y) tm H) R H ds := rfl
theorem opR_isnil (ng : Bool) (nk : NK) (x : Opd) : opR O P (.isnil ng nk x) tm H ds R E = quiet (rop (.isnil ng nk x) tm H) R H ds := rfl
theorem opR_sleq (ng : Bool) (ks : List (Nat × KK)) (x y : Opd) : opR O P (.sleq ng ks x y) tm H ds R E = quiet (rop (.sleq ng ks x y) tm H) R H ds := rfl
theorem opR_not (x : Opd) : opR O P (.not x) tm H ds R E = quiet (rop (.not x) tm H) R H ds := rfl
theorem opR_neg (x : Opd) : opR O P (.neg x) tm H ds R E = quiet (rop (.neg x) tm H) R H ds := rfl
theorem opR_cint (k : IntKind) (x : Opd) : opR O P (.cint k x) tm H ds R E = quiet (rop (.cint k x) tm H) R H ds := rfl
theorem opR_cstr (x : Opd) : opR O P (.cstr x) tm H ds R E = quiet (rop (.cstr x) tm H) R H ds := rfl
theorem opR_b2s (x : Opd) : opR O P (.b2s x) tm H ds R E = quiet (rop (.b2s x) tm H) R H ds := rfl
theorem opR_s2b (x : Opd) : opR O P (.s2b x) tm H ds R E = quiet (rop (.s2b x) tm H) R H ds := rfl
theorem opR_sls (x : Opd) : opR O P (.sls x) tm H ds R E = quiet (rop (.sls x) tm H) R H ds := rfl
theorem opR_mkif (t : TypeId) (x : Opd) : opR O P (.mkif t x) tm H ds R E = quiet (rop (.mkif t x) tm H) R H ds := rfl
theorem opR_mkfn (fn : Fn) (f c : List Opd) : opR O P (.mkfn fn f c) tm H ds R E = quiet (rop (.mkfn fn f c) tm H) R H ds := rfl
theorem opR_slS (x : Opd) (lo hi : Option Opd) : opR O P (.slS x lo hi) tm H ds R E = quiet (rop (.slS x lo hi) tm H) R H ds := rfl
theorem opR_slL (sz : Nat) (x : Opd) (lo hi mx : Option Opd) : opR O P (.slL sz x lo hi mx) tm H ds R E = quiet (rop (.slL sz x lo hi mx) tm H) R H ds := rfl
theorem opR_faddr (off : Nat) (x : Opd) : opR O P (.faddr off x) tm H ds R E = quiet (rop (.faddr off x) tm H) R H ds := rfl
theorem opR_field (k : Option Nat) (off : Nat) (x : Opd) : opR O P (.field k off x) tm H ds R E = quiet (rop (.field k off x) tm H) R H ds := rfl
theorem opR_iaddr (sz : Nat) (x i : Opd) : opR O P (.iaddr sz x i) tm H ds R E = quiet (rop (.iaddr sz x i) tm H) R H ds := rfl
theorem opR_ixS (x i : Opd) : opR O P (.ixS x i) tm H ds R E = quiet (rop (.ixS x i) tm H) R H ds := rfl
theorem opR_ext (x : Opd) (i : Nat) : opR O P (.ext x i) tm H ds R E = quiet (rop (.ext x i) tm H) R H ds := rfl
theorem opR_lenS (x : Opd) : opR O P (.lenS x) tm H ds R E = quiet (rop (.lenS x) tm H) R H ds := rfl
theorem opR_lenL (x : Opd) : opR O P (.lenL x) tm H ds R E = quiet (rop (.lenL x) tm H) R H ds := rfl
theorem opR_bsl (sz : Nat) (ps : List Opd) : opR O P (.bsl sz ps) tm H ds R E = quiet (rop (.bsl sz ps) tm H) R H ds := rfl
theorem opR_bslf (sz : Nat) (ps : List Opd) : opR O P (.bslf sz ps) tm H ds R E = quiet (rop (.bslf sz ps) tm H) R H ds := rfl
theorem opR_tas (ok : Bool) (t : TypeId) (z : AVal) (x : Opd) : opR O P (.tas ok t z x) tm H ds R E = quiet (rop (.tas ok t z x) tm H) R H ds := rfl
theorem opR_look (ok : Bool) (kk : KK) (z : AVal) (m k : Opd) : opR O P (.look ok kk z m k) tm H ds R E = quiet (rop (.look ok kk z m k) tm H) R H ds := rfl
theorem opR_lenM (m : Opd) : opR O P (.lenM m) tm H ds R E = quiet (rop (.lenM m) tm H) R H ds := rfl
theorem opR_maxi (x y : Opd) : opR O P (.maxi x y) tm H ds R E = quiet (rop (.maxi x y) tm H) R H ds := rfl
theorem opR_mini (x y : Opd) : opR O P (.mini x y) tm H ds R E = quiet (rop (.mini x y) tm H) R H ds := rfl
@[go_sem] theorem opR_allocT (t : TypeId) (z : List AVal) : opR O P (.allocT t z) tm H ds R E = newCellsT t z H R ds := rfl
theorem opR_alloc (z : List AVal) : opR O P (.alloc z) tm H ds R E = newCells z H R ds := rfl
theorem opR_box (x : Opd) : opR O P (.box x) tm H ds R E = boxed (ev tm x) H R ds := rfl
theorem opR_mkmap : opR O P .mkmap tm H ds R E = newMap H R ds := rfl
theorem opR_store (n : Nat) (x v : Opd) : opR O P (.store n x v) tm H ds R E = wrote (storeA H n (ev tm x) (ev tm v)) R ds := rfl
theorem opR_mset (kk : KK) (m k v : Opd) : opR O P (.mset kk m k v) tm H ds R E = wrote (msetA H kk (ev tm m) (ev tm k) (ev tm v)) R ds := rfl
theorem opR_app (sz bytes : Nat) (e : TypeId) (x y : Opd) : opR O P (.app sz bytes e x y) tm H ds R E = appP sz bytes e (ev tm x) (ev tm y) H ds R := rfl
@[go_sem] theorem opR_apps (bytes : Nat) (e : TypeId) (x y : Opd) : opR O P (.apps bytes e x y) tm H ds R E = appsP bytes e (ev tm x) (ev tm y) H ds R := rfl
theorem opR_call (f : Opd) (args : List Opd) : opR O P (.call f args) tm H ds R E = called O P (ev tm f) (args.map (ev tm)) H ds R E := rfl
theorem opR_dfr (f : Opd) (args : List Opd) : opR O P (.dfr f args) tm H ds R E = defers (ev tm f) (args.map (ev tm)) H ds R := rfl
theorem opR_pnc (x : Opd) : opR O P (.pnc x) tm H ds R E = panicks (ev tm x) H ds E := rfl
end

section
variable (O : Cfg) (P : Program) (Q : Post) (sp : S) (tm : List AVal) (H : Hp) (ds : List ADef)
theorem plan_nil : plan O P Q sp [] ⟨tm, H, ds⟩ = Q .normal ⟨tm, H, ds⟩ := rfl
theorem plan_none (d : Option Nat) (op : AOp) (rest : List AOper) : plan O P Q sp (⟨d, op, none⟩ :: rest) ⟨tm, H, ds⟩ = opR O P op tm H ds (thenK ⟨tm, H, ds⟩ d (plan O P Q sp rest)) (elseQ sp Q) := rfl
theorem plan_take (d : Option Nat) (op : AOp) (rest : List AOper) (t : Nat) (b : Bool) (h : tm.getD t .unk = .bool b) : plan O P Q sp (⟨d, op, some (t, b)⟩ :: rest) ⟨tm, H, ds⟩ = opR O P op tm H ds (thenK ⟨tm, H, ds⟩ d (plan O P Q sp rest)) (elseQ sp Q) := by
  simp only [plan, gdA, h, beq_self_eq_true]
theorem plan_skipT (d : Option Nat) (op : AOp) (rest : List AOper) (t : Nat) (h : tm.getD t .unk = .bool false) : plan O P Q sp (⟨d, op, some (t, true)⟩ :: rest) ⟨tm, H, ds⟩ = plan O P Q sp rest ⟨setTm tm d (.tup []), H, ds⟩ := by
  simp only [plan, gdA, h]; rfl
theorem plan_skipF (d : Option Nat) (op : AOp) (rest : List AOper) (t : Nat) (h : tm.getD t .unk = .bool true) : plan O P Q sp (⟨d, op, some (t, false)⟩ :: rest) ⟨tm, H, ds⟩ = plan O P Q sp rest ⟨setTm tm d (.tup []), H, ds⟩ := by
  simp only [plan, gdA, h]; rfl
theorem plan_skipU (d : Option Nat) (op : AOp) (rest : List AOper) (t : Nat) (b : Bool) (h : tm.getD t .unk = .tup []) : plan O P Q sp (⟨d, op, some (t, b)⟩ :: rest) ⟨tm, H, ds⟩ = plan O P Q sp rest ⟨setTm tm d (.tup []), H, ds⟩ := by
  simp only [plan, gdA, h]; rfl

def chkThen (chk : List AOper) (K : S → Prop) (s : S) : Prop := chkAll s chk ∧ K s
theorem chkThen_nil (K : S → Prop) (s : S) : chkThen [] K s = K s := by simp [chkThen, chkAll]
theorem chkThen_cons (c : AOper) (chk : List AOper) (K : S → Prop) (s : S) : chkThen (c :: chk) K s = (chkOk s c ∧ chkThen chk K s) := by simp [chkThen, chkAll, and_assoc]
theorem planD_nil : planD O P Q sp [] ⟨tm, H, ds⟩ = Q .normal ⟨tm, H, ds⟩ := rfl
theorem planD_none (d : Option Nat) (op : AOp) (chk : List AOper) (rest : List AOperD) : planD O P Q sp (⟨⟨d, op, none⟩, chk⟩ :: rest) ⟨tm, H, ds⟩ = opR O P op tm H ds (thenK ⟨tm, H, ds⟩ d (chkThen chk (planD O P Q sp rest))) (elseQ sp Q) := rfl
theorem planD_take (d : Option Nat) (op : AOp) (chk : List AOper) (rest : List AOperD) (t : Nat) (b : Bool) (h : tm.getD t .unk = .bool b) : planD O P Q sp (⟨⟨d, op, some (t, b)⟩, chk⟩ :: rest) ⟨tm, H, ds⟩ = opR O P op tm H ds (thenK ⟨tm, H, ds⟩ d (chkThen chk (planD O P Q sp rest))) (elseQ sp Q) := by
  simp only [planD, gdA, h, beq_self_eq_true]; rfl
theorem planD_skipT (d : Option Nat) (op : AOp) (chk : List AOper) (rest : List AOperD) (t : Nat) (h : tm.getD t .unk = .bool false) : planD O P Q sp (⟨⟨d, op, some (t, true)⟩, chk⟩ :: rest) ⟨tm, H, ds⟩ = planD O P Q sp rest ⟨setTm tm d (.tup []), H, ds⟩ := by
  simp only [planD, gdA, h]; rfl
theorem planD_skipF (d : Option Nat) (op : AOp) (chk : List AOper) (rest : List AOperD) (t : Nat) (h : tm.getD t .unk = .bool true) : planD O P Q sp (⟨⟨d, op, some (t, false)⟩, chk⟩ :: rest) ⟨tm, H, ds⟩ = planD O P Q sp rest ⟨setTm tm d (.tup []), H, ds⟩ := by
  simp only [planD, gdA, h]; rfl
theorem planD_skipU (d : Option Nat) (op : AOp) (chk : List AOper) (rest : List AOperD) (t : Nat) (b : Bool) (h : tm.getD t .unk = .tup []) : planD O P Q sp (⟨⟨d, op, some (t, b)⟩, chk⟩ :: rest) ⟨tm, H, ds⟩ = planD O P Q sp rest ⟨setTm tm d (.tup []), H, ds⟩ := by
  simp only [planD, gdA, h]; rfl
theorem thenK_eq (s : S) (d : Option Nat) (K : S → Prop) (v : AVal) (H' : Hp) (ds' : List ADef) : thenK s d K v H' ds' = K ⟨setTm s.tm d v, H', ds'⟩ := rfl
theorem elseQ_eq (v : AVal) (H' : Hp) (ds' : List ADef) : elseQ sp Q v H' ds' = Q (.panic v) ⟨sp.tm, H', ds'⟩ := rfl
end

section
variable (O : Cfg) (P : Program) (ks : Tab) (Q : Post) (tm : List AVal) (H : Hp) (ds : List ADef)
theorem wpC_skip (s : S) : wpC O P ks .skip Q s = Q .normal s := rfl
theorem wpC_ret (s : S) : wpC O P ks .ret Q s = Q .ret s := rfl
theorem wpC_exit (i : Nat) (s : S) : wpC O P ks (.exit i) Q s = Q (.exit i) s := rfl
theorem wpC_goto (i : Nat) (s : S) : wpC O P ks (.goto i) Q s = Q (.goto i) s := rfl
theorem wpC_label (i : Nat) (s : S) : wpC O P ks (.label i) Q s = Q .normal s := rfl
theorem wpC_block (i : Nat) (b : ACode) (s : S) : wpC O P ks (.block i b) Q s = wpC O P ks b (inBlk i Q) s := rfl
theorem wpC_scope (b : ACode) (s : S) : wpC O P ks (.scope b) Q s = wpC O P ks b (noGoA Q) s := rfl
theorem wpC_loop (b : ACode) (s : S) : wpC O P ks (.loop b) Q s = AC O P ks (.loop b) Q s := rfl
theorem wpC_seq (a b : ACode) (s : S) : wpC O P ks (.seq a b) Q s = wpC O P ks a (thenP O P ks b Q) s := rfl
theorem thenP_normal (b : ACode) (s : S) : thenP O P ks b Q .normal s = AC O P ks b Q s := rfl
theorem thenP_exit (b : ACode) (i : Nat) (s : S) : thenP O P ks b Q (.exit i) s = Q (.exit i) s := rfl
theorem thenP_goto (b : ACode) (i : Nat) (s : S) : thenP O P ks b Q (.goto i) s = Q (.goto i) s := rfl
theorem thenP_ret (b : ACode) (s : S) : thenP O P ks b Q .ret s = Q .ret s := rfl
theorem thenP_panic (b : ACode) (v : AVal) (s : S) : thenP O P ks b Q (.panic v) s = Q (.panic v) s := rfl
theorem wpC_cond (o : Opd) (dr : Bool) (a b : ACode) : wpC O P ks (.cond o dr a b) Q ⟨tm, H, ds⟩ = condA (ev tm o) (fun _ => wpC O P ks a Q (dropO dr o ⟨tm, H, ds⟩)) (fun _ => wpC O P ks b Q (dropO dr o ⟨tm, H, ds⟩)) := rfl
theorem wpC_reg (as : List AOper) (d : List Nat) (s : S) : wpC O P ks (.reg as d) Q s = plan O P (killP d Q) (forget s as) as s := rfl
theorem wpC_dreg (as : List AOperD) (d : List Nat) (s : S) : wpC O P ks (.dreg as d) Q s = planD O P (killP d Q) (forgetD s as) as s := rfl
end

section
variable (Q : Post) (s : S) (K : S → Prop)
theorem andThen_normal : andThen K Q .normal s = K s := rfl
theorem andThen_exit (i : Nat) : andThen K Q (.exit i) s = Q (.exit i) s := rfl
theorem andThen_goto (i : Nat) : andThen K Q (.goto i) s = Q (.goto i) s := rfl
theorem andThen_ret : andThen K Q .ret s = Q .ret s := rfl
theorem andThen_panic (v : AVal) : andThen K Q (.panic v) s = Q (.panic v) s := rfl
theorem inBlk_normal (i : Nat) : inBlk i Q .normal s = Q .normal s := rfl
theorem inBlk_same (i : Nat) : inBlk i Q (.exit i) s = Q .normal s := by simp [inBlk]
theorem inBlk_other (i j : Nat) (h : j ≠ i) : inBlk i Q (.exit j) s = Q (.exit j) s := by simp [inBlk, h]
theorem inBlk_goto (i l : Nat) : inBlk i Q (.goto l) s = Q (.goto l) s := rfl
theorem inBlk_ret (i : Nat) : inBlk i Q .ret s = Q .ret s := rfl
theorem inBlk_panic (i : Nat) (v : AVal) : inBlk i Q (.panic v) s = Q (.panic v) s := rfl
theorem killP_normal (d : List Nat) (tm : List AVal) (H : Hp) (ds : List ADef) : killP d Q .normal ⟨tm, H, ds⟩ = Q .normal ⟨killTm d tm, H, ds⟩ := rfl
theorem killP_panic (d : List Nat) (v : AVal) : killP d Q (.panic v) s = Q (.panic v) s := rfl
theorem noGoA_normal : noGoA Q .normal s = Q .normal s := rfl
theorem noGoA_exit (i : Nat) : noGoA Q (.exit i) s = Q (.exit i) s := rfl
theorem noGoA_ret : noGoA Q .ret s = Q .ret s := rfl
theorem noGoA_panic (v : AVal) : noGoA Q (.panic v) s = Q (.panic v) s := rfl
end

def lenSK : AVal → Option AVal
  | .str s => some (.int .i64 (sLen s))
  | _ => none
def lenLK : AVal → Option AVal
  | .sl rows _ => some (.int .i64 (rLen rows))
  | _ => none
def ixSK : AVal → AVal → Option AVal
  | .str s, .int _ n => ixK s n
  | _, _ => none
def beqK (ng : Bool) : AVal → AVal → Option AVal
  | .bool a, .bool b => some (.bool (match ng with | true => bXor a b | false => bEq a b))
  | _, _ => none
def notK : AVal → Option AVal
  | .bool a => some (.bool (bNot a))
  | _ => none
def cintK (k : IntKind) : AVal → Option AVal
  | .int _ n => some (.int k (wInt k n))
  | _ => none
def negK : AVal → Option AVal
  | .int k n => some (.int k (wNeg k n))
  | _ => none
def s2bK : AVal → Option AVal
  | .str s => some (.sl (s.map fun b => [.int .u8 (uC b)]) .frz)
  | _ => none
def maxK : AVal → AVal → Option AVal
  | .int k a, .int _ b => some (.int k (iMax a b))
  | _, _ => none
def minK : AVal → AVal → Option AVal
  | .int k a, .int _ b => some (.int k (iMin a b))
  | _, _ => none

def ropK (o : AOp) (tm : List AVal) (H : Hp) : Option AVal :=
  match o with
  | .beq ng x y => beqK ng (ev tm x) (ev tm y)
  | .not x => notK (ev tm x)
  | .neg x => negK (ev tm x)
  | .cint k x => cintK k (ev tm x)
  | .s2b x => s2bK (ev tm x)
  | .ixS x i => ixSK (ev tm x) (ev tm i)
  | .lenS x => lenSK (ev tm x)
  | .lenL x => lenLK (ev tm x)
  | .maxi x y => maxK (ev tm x) (ev tm y)
  | .mini x y => minK (ev tm x) (ev tm y)
  | o => rop o tm H

theorem beq_xor (a b : Bool) : (xor true (a == b)) = bXor a b := by cases a <;> cases b <;> rfl
theorem beq_eqv (a b : Bool) : (xor false (a == b)) = bEq a b := by cases a <;> cases b <;> rfl

theorem rop_beq (ng : Bool) (x y : Opd) (tm : List AVal) (H : Hp) : rop (.beq ng x y) tm H = beqK ng (ev tm x) (ev tm y) := by
  simp only [rop, beqK]
  generalize ev tm x = u
  generalize ev tm y = v
  cases u <;> cases v <;> try rfl
  rename_i a b
  cases ng <;> cases a <;> cases b <;> rfl

theorem rop_mv (x : Opd) (tm : List AVal) (H : Hp) : rop (.mv x) tm H = some (ev tm x) := rfl
theorem rop_pick (c x y : Opd) (tm : List AVal) (H : Hp) : rop (.pick c x y) tm H = (match ev tm c with | .bool b => some (b2i b (ev tm x) (ev tm y)) | _ => none) := rfl
theorem rop_build (z : List AVal) (ps : List (Nat × Nat × Opd)) (tm : List AVal) (H : Hp) : rop (.build z ps) tm H = (match fillA z (ps.map fun p => (p.1, p.2.1, ev tm p.2.2)) with | some x => some (.agg x) | none => none) := by
  simp only [rop]; cases fillA z (ps.map fun p => (p.1, p.2.1, ev tm p.2.2)) <;> rfl
theorem rop_load (k : Option Nat) (x : Opd) (tm : List AVal) (H : Hp) : rop (.load k x) tm H = loadA H k (ev tm x) := rfl
theorem rop_nilck (x : Opd) (tm : List AVal) (H : Hp) : rop (.nilck x) tm H = nilckA (ev tm x) := rfl
theorem rop_bin (op : BinOp) (x y : Opd) (tm : List AVal) (H : Hp) : rop (.bin op x y) tm H = binA op (ev tm x) (ev tm y) := rfl
def isnilK (ng : Bool) : Option Bool → Option AVal
  | some b => some (.bool (bXor ng b))
  | none => none
theorem rop_isnil (ng : Bool) (nk : NK) (x : Opd) (tm : List AVal) (H : Hp) : rop (.isnil ng nk x) tm H = isnilK ng (isNilA nk (ev tm x)) := by
  simp only [rop]; cases isNilA nk (ev tm x) <;> rfl
def sleqK (ng : Bool) (ks : List (Nat × KK)) : AVal → AVal → Option AVal
  | .agg a, .agg b => (eqCells ks a b).map fun r => .bool (xor ng r)
  | _, _ => none
theorem rop_sleq (ng : Bool) (ks : List (Nat × KK)) (x y : Opd) (tm : List AVal) (H : Hp) : rop (.sleq ng ks x y) tm H = sleqK ng ks (ev tm x) (ev tm y) := by
  simp only [rop]
  unfold sleqK; rfl
theorem rop_not (x : Opd) (tm : List AVal) (H : Hp) : rop (.not x) tm H = notK (ev tm x) := by
  simp only [rop]; unfold notK bNot; rfl
theorem rop_neg (x : Opd) (tm : List AVal) (H : Hp) : rop (.neg x) tm H = negK (ev tm x) := by
  simp only [rop]; unfold negK wNeg; rfl
theorem rop_cint (k : IntKind) (x : Opd) (tm : List AVal) (H : Hp) : rop (.cint k x) tm H = cintK k (ev tm x) := by
  simp only [rop]; unfold cintK wInt; rfl
def cstrK : AVal → Option AVal
  | .str s => some (.str s)
  | _ => none
theorem rop_cstr (x : Opd) (tm : List AVal) (H : Hp) : rop (.cstr x) tm H = cstrK (ev tm x) := by
  simp only [rop]; unfold cstrK; rfl
def b2sK : AVal → Option AVal
  | .sl rows _ => (bytesOf rows).map .str
  | _ => none
theorem rop_b2s (x : Opd) (tm : List AVal) (H : Hp) : rop (.b2s x) tm H = b2sK (ev tm x) := by
  simp only [rop]; unfold b2sK; rfl
theorem rop_s2b (x : Opd) (tm : List AVal) (H : Hp) : rop (.s2b x) tm H = s2bK (ev tm x) := by
  simp only [rop]; unfold s2bK uC; rfl
def slsK : AVal → Option AVal
  | .sl rows .frz => some (.sl rows .frz)
  | _ => none
theorem rop_sls (x : Opd) (tm : List AVal) (H : Hp) : rop (.sls x) tm H = slsK (ev tm x) := by
  simp only [rop]; unfold slsK; rfl
theorem rop_mkif (t : TypeId) (x : Opd) (tm : List AVal) (H : Hp) : rop (.mkif t x) tm H = some (.iface t (ev tm x)) := rfl
theorem rop_mkfn (fn : Fn) (f c : List Opd) (tm : List AVal) (H : Hp) : rop (.mkfn fn f c) tm H = some (.func fn (f.map (ev tm)) (c.map (ev tm))) := rfl
def slSK (lo hi : Option AVal) : AVal → Option AVal
  | .str s => slSA s lo hi
  | _ => none
theorem rop_slS (x : Opd) (lo hi : Option Opd) (tm : List AVal) (H : Hp) : rop (.slS x lo hi) tm H = slSK (lo.map (ev tm)) (hi.map (ev tm)) (ev tm x) := by
  simp only [rop]; unfold slSK; rfl
def slLK (sz : Nat) (lo hi mx : Option AVal) : AVal → Option AVal
  | .sl rows t => slLA sz rows t lo hi mx
  | _ => none
theorem rop_slL (sz : Nat) (x : Opd) (lo hi mx : Option Opd) (tm : List AVal) (H : Hp) : rop (.slL sz x lo hi mx) tm H = slLK sz (lo.map (ev tm)) (hi.map (ev tm)) (mx.map (ev tm)) (ev tm x) := by
  simp only [rop]; unfold slLK; rfl
theorem rop_faddr (off : Nat) (x : Opd) (tm : List AVal) (H : Hp) : rop (.faddr off x) tm H = faddrA off (ev tm x) := rfl
def fieldK (k : Option Nat) (off : Nat) : AVal → Option AVal
  | .agg cs => partA k off cs
  | _ => none
theorem rop_field (k : Option Nat) (off : Nat) (x : Opd) (tm : List AVal) (H : Hp) : rop (.field k off x) tm H = fieldK k off (ev tm x) := by
  simp only [rop]; unfold fieldK; rfl
def iaddrK (sz : Nat) : AVal → AVal → Option AVal
  | .sl rows _, .int _ n => iaddrA sz rows n
  | _, _ => none
theorem rop_iaddr (sz : Nat) (x i : Opd) (tm : List AVal) (H : Hp) : rop (.iaddr sz x i) tm H = iaddrK sz (ev tm x) (ev tm i) := by
  simp only [rop]; unfold iaddrK; rfl
theorem rop_ixS (x i : Opd) (tm : List AVal) (H : Hp) : rop (.ixS x i) tm H = ixSK (ev tm x) (ev tm i) := by
  simp only [rop]; unfold ixSK ixK uC; rfl
def extK (i : Nat) : AVal → Option AVal
  | .tup vs => vs[i]?
  | _ => none
theorem rop_ext (x : Opd) (i : Nat) (tm : List AVal) (H : Hp) : rop (.ext x i) tm H = extK i (ev tm x) := by
  simp only [rop]; unfold extK; rfl
theorem rop_lenS (x : Opd) (tm : List AVal) (H : Hp) : rop (.lenS x) tm H = lenSK (ev tm x) := by
  simp only [rop]; unfold lenSK sLen; rfl
theorem rop_lenL (x : Opd) (tm : List AVal) (H : Hp) : rop (.lenL x) tm H = lenLK (ev tm x) := by
  simp only [rop]; unfold lenLK rLen; rfl
theorem rop_bsl (sz : Nat) (ps : List Opd) (tm : List AVal) (H : Hp) : rop (.bsl sz ps) tm H = (match rowsA sz (ps.map (ev tm)) with | some rows => some (.sl rows .full) | none => none) := by
  simp only [rop]; cases rowsA sz (ps.map (ev tm)) <;> rfl
theorem rop_bslf (sz : Nat) (ps : List Opd) (tm : List AVal) (H : Hp) : rop (.bslf sz ps) tm H = (match rowsA sz (ps.map (ev tm)) with | some rows => some (.sl rows .frz) | none => none) := by
  simp only [rop]; cases rowsA sz (ps.map (ev tm)) <;> rfl
theorem rop_tas (ok : Bool) (t : TypeId) (z : AVal) (x : Opd) (tm : List AVal) (H : Hp) : rop (.tas ok t z x) tm H = tasA ok t z (ev tm x) := rfl
theorem rop_look (ok : Bool) (kk : KK) (z : AVal) (m k : Opd) (tm : List AVal) (H : Hp) : rop (.look ok kk z m k) tm H = lookA H ok kk z (ev tm m) (ev tm k) := rfl
theorem rop_maxi (x y : Opd) (tm : List AVal) (H : Hp) : rop (.maxi x y) tm H = maxK (ev tm x) (ev tm y) := by
  simp only [rop]; unfold maxK iMax; rfl
theorem rop_mini (x y : Opd) (tm : List AVal) (H : Hp) : rop (.mini x y) tm H = minK (ev tm x) (ev tm y) := by
  simp only [rop]; unfold minK iMin; rfl

theorem binA_lss (k : IntKind) (a b : Int) : binA .lss (.int k a) (.int k b) = some (.bool (iLt a b)) := by simp [binA, iLt]
theorem binA_leq (k : IntKind) (a b : Int) : binA .leq (.int k a) (.int k b) = some (.bool (iLe a b)) := by simp [binA, iLe]
theorem binA_gtr (k : IntKind) (a b : Int) : binA .gtr (.int k a) (.int k b) = some (.bool (iLt b a)) := by simp [binA, iLt]
theorem binA_geq (k : IntKind) (a b : Int) : binA .geq (.int k a) (.int k b) = some (.bool (iLe b a)) := by simp [binA, iLe]
theorem binA_eql (k : IntKind) (a b : Int) : binA .eql (.int k a) (.int k b) = some (.bool (iEq a b)) := by simp [binA, iEq]
theorem binA_neq (k : IntKind) (a b : Int) : binA .neq (.int k a) (.int k b) = some (.bool (bNot (iEq a b))) := by simp [binA, iEq, bNot, bne]
theorem binA_add (k : IntKind) (a b : Int) : binA .add (.int k a) (.int k b) = some (.int k (wAdd k a b)) := by simp [binA, wAdd]
theorem binA_sub (k : IntKind) (a b : Int) : binA .sub (.int k a) (.int k b) = some (.int k (wSub k a b)) := by simp [binA, wSub]
theorem binA_mul (k : IntKind) (a b : Int) : binA .mul (.int k a) (.int k b) = some (.int k (wMul k a b)) := by simp [binA, wMul]
theorem binA_sadd (a b : List UInt8) : binA .add (.str a) (.str b) = catK a b := by simp [binA, catK]
theorem binA_seql (a b : List UInt8) : binA .eql (.str a) (.str b) = some (.bool (sEq a b)) := by simp [binA, sEq]
/-- Is a string greater? -/
def sGt (a b : List UInt8) : Bool := !(Op.bytesLess a b || a == b)
theorem binA_sgtr (a b : List UInt8) : binA .gtr (.str a) (.str b) = some (.bool (sGt a b)) := by simp [binA, sGt]
theorem binA_sneq (a b : List UInt8) : binA .neq (.str a) (.str b) = some (.bool (bNot (sEq a b))) := by simp [binA, sEq, bNot]

/-! ### Small evaluations -/
theorem ev_t (tm : List AVal) (i : Nat) : ev tm (.t i) = tm.getD i .unk := rfl
theorem ev_c (tm : List AVal) (v : AVal) : ev tm (.c v) = v := rfl
theorem ev_f (tm : List AVal) (f : FuncId) : ev tm (.f f) = .func (.func f) [] [] := rfl
theorem setTm_some (tm : List AVal) (d : Nat) (v : AVal) : setTm tm (some d) v = tm.set d v := rfl
theorem setTm_none (tm : List AVal) (v : AVal) : setTm tm none v = tm := rfl
/-! ### States, written by what is known of them -/
def look : List (Nat × AVal) → Nat → AVal
  | [], _ => .unk
  | (k, v) :: m, i => bif Nat.beq k i then v else look m i
/-- The slots below n: those that are listed, with what they hold. -/
def mk (n : Nat) (m : List (Nat × AVal)) : List AVal := (List.range n).map (look m)
def argM : Nat → List AVal → List (Nat × AVal)
  | _, [] => []
  | i, a :: as => (i, a) :: argM (i + 1) as
def pickM (ks : List Nat) (m : List (Nat × AVal)) : List (Nat × AVal) := ks.map fun k => (k, look m k)
def eraseM (i : Nat) : List (Nat × AVal) → List (Nat × AVal)
  | [] => []
  | (k, v) :: m => bif Nat.beq k i then eraseM i m else (k, v) :: eraseM i m

theorem beq_no {k i : Nat} (h : (k == i) = false) : Nat.beq k i = false := by
  rw [Bool.eq_false_iff]
  intro e
  rw [Nat.eq_of_beq_eq_true e] at h
  simp at h
theorem look_hit (i : Nat) (v : AVal) (m : List (Nat × AVal)) : look ((i, v) :: m) i = v := by simp [look]
theorem look_miss (k i : Nat) (v : AVal) (m : List (Nat × AVal)) (h : (k == i) = false) : look ((k, v) :: m) i = look m i := by
  have : Nat.beq k i = false := beq_no h
  simp only [look, this, cond_false]
theorem eraseM_nil (i : Nat) : eraseM i [] = [] := rfl
theorem eraseM_hit (i : Nat) (v : AVal) (m : List (Nat × AVal)) : eraseM i ((i, v) :: m) = eraseM i m := by simp [eraseM]
theorem eraseM_miss (k i : Nat) (v : AVal) (m : List (Nat × AVal)) (h : (k == i) = false) : eraseM i ((k, v) :: m) = (k, v) :: eraseM i m := by
  have : Nat.beq k i = false := beq_no h
  simp only [eraseM, this, cond_false]
theorem look_eraseM (i j : Nat) : ∀ m : List (Nat × AVal), look (eraseM i m) j = if j = i then .unk else look m j
  | [] => by simp [eraseM, look]
  | (k, v) :: m => by
    have ih := look_eraseM i j m
    unfold eraseM
    by_cases h : k = i
    · subst h
      rw [show Nat.beq k k = true from Nat.beq_refl k, cond_true, ih]
      by_cases hj : j = k
      · simp [hj]
      · rw [if_neg hj, if_neg hj, look_miss _ _ _ _ (by simpa using fun e => hj e.symm)]
    · rw [beq_no (by simpa using h), cond_false]
      by_cases hk : k = j
      · subst hk
        rw [look_hit, if_neg h, look_hit]
      · rw [look_miss _ _ _ _ (by simpa using hk), look_miss _ _ _ _ (by simpa using hk), ih]
theorem mk_len (n : Nat) (m : List (Nat × AVal)) : (mk n m).length = n := by simp [mk]
theorem mk_at (n : Nat) (m : List (Nat × AVal)) (i : Nat) : (mk n m)[i]? = if i < n then some (look m i) else none := by
  unfold mk
  rw [List.getElem?_map]
  by_cases h : i < n
  · rw [List.getElem?_range h, if_pos h]; rfl
  · rw [List.getElem?_eq_none (by simpa using h), if_neg h]; rfl
theorem mk_getD (n : Nat) (m : List (Nat × AVal)) (i : Nat) (h : i < n) : (mk n m).getD i .unk = look m i := by
  rw [List.getD_eq_getElem?_getD, mk_at, if_pos h]; rfl
theorem mk_ext {n : Nat} {m m' : List (Nat × AVal)} (h : ∀ i, look m i = look m' i) : mk n m = mk n m' := by
  unfold mk; exact List.map_congr_left fun i _ => h i
theorem mk_set (n : Nat) (m : List (Nat × AVal)) (d : Nat) (v : AVal) : (mk n m).set d v = mk n ((d, v) :: m) := by
  apply List.ext_getElem?
  intro i
  rw [List.getElem?_set, mk_at, mk_at, mk_len]
  by_cases h : d = i
  · subst h; rw [if_pos rfl, look_hit]
  · rw [if_neg h, look_miss _ _ _ _ (by simpa using h)]
theorem mk_erase (n : Nat) (m : List (Nat × AVal)) (d : Nat) : (mk n m).set d .unk = mk n (eraseM d m) := by
  rw [mk_set]
  refine mk_ext fun i => ?_
  rw [look_eraseM]
  by_cases h : d = i
  · subst h; rw [look_hit, if_pos rfl]
  · rw [look_miss _ _ _ _ (by simpa using h), if_neg (fun e => h e.symm)]
theorem look_pickM (i : Nat) (m : List (Nat × AVal)) : ∀ ks : List Nat, look (pickM ks m) i = if ks.contains i = true then look m i else .unk
  | [] => by simp [pickM, look]
  | k :: ks => by
    have ih := look_pickM i m ks
    show look ((k, look m k) :: pickM ks m) i = _
    by_cases h : k = i
    · subst h; rw [look_hit]; simp
    · rw [look_miss _ _ _ _ (by simpa using h), ih, List.contains_cons]
      have : (i == k) = false := by simpa using fun e => h e.symm
      rw [this, Bool.false_or]
theorem mk_kill (n : Nat) (m : List (Nat × AVal)) (ks : List Nat) : killTm ks (mk n m) = mk n (pickM ks m) := by
  apply List.ext_getElem?
  intro i
  simp only [killTm, List.getElem?_mapIdx, mk_at]
  by_cases h : i < n
  · rw [if_pos h, if_pos h, look_pickM]; rfl
  · rw [if_neg h, if_neg h]; rfl
theorem look_argM : ∀ (as : List AVal) (j i : Nat), look (argM j as) i = if i < j then .unk else as.getD (i - j) .unk
  | [], j, i => by simp [argM, look]
  | a :: as, j, i => by
    unfold argM
    by_cases h : j = i
    · subst h; rw [look_hit, if_neg (by omega), Nat.sub_self]; rfl
    · rw [look_miss _ _ _ _ (by simpa using h), look_argM as (j + 1) i]
      by_cases h' : i < j
      · rw [if_pos h', if_pos (by omega)]
      · rw [if_neg h', if_neg (by omega), show i - j = (i - (j + 1)) + 1 by omega, List.getD_cons_succ]
theorem mk_args (n : Nat) (as : List AVal) (h : Nat.ble as.length n = true) : as ++ List.replicate (n - as.length) .unk = mk n (argM 0 as) := by
  have h' : as.length ≤ n := by simpa [Nat.ble_eq] using h
  apply List.ext_getElem?
  intro i
  by_cases h2 : i < n
  · rw [mk_at, if_pos h2, look_argM, if_neg (by omega), Nat.sub_zero, List.getD_eq_getElem?_getD]
    by_cases h1 : i < as.length
    · rw [List.getElem?_append_left h1, List.getElem?_eq_getElem h1]; rfl
    · rw [List.getElem?_append_right (by omega), List.getElem?_replicate, List.getElem?_eq_none (l := as) (by omega), if_pos (by omega)]; rfl
  · rw [mk_at, if_neg h2, List.getElem?_eq_none (by rw [List.length_append, List.length_replicate]; omega)]
theorem argM_nil (i : Nat) : argM i [] = [] := rfl
theorem argM_cons (i : Nat) (a : AVal) (as : List AVal) : argM i (a :: as) = (i, a) :: argM (i + 1) as := rfl
theorem pickM_nil (m : List (Nat × AVal)) : pickM [] m = [] := rfl
theorem pickM_cons (k : Nat) (ks : List Nat) (m : List (Nat × AVal)) : pickM (k :: ks) m = (k, look m k) :: pickM ks m := rfl
def dropM (dr : Bool) (i : Nat) (m : List (Nat × AVal)) : List (Nat × AVal) :=
  match dr with
  | true => eraseM i m
  | false => m
theorem dropM_true (i : Nat) (m : List (Nat × AVal)) : dropM true i m = eraseM i m := rfl
theorem dropM_false (i : Nat) (m : List (Nat × AVal)) : dropM false i m = m := rfl
theorem mk_drop (n : Nat) (m : List (Nat × AVal)) (H : Hp) (ds : List ADef) (dr : Bool) (i : Nat) : dropO dr (.t i) ⟨mk n m, H, ds⟩ = ⟨mk n (dropM dr i m), H, ds⟩ := by
  cases dr with
  | true => simp only [dropO, mk_erase, dropM]
  | false => rfl
theorem mk_condT (O : Cfg) (P : Program) (ks : Tab) (Q : Post) (n : Nat) (m : List (Nat × AVal)) (H : Hp) (ds : List ADef) (dr : Bool) (i : Nat) (a b : ACode) (hi : i < n) (h : look m i = .bool true) :
    wpC O P ks (.cond (.t i) dr a b) Q ⟨mk n m, H, ds⟩ = wpC O P ks a Q ⟨mk n (dropM dr i m), H, ds⟩ := by
  simp only [wpC_cond, ev_t, mk_getD _ _ _ hi, h, condA, condL, mk_drop]; simp
theorem mk_condF (O : Cfg) (P : Program) (ks : Tab) (Q : Post) (n : Nat) (m : List (Nat × AVal)) (H : Hp) (ds : List ADef) (dr : Bool) (i : Nat) (a b : ACode) (hi : i < n) (h : look m i = .bool false) :
    wpC O P ks (.cond (.t i) dr a b) Q ⟨mk n m, H, ds⟩ = wpC O P ks b Q ⟨mk n (dropM dr i m), H, ds⟩ := by
  simp only [wpC_cond, ev_t, mk_getD _ _ _ hi, h, condA, condL, mk_drop]; simp
/-- A branch that is not decided. -/
theorem wpC_split {O : Cfg} {P : Program} {ks : Tab} {Q : Post} {n : Nat} {m : List (Nat × AVal)} {H : Hp} {ds : List ADef} {dr : Bool} {i : Nat} {a b : ACode} {c : Bool} (hi' : Nat.blt i n = true) (h : look m i = .bool c)
    (h1 : c = true → wpC O P ks a Q ⟨mk n (dropM dr i m), H, ds⟩) (h2 : c = false → wpC O P ks b Q ⟨mk n (dropM dr i m), H, ds⟩) : wpC O P ks (.cond (.t i) dr a b) Q ⟨mk n m, H, ds⟩ := by
  have hi : i < n := by simpa [Nat.blt_eq] using hi'
  cases c with
  | true => rw [mk_condT (hi := hi) (h := h)]; exact h1 rfl
  | false => rw [mk_condF (hi := hi) (h := h)]; exact h2 rfl
/-- A test that is not decided. -/
theorem plan_split {O : Cfg} {P : Program} {Q : Post} {sp : S} {n : Nat} {m : List (Nat × AVal)} {H : Hp} {ds : List ADef} {d : Option Nat} {op : AOp} {rest : List AOper} {t : Nat} {b c : Bool} (_ : Nat.blt t n = true) (_ : look m t = .bool c)
    (h1 : c = true → plan O P Q sp (⟨d, op, some (t, b)⟩ :: rest) ⟨mk n m, H, ds⟩) (h2 : c = false → plan O P Q sp (⟨d, op, some (t, b)⟩ :: rest) ⟨mk n m, H, ds⟩) : plan O P Q sp (⟨d, op, some (t, b)⟩ :: rest) ⟨mk n m, H, ds⟩ := by
  cases c with
  | true => exact h1 rfl
  | false => exact h2 rfl
theorem planD_split {O : Cfg} {P : Program} {Q : Post} {sp : S} {n : Nat} {m : List (Nat × AVal)} {H : Hp} {ds : List ADef} {d : Option Nat} {op : AOp} {chk : List AOper} {rest : List AOperD} {t : Nat} {b c : Bool} (_ : Nat.blt t n = true) (_ : look m t = .bool c)
    (h1 : c = true → planD O P Q sp (⟨⟨d, op, some (t, b)⟩, chk⟩ :: rest) ⟨mk n m, H, ds⟩) (h2 : c = false → planD O P Q sp (⟨⟨d, op, some (t, b)⟩, chk⟩ :: rest) ⟨mk n m, H, ds⟩) : planD O P Q sp (⟨⟨d, op, some (t, b)⟩, chk⟩ :: rest) ⟨mk n m, H, ds⟩ := by
  cases c with
  | true => exact h1 rfl
  | false => exact h2 rfl
theorem fillA_nil (z : List AVal) : fillA z [] = some z := rfl
theorem b2i_true (x y : AVal) : b2i true x y = x := rfl
theorem b2i_false (x y : AVal) : b2i false x y = y := rfl
theorem isNil_nilptr : isNilA .ptr .nilptr = some true := rfl
theorem isNil_ref (i o : Nat) : isNilA .ptr (.ref i o) = some false := rfl
theorem isNil_ip (cs : List AVal) : isNilA .ptr (.ip cs) = some false := rfl
theorem isNil_nilmap : isNilA .map .nilmap = some true := rfl
theorem isNil_map (i : Nat) : isNilA .map (.map i) = some false := rfl
theorem isNil_nilfunc : isNilA .func .nilfunc = some true := rfl
theorem isNil_func (f : Fn) (a b : List AVal) : isNilA .func (.func f a b) = some false := rfl
theorem isNil_nilif : isNilA .iface .nilif = some true := rfl
theorem isNil_iface (t : TypeId) (v : AVal) : isNilA .iface (.iface t v) = some false := rfl
theorem pickK_bool (b : Bool) (x y : AVal) : (match AVal.bool b with | .bool b => some (b2i b x y) | _ => none) = some (b2i b x y) := rfl
theorem retOne (v : AVal) : one1 [v] = v := rfl
theorem retTwo (u v : AVal) (vs : List AVal) : one1 (u :: v :: vs) = .tup (u :: v :: vs) := rfl
def resQ (vs : Option (List AVal)) (Q : ARet → Hp → Prop) (H : Hp) : Prop :=
  match vs with
  | some vs => Q (.ret (one1 vs)) H
  | none => False
theorem resQ_some (vs : List AVal) (Q : ARet → Hp → Prop) (H : Hp) : resQ (some vs) Q H = Q (.ret (one1 vs)) H := rfl
theorem bodyA_normal (rs : List ARes) (Q : ARet → Hp → Prop) (tm : List AVal) (H : Hp) : bodyA rs Q .normal ⟨tm, H, []⟩ = resQ (resA ⟨tm, H, []⟩ rs) Q H := by
  simp only [bodyA, resQ, true_and]
  cases resA ⟨tm, H, []⟩ rs <;> rfl
theorem bodyA_ret (rs : List ARes) (Q : ARet → Hp → Prop) (tm : List AVal) (H : Hp) : bodyA rs Q .ret ⟨tm, H, []⟩ = resQ (resA ⟨tm, H, []⟩ rs) Q H := by
  simp only [bodyA, resQ, true_and]
  cases resA ⟨tm, H, []⟩ rs <;> rfl
theorem bodyA_panic (rs : List ARes) (Q : ARet → Hp → Prop) (v : AVal) (tm : List AVal) (H : Hp) : bodyA rs Q (.panic v) ⟨tm, H, []⟩ = Q (.panic v) H := by simp [bodyA]
theorem resA_nil (s : S) : resA s [] = some [] := rfl
theorem resA_tmp (tm : List AVal) (H : Hp) (ds : List ADef) (t : Nat) (rest : List ARes) : resA ⟨tm, H, ds⟩ (.tmp t :: rest) = (resA ⟨tm, H, ds⟩ rest).map (tm.getD t .unk :: ·) := rfl
theorem callPost_ret (ds : List ADef) (R E : Res) (v : AVal) (H : Hp) : callPost ds R E (.ret v) H = R v H ds := rfl

attribute [go_sem] ev_t ev_c ev_f setTm_some setTm_none mk_getD mk_set mk_kill mk_condT mk_condF dropM_true dropM_false look_hit look_miss eraseM_nil eraseM_hit eraseM_miss argM_nil argM_cons pickM_nil pickM_cons b2i_true b2i_false isNil_nilptr isNil_ref isNil_ip isNil_nilmap isNil_map isNil_nilfunc isNil_func isNil_nilif isNil_iface
  retOne retTwo resQ_some bodyA_normal bodyA_ret bodyA_panic resA_nil resA_tmp callPost_ret List.getD_cons_zero List.getD_cons_succ List.set_cons_zero List.set_cons_succ List.map_cons List.map_nil List.cons_append List.nil_append List.append_nil Option.map_some Option.map_none
  nilckA faddrA lenSK lenLK ixSK beqK notK cintK negK s2bK maxK minK isnilK cstrK slsK slSK slLK fieldK iaddrK extK pickK_bool fillA partA List.getElem?_cons_zero List.getElem?_cons_succ AVal.cells AVal.known
attribute [go_sem] quiet_some wrote_some called_func defers_func panicks_iface opR_mv opR_pick opR_build opR_load opR_nilck opR_bin opR_beq opR_isnil opR_sleq opR_not opR_neg opR_cint opR_cstr opR_b2s opR_s2b opR_sls opR_mkif opR_mkfn opR_slS opR_slL opR_faddr opR_field opR_iaddr opR_ixS opR_ext opR_lenS opR_lenL opR_bsl opR_tas opR_look opR_lenM opR_maxi opR_mini opR_alloc opR_box opR_mkmap opR_store opR_mset opR_app opR_call opR_dfr opR_pnc plan_nil plan_none plan_take plan_skipT plan_skipF plan_skipU chkThen_nil chkThen_cons planD_nil planD_none planD_take planD_skipT planD_skipF planD_skipU thenK_eq elseQ_eq wpC_skip wpC_ret wpC_exit wpC_goto wpC_label wpC_block wpC_scope wpC_seq thenP_normal thenP_exit thenP_goto thenP_ret thenP_panic  wpC_reg wpC_dreg andThen_normal andThen_exit andThen_goto andThen_ret andThen_panic inBlk_normal inBlk_same inBlk_other inBlk_goto inBlk_ret inBlk_panic killP_normal killP_panic noGoA_normal noGoA_exit noGoA_ret noGoA_panic rop_mv rop_beq rop_pick rop_build rop_load rop_nilck rop_bin rop_isnil rop_sleq rop_not rop_neg rop_cint rop_cstr rop_b2s rop_s2b rop_sls rop_mkif rop_mkfn rop_slS rop_slL rop_faddr rop_field rop_iaddr rop_ixS rop_ext rop_lenS rop_lenL rop_bsl rop_bslf opR_bslf rop_tas rop_look rop_maxi rop_mini binA_lss binA_leq binA_gtr binA_geq binA_eql binA_neq binA_add binA_sub binA_mul binA_sadd binA_seql binA_sneq binA_sgtr Hp.upd_same

end Go.Eng

