/- The canonical run: code on the canonical heap, in the order of the text, in continuation's form. -/
import Derived.Test.YtolbpklaniifhaaLCnC
namespace Go.Cn
set_option linter.unusedVariables false
set_option linter.unusedSimpArgs false

structure St where
  t : List Value
  ds : List Deferred

/-- What a run asks of calls, loops, and rounds of a range over a function. -/
structure Orc where
  call : FuncId → List Value → CH → Option (Value × CH)
  loop : FuncId → Option Nat → Code → List Value → List Deferred → CH → Option (Nat × List Value × List Deferred × CH)
  round : Nat → List Value → CH → Option (Value × CH)

structure Ctx where
  fn : FuncId
  round : Option Nat
  n : Nat
  keep : List Nat

def gather (keep : List Nat) (t : List Value) : List Value := keep.map fun i => t.getD i undef
def spread (n : Nat) (keep : List Nat) (vs : List Value) : List Value := (keep.zip vs).foldl (fun t (i, v) => t.set i v) (List.replicate n undef)
def St.put (st : St) (d : Option Tmp) (v : Value) : St :=
  match d with
  | some d => { st with t := st.t.set d v }
  | none => st
def ev (t : List Value) : Operand → Value
  | .tmp i => t.getD i undef
  | .const v => if clean v then v else undef
  | .global _ => undef
  | .func f => .func (.func f) #[] #[]

def okFn (P : Program) (f : FuncId) : Bool :=
  match P.funcs[f]? with
  | some fn => fn.body.isSome && !(fn.name == "runtime.NumGoroutine")
  | none => false
def okVia (P : Program) (t : TypeId) (ptr : Bool) : Bool :=
  match P.underlying t, ptr with
  | some (.pointer _), true => true
  | some (.pointer _), false => false
  | some _, false => true
  | _, _ => false
def callV (P : Program) (O : Orc) (v : Value) (args : List Value) (H : CH) : Option (Value × CH) :=
  match v with
  | .func (.func f) a c => if okFn P f then O.call f (a.toList ++ args ++ c.toList) H else none
  | .func (.via t p f ptr) a _ => if p.isEmpty && okVia P t ptr && okFn P f && !(a.toList ++ args).isEmpty then O.call f (a.toList ++ args) H else none
  | .func (.yield l) a c => if a.isEmpty && c.isEmpty then O.round l args H else none
  | _ => none

/-- A test that tells likeness where it can. -/
def eqLs (f : Value → Value → Bool) : List Value → List Value → Bool
  | [], [] => true
  | a :: l, b :: m => f a b && eqLs f l m
  | _, _ => false
def eqV : Nat → Value → Value → Bool
  | 0, _, _ => false
  | _ + 1, .bool a, .bool b => a == b
  | _ + 1, .int k a, .int j b => decide (k = j) && decide (a = b)
  | _ + 1, .pointer a, .pointer b => decide (a = b)
  | _ + 1, .slice a l c, .slice b m d => decide (a = b) && (l == m && c == d)
  | _ + 1, .map a, .map b => decide (a = b)
  | _ + 1, .nilFunc, .nilFunc => true
  | _ + 1, .nilIface, .nilIface => true
  | d + 1, .iface t a, .iface u b => decide (t = u) && eqV d a b
  | d + 1, .agg a, .agg b => eqLs (eqV d) a.toList b.toList
  | d + 1, .tuple a, .tuple b => eqLs (eqV d) a.toList b.toList
  | d + 1, .func f a c, .func g b e => decide (f = g) && (eqLs (eqV d) a.toList b.toList && eqLs (eqV d) c.toList e.toList)
  | _, _, _ => false
theorem eqLs_eq {f : Value → Value → Bool} (hf : ∀ a b, f a b = true → a = b) : ∀ l m, eqLs f l m = true → l = m
  | [], [], _ => rfl
  | a :: l, b :: m, h => by
    simp only [eqLs, Bool.and_eq_true] at h
    rw [hf a b h.1, eqLs_eq hf l m h.2]
  | [], _ :: _, h => by cases h
  | _ :: _, [], h => by cases h
theorem eqV_eq : ∀ d a b, eqV d a b = true → a = b
  | 0, _, _, h => by simp [eqV] at h
  | d + 1, a, b, h => by
    have ih := eqLs_eq (eqV_eq d)
    cases a <;> cases b <;> simp [eqV] at h <;> first
      | rfl
      | (subst h; rfl)
      | (obtain ⟨rfl, rfl⟩ := h; rfl)
      | (obtain ⟨rfl, rfl, rfl⟩ := h; rfl)
      | (obtain ⟨h1, h2⟩ := h; rw [h1, eqV_eq d _ _ h2])
      | (have := ih _ _ h; rw [Array.toList_inj.1 this])
      | (obtain ⟨h1, h2, h3⟩ := h; rw [h1, Array.toList_inj.1 (ih _ _ h2), Array.toList_inj.1 (ih _ _ h3)])
def eqO : Option Value → Value → Bool
  | some x, v => eqV 20 x v
  | none, _ => false
open Classical in
/-- A look that must come to a value, else nothing is said. -/
noncomputable def chk {R : Type} (x : Option Value) (v : Value) (r : Option R) : Option R := cond (eqO x v) r (if x = some v then r else none)
theorem chk_some {R : Type} {x : Option Value} {v : Value} {r : Option R} {y : R} (h : chk x v r = some y) : x = some v ∧ r = some y := by
  unfold chk at h
  cases he : eqO x v with
  | true =>
    rw [he, cond_true] at h
    cases x with
    | none => cases he
    | some x => exact ⟨congrArg some (eqV_eq _ _ _ he), h⟩
  | false =>
    rw [he, cond_false] at h
    split at h
    · exact ⟨by assumption, h⟩
    · cases h
theorem chk_pos {R : Type} {x : Option Value} {v : Value} {r : Option R} (h : x = some v) : chk x v r = r := by
  unfold chk
  cases eqO x v with
  | true => rfl
  | false => rw [cond_false, if_pos h]
noncomputable def chks {R : Type} : List (Option Value × Value) → Option R → Option R
  | [], r => r
  | (x, v) :: l, r => chk x v (chks l r)

/-- Operations that only look into memory. -/
def readOf (P : Program) (t : List Value) (op : Op) : Option (CH → Option Value) :=
  match op with
  | .load ty a => some (loadV P ty (ev t a))
  | .lookup ty x k ok => some (cLookup P ty (ev t x) (ev t k) ok)
  | .convert s d x => match P.underlying s, P.underlying d with
    | some (.slice _), some .string => some (cToStr P s d (ev t x))
    | _, _ => none
  | .call { callee := .builtin .len, args, argTypes } => match argTypes[0]? with
    | some ty => match P.underlying ty with
      | some (.map _ _) => some (cLen P ty (ev t (args.getD 0 (.const undef))))
      | _ => none
    | none => none
  | _ => none
/-- Operations that neither look into memory nor turn it. -/
def pureOf (P : Program) (t : List Value) (op : Op) : Option (Option Value) :=
  match op with
  | .move x | .assign x => some (some (ev t x))
  | .build ty ps => some (cBuild P ty (ps.toList.map fun (i, x) => (i, ev t x)))
  | .nilCheck x => some (match ev t x with
    | .pointer (some a) => some (.pointer (some a))
    | .func (.func f) a c => some (.func (.func f) a c)
    | _ => none)
  | .binOp op ty x y _ => some (cBin P op ty (ev t x) (ev t y))
  | .unOp op _ x => some (cUn op (ev t x))
  | .convert s d x => match P.underlying s, P.underlying d with
    | some (.slice _), some .string => none
    | some .string, some (.slice _) => none
    | _, _ => some (cConv P s d (ev t x))
  | .makeInterface ty x => some (match P.underlying ty with
    | some (.interface _) => none
    | some _ => some (.iface ty (ev t x))
    | none => none)
  | .makeFunc fn a c => some (match fn with
    | .func f => some (.func (.func f) (a.map (ev t)) (c.map (ev t)))
    | .via ty p f ptr => some (.func (.via ty p f ptr) (a.map (ev t)) (c.map (ev t)))
    | _ => none)
  | .slice ty x lo hi mx => some (cSlice P ty (ev t x) (lo.map (ev t)) (hi.map (ev t)) (mx.map (ev t)))
  | .fieldAddr ty x f => some (cFieldAddr P ty (ev t x) f)
  | .field ty x f => some (cField P ty (ev t x) f)
  | .indexAddr ty x i => some (cIndexAddr P ty (ev t x) (ev t i))
  | .index ty x i => some (cIndex P ty (ev t x) (ev t i))
  | .extract x i => some (cExtract (ev t x) i)
  | .call { callee := .builtin .len, args, argTypes } => match argTypes[0]? with
    | some ty => match P.underlying ty with
      | some (.map _ _) => none
      | some .string => some (lenStr (ev t (args.getD 0 (.const undef))))
      | some (.slice _) => some (lenSl (ev t (args.getD 0 (.const undef))))
      | some (.array n _) => some (if args.size = 1 then some (goInt n) else none)
      | _ => none
    | none => none
  | .call { callee := .builtin .min, args, .. } => some (cMinMax false (args.toList.map (ev t)))
  | .call { callee := .builtin .max, args, .. } => some (cMinMax true (args.toList.map (ev t)))
  | _ => none

section
variable (P : Program) (O : Orc)

/-- All the others, but for 'pick' and 'defer'. -/
def effOf (t : List Value) (op : Op) (H : CH) : Option (Value × CH) :=
  match op with
  | .alloc e => (zeroOf P e).bind fun z => some (newV H e z)
  | .box e x => (cellsOf (ev t x)).bind fun l => some (newV H e l)
  | .buildSlice ty n ps => cBuildSlice P ty n (ps.toList.map fun (i, x) => (i, ev t x)) H
  | .store ty a x => (storeV P ty (ev t a) (ev t x) H).map fun H' => (undef, H')
  | .convert s d x => cToBytes P s d (ev t x) H
  | .makeMap _ none => some (.map (some H.n), H.new (.map [] 0))
  | .makeSlice ty l c => cMakeSlice P ty (ev t l) (ev t c) H
  | .mapUpdate ty m k x => (cMapSet P ty (ev t m) (ev t k) (ev t x) H).map fun H' => (undef, H')
  | .insert ty m k x => (cMapSet P ty (ev t m) (ev t k) (ev t x) H).map fun H' => (undef, H')
  | .call { callee := .builtin .append, args, argTypes } => cAppend P argTypes (ev t (args.getD 0 (.const undef))) (ev t (args.getD 1 (.const undef))) H
  | .call { callee := .builtin .copy, args, argTypes } => cCopy P argTypes (ev t (args.getD 0 (.const undef))) (ev t (args.getD 1 (.const undef))) H
  | .call { callee := .value f, args, .. } => callV P O (ev t f) (args.toList.map (ev t)) H
  | _ => none

/-- One operation. -/
def iop (c : Ctx) (o : Oper) (st : St) (H : CH) {R : Type} (K : Value → St → CH → Option R) : Option R :=
  match o.op with
  | .pick x a b => (asB (ev st.t x)).bind fun t => cond t (K (ev st.t a) st H) (K (ev st.t b) st H)
  | .defer { callee := .value f, args, .. } =>
    if c.round.isSome then none else
    match ev st.t f with
    | .func (.func g) a cs => if okFn P g then K undef { st with ds := { target := .fn (.func g) cs, args := a ++ args.map (ev st.t) } :: st.ds } H else none
    | _ => none
  | op => match pureOf P st.t op with
    | some x => x.bind fun v => K v st H
    | none => match readOf P st.t op with
      | some x => (x H).bind fun v => K v st H
      | none => (effOf P O st.t op H).bind fun r => K r.1 st r.2

/-- An operation under its guard. The guard's outcome stands in its slot from there on. -/
def iguard (c : Ctx) (ops : Array Oper) (o : Oper) (st : St) (H : CH) {R : Type} (K : Value → St → CH → Option R) : Option R :=
  match o.guard with
  | none => iop P O c o st H K
  | some (j, want) =>
    match (ops[j]?).bind (·.dst) with
    | none => none
    | some d => (asB (st.t.getD d undef)).bind fun b =>
      cond b
        (cond want (iop P O c o { st with t := st.t.set d (.bool true) } H K) (K undef { st with t := st.t.set d (.bool true) } H))
        (cond want (K undef { st with t := st.t.set d (.bool false) } H) (iop P O c o { st with t := st.t.set d (.bool false) } H K))

/-- A region in the order of the text. -/
def iops (c : Ctx) (ops : Array Oper) : List Oper → St → CH → {R : Type} → (St → CH → Option R) → Option R
  | [], st, H, _, K => K st H
  | o :: r, st, H, _, K => iguard P O c ops o st H fun v st H => iops c ops r (st.put o.dst v) H K

/-! ### A region whose order is drawn -/
/-- What must come before, by the edges that bind always: a row of bits for each operation. -/
def isRead (op : Op) : Bool := (readOf P [] op).isSome && (pureOf P [] op).isNone
def isEff (op : Op) : Bool :=
  match op with
  | .pick .. => false
  | _ => (pureOf P [] op).isNone && (readOf P [] op).isNone
def namesOf (ops : Array Oper) (o : Oper) : List Tmp :=
  o.dst.toList ++ (o.op.operands.toList.filterMap fun | .tmp t => some t | _ => none) ++ (match o.guard with | some (g, _) => ((ops[g]?).bind (·.dst)).toList | none => [])
/-- May the region be gone through in the order of the text? Each temporary's writers stand in order with all that name it; what turns memory stands in order; edges go back. -/
def regOk (ops : Array Oper) : Bool :=
  let pre := Region.before ops
  let l := ops.toList.zipIdx
  l.all fun (o, i) =>
    (o.after.toList.all fun e => !Region.binds .any e || decide (e.on < i)) &&
    (match o.guard with | some (g, _) => o.after.toList.any (fun e => e.on == g && Region.binds .any e) | none => true) &&
    (match o.op with | .defer _ => false | _ => true) &&
    (l.all fun (p, j) => if i < j then
        ((match o.dst with | some d => !(namesOf ops p).contains d | none => true) && (match p.dst with | some d => !(namesOf ops o).contains d | none => true) && !(isEff P o.op && isEff P p.op)) || (pre.getD j 0).testBit i
      else true)

structure Acc where
  rds : List (Nat × (CH → Option Value) × Value)
  efs : List (Nat × CH)

/-- The checks behind an operation of a region that draws. -/
noncomputable def dchk (pre : Nat) (rd : Option (CH → Option Value)) (eff : Bool) (i : Nat) (v : Value) (H H' : CH) (acc : Acc) {R : Type} (K : Acc → Option R) : Option R :=
  match rd with
  | some f => chks ((acc.efs.filter fun x => !pre.testBit x.1).map fun x => (f x.2, v)) (K { acc with rds := (i, f, v) :: acc.rds })
  | none => if eff then chks ((acc.rds.filter fun x => !pre.testBit x.1).map fun x => (x.2.1 H', x.2.2)) (K { acc with efs := (i, H) :: acc.efs }) else K acc
noncomputable def iopsD (c : Ctx) (ops : Array Oper) (pre : Array Nat) : Nat → List Oper → Acc → St → CH → {R : Type} → (St → CH → Option R) → Option R
  | _, [], _, st, H, _, K => K st H
  | i, o :: r, acc, st, H, _, K => iguardD i o acc st H fun acc v st H => iopsD c ops pre (i + 1) r acc (st.put o.dst v) H K
where
  one (i : Nat) (o : Oper) (acc : Acc) (st : St) (H : CH) {R : Type} (K : Acc → Value → St → CH → Option R) : Option R :=
    iop P O c o st H fun v st' H' => dchk (pre.getD i 0) (if isRead P o.op then readOf P st.t o.op else none) (isEff P o.op) i v H H' acc fun acc => K acc v st' H'
  iguardD (i : Nat) (o : Oper) (acc : Acc) (st : St) (H : CH) {R : Type} (K : Acc → Value → St → CH → Option R) : Option R :=
    match o.guard with
    | none => one i o acc st H K
    | some (j, want) =>
      match (ops[j]?).bind (·.dst) with
      | none => none
      | some d => (asB (st.t.getD d undef)).bind fun b =>
        cond b
          (cond want (one i o acc { st with t := st.t.set d (.bool true) } H K) (K acc undef { st with t := st.t.set d (.bool true) } H))
          (cond want (K acc undef { st with t := st.t.set d (.bool false) } H) (one i o acc { st with t := st.t.set d (.bool false) } H K))

/-- The slots that a region leaves: written, and not read behind that. -/
def readsT (ops : Array Oper) (o : Oper) : List Tmp :=
  (o.op.operands.toList.filterMap fun | .tmp t => some t | _ => none) ++ (match o.guard with | some (g, _) => ((ops[g]?).bind (·.dst)).toList | none => [])
def sinks (ops : Array Oper) : List Oper → List Tmp
  | [] => []
  | o :: r => match o.dst with
    | some d => if r.any (fun p => (readsT ops p).contains d || p.dst == some d) then sinks ops r else d :: sinks ops r
    | none => sinks ops r
def dsts (ops : List Oper) : List Tmp := ops.filterMap (·.dst)
def setAll (t : List Value) : List Tmp → List Value → List Value
  | d :: ds, v :: vs => setAll (t.set d v) ds vs
  | _, _ => t
def clearAll (t : List Value) (ds : List Tmp) : List Value := ds.foldl (fun t d => t.set d undef) t

noncomputable def iregion (c : Ctx) (ops : Array Oper) (draw : Bool) (st : St) (H : CH) {R : Type} (K : St → CH → Option R) : Option R :=
  cond draw (cond (regOk P ops) (iopsD P O c ops (Region.before ops) 0 ops.toList ⟨[], []⟩ st H K) none) (iops P O c ops ops.toList st H K)
noncomputable def iregionG (c : Ctx) (ops : Array Oper) (draw : Bool) (st : St) (H : CH) {R : Type} (K : St → CH → Option R) : Option R :=
  cond (ops.toList.any (·.guard.isSome))
    ((iregion P O c ops draw st H fun st H => some (gather (sinks ops ops.toList) st.t, st.ds, H)).bind fun r =>
      K ⟨setAll (clearAll st.t (dsts ops.toList)) (sinks ops ops.toList) r.1, r.2.1⟩ r.2.2)
    (iregion P O c ops draw st H K)

/-! ### Code -/
/-- May it end at its end? -/
def ft : Code → Bool
  | .seq a b => ft a && ft b
  | .cond _ a b => ft a || ft b
  | .block id b => ft b || exits id b
  | .loop _ => false
  | .exit _ | .ret | .goto _ | .refuse _ => false
  | .scope a => ft a
  | _ => true
where
  exits (id : Nat) : Code → Bool
  | .seq a b => exits id a || exits id b
  | .cond _ a b => exits id a || exits id b
  | .block _ b => exits id b
  | .loop b => exits id b
  | .exit j => j == id
  | .scope a => exits id a
  | .rangeFunc _ _ _ b => exits id b
  | _ => false
/-- How many exits to a block, outside of loops. -/
def waysTo (id : Nat) : Code → Nat
  | .seq a b => waysTo id a + waysTo id b
  | .cond _ a b => waysTo id a + waysTo id b
  | .block _ b => waysTo id b
  | .exit j => if j == id then 1 else 0
  | .scope a => waysTo id a
  | _ => 0

/-- The record of a loop that this run has made. -/
def ownLp (H : CH) (l : Nat) : Option Loop :=
  match H.get l with
  | some (.loop L) => cond (Nat.ble H.lim l) (some L) none
  | _ => none
def endLp (H : CH) (l : Nat) : Option (Nat × CH) :=
  (ownLp H l).bind fun L => cond (L.state == .busy) none
    (match L.pending with
    | none => some (0, H.put l (some (.loop { L with state := .exhausted })))
    | some .ret => some (1, H.put l (some (.loop { L with state := .exhausted })))
    | some (.exit id) => some (id + 2, H.put l (some (.loop { L with state := .exhausted })))
    | _ => none)
/-- Entering a range over a function: the block of its deferred calls, its mark. -/
def enterLp (rnd : Option Nat) (H : CH) : Option (Nat × List Deferred × CH) :=
  match rnd with
  | none => some (H.n, [{ target := .collected H.n, args := #[] }], H.new (.defs true))
  | some l => match H.get l with
    | some (.loop L) => some (L.defers, [], H)
    | _ => none
def leaf (c : Ctx) (e : Nat) (st : St) (H : CH) : Option (Nat × List Value × List Deferred × CH) := some (e, gather c.keep st.t, st.ds, H)

noncomputable def icode (c : Ctx) : Code → St → CH → {R : Type} → (Nat → St → CH → Option R) → Option R
  | .skip, st, H, _, K => K 0 st H
  | .label _, st, H, _, K => K 0 st H
  | .seq a b, st, H, _, K => icode c a st H fun e st H => cond (e == 0) (icode c b st H K) (K e st H)
  | .cond x a b, st, H, _, K => (asB (ev st.t x)).bind fun t =>
    cond (ft a && ft b)
      ((cond t (icode c a st H (leaf c)) (icode c b st H (leaf c))).bind fun r => K r.1 ⟨spread c.n c.keep r.2.1, r.2.2.1⟩ r.2.2.2)
      (cond t (icode c a st H K) (icode c b st H K))
  | .block id a, st, H, _, K =>
    cond (Nat.ble 2 (waysTo id a + cond (ft a) 1 0))
      ((icode c a st H (leaf c)).bind fun r => K (cond (r.1 == id + 2) 0 r.1) ⟨spread c.n c.keep r.2.1, r.2.2.1⟩ r.2.2.2)
      (icode c a st H fun e st H => K (cond (e == id + 2) 0 e) st H)
  | .loop a, st, H, _, K => (O.loop c.fn c.round a (gather c.keep st.t) st.ds H).bind fun r => K r.1 ⟨spread c.n c.keep r.2.1, r.2.2.1⟩ r.2.2.2
  | .exit id, st, H, _, K => K (id + 2) st H
  | .ret, st, H, _, K => K 1 st H
  | .region _ ops d, st, H, _, K => iregionG P O c ops d st H fun st H => K 0 st H
  | .rangeFunc f ps assign body, st, H, _, K =>
    match ev st.t f with
    | .func (.func g) a cs => if !okFn P g then none else
      (enterLp c.round H).bind fun q =>
        (O.call g (a.toList ++ [.func (.yield q.2.2.n) #[] #[]] ++ cs.toList)
          (q.2.2.new (.loop { state := .ready, pending := none, fn := c.fn, tmps := ⟨spread c.n c.keep (gather c.keep st.t)⟩, params := ps, assign, body, defers := q.1 }))).bind fun r =>
          (endLp r.2 q.2.2.n).bind fun x => K x.1 { st with ds := q.2.1 ++ st.ds } x.2
    | _ => none
  | .scope _, _, _, _, _ => none
  | .goto _, _, _, _, _ => none
  | .refuse _, _, _, _, _ => none

def runDefs : List Deferred → CH → {R : Type} → (CH → Option R) → Option R
  | [], H, _, K => K H
  | d :: r, H, _, K =>
    match d.target with
    | .collected b => match H.get b with
      | some (.defs true) => cond (Nat.ble H.lim b) (runDefs r (H.put b (some (.defs false))) K) none
      | _ => none
    | _ => none
def resultsOf (t : List Value) (H : CH) : List ResultVar → Option (List Value)
  | [] => some []
  | .tmp i :: r => (resultsOf t H r).map (t.getD i undef :: ·)
  | .cell a ty :: r => (loadV P ty (t.getD a undef) H).bind fun v => (resultsOf t H r).map (v :: ·)
def one (vs : List Value) : Value :=
  match vs with
  | [v] => v
  | vs => .tuple ⟨vs⟩

variable (keep : FuncId → List Nat)
def ctxOf (f : FuncId) (fn : Func) (rnd : Option Nat) : Ctx := ⟨f, rnd, fn.ntmps, keep f⟩
noncomputable def icall (f : FuncId) (args : List Value) (H : CH) : Option (Value × CH) :=
  (P.funcs[f]?).bind fun fn => fn.body.bind fun c =>
    if args.length ≤ fn.ntmps then
      icode P O (ctxOf keep f fn none) c ⟨args ++ List.replicate (fn.ntmps - args.length) undef, []⟩ H fun e st H =>
        cond (Nat.ble e 1) (runDefs st.ds H fun H => (resultsOf P st.t H fn.results.toList).bind fun vs => some (one vs, H)) none
    else none
noncomputable def iloop (f : FuncId) (rnd : Option Nat) (body : Code) (vs : List Value) (ds : List Deferred) (H : CH) : Option (Nat × List Value × List Deferred × CH) :=
  (P.funcs[f]?).bind fun fn =>
    icode P O (ctxOf keep f fn rnd) body ⟨spread fn.ntmps (keep f) vs, ds⟩ H fun e st H =>
      cond (e == 0) (O.loop f rnd body (gather (keep f) st.t) st.ds H) (some (e, gather (keep f) st.t, st.ds, H))
def begRound (l : Nat) (H : CH) : Option CH :=
  (ownLp H l).bind fun L => cond (L.state == .ready) (some (H.put l (some (.loop { L with state := .busy })))) none
def endRound (l : Nat) (e : Nat) (H : CH) : Option (Value × CH) :=
  (ownLp H l).bind fun L => some (.bool (e == 0), H.put l (some (.loop { L with state := cond (e == 0) .ready .done, pending := cond (e == 0) none (some (cond (e == 1) .ret (.exit (e - 2)))) })))
noncomputable def iround (l : Nat) (args : List Value) (H : CH) : Option (Value × CH) :=
  match H.get l with
  | some (.loop L) => (P.funcs[L.fn]?).bind fun fn =>
    if args.length = L.params.size ∧ L.tmps.size = fn.ntmps then
      icode P O (ctxOf keep L.fn fn (some l)) L.assign ⟨(L.params.toList.zip args).foldl (fun t (p, a) => t.set p a) L.tmps.toList, []⟩ H fun e st H =>
        cond (e == 0) ((begRound l H).bind fun H => icode P O (ctxOf keep L.fn fn (some l)) L.body st H fun e st H => cond st.ds.isEmpty (endRound l e H) none) none
    else none
  | _ => none
end

/-- So many steps down. -/
noncomputable def orc (P : Program) (keep : FuncId → List Nat) : Nat → Orc
  | 0 => ⟨fun _ _ _ => none, fun _ _ _ _ _ _ => none, fun _ _ _ => none⟩
  | k + 1 => ⟨icall P (orc P keep k) keep, iloop P (orc P keep k) keep, iround P (orc P keep k) keep⟩
end Go.Cn
