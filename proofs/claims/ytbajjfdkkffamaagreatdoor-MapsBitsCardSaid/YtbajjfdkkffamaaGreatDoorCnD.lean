/- The canonical run: code on the canonical heap, in the order of the text, in continuation's form. -/
import Derived.Test.YtbajjfdkkffamaaGreatDoorCnC
namespace Go.Cn
set_option linter.unusedVariables false
set_option linter.unusedSimpArgs false

structure St where
  t : List Value
  ds : List Deferred

/-- What a run asks of calls, loops, and rounds of a range over a function. -/
structure Orc where
  call : FuncId → List Value → CH → Option (Value × CH)
  loop : FuncId → Option Nat → Code → List Value → List Deferred → CH → Option (Nat × List Value × List Deferred × CH)
  round : Nat → List Value → CH → Option (Value × CH)

structure Ctx where
  fn : FuncId
  round : Option Nat
  n : Nat
  keep : List Nat
  nod : Bool

def gather (keep : List Nat) (t : List Value) : List Value := keep.map fun i => t.getD i undef
def spread (n : Nat) (keep : List Nat) (vs : List Value) : List Value := (keep.zip vs).foldl (fun t (i, v) => t.set i v) (List.replicate n undef)
def St.put (st : St) (d : Option Tmp) (v : Value) : St :=
  match d with
  | some d => { st with t := st.t.set d v }
  | none => st
/-- A slot is set, and the list stands plain again. -/
def putK {R : Type} : List Value → Nat → Value → (List Value → R) → R
  | [], _, _, k => k []
  | a :: l, n, v, k =>
    match n with
    | 0 => k (v :: l)
    | n + 1 => putK l n v fun l' => k (a :: l')
theorem putK_eq {R : Type} (v : Value) : ∀ (t : List Value) (n : Nat) (k : List Value → R), putK t n v k = k (t.set n v)
  | [], n, k => rfl
  | a :: l, 0, k => rfl
  | a :: l, n + 1, k => by simp only [putK, List.set_cons_succ]; exact putK_eq v l n _
def plainL {R : Type} : List Value → (List Value → R) → R
  | [], k => k []
  | a :: l, k => plainL l fun l' => k (a :: l')
theorem plainL_eq {R : Type} : ∀ (t : List Value) (k : List Value → R), plainL t k = k t
  | [], k => rfl
  | a :: l, k => by simp only [plainL]; exact plainL_eq l _
def St.putK {R : Type} (st : St) (d : Option Tmp) (v : Value) (k : St → R) : R :=
  match d with
  | some d => Cn.putK st.t d v fun t => k ⟨t, st.ds⟩
  | none => k st
theorem St.putK_eq {R : Type} (st : St) (d : Option Tmp) (v : Value) (k : St → R) : st.putK d v k = k (st.put d v) := by
  cases d with
  | none => rfl
  | some d => exact Cn.putK_eq v st.t d _
def ev (t : List Value) : Operand → Value
  | .tmp i => t.getD i undef
  | .const v => if clean v then v else undef
  | .global g => cond (Nat.blt g gN) (.pointer (some ⟨g, 0, none⟩)) undef
  | .func f => .func (.func f) #[] #[]

def okFn (P : Program) (f : FuncId) : Bool :=
  match P.funcs[f]? with
  | some fn => fn.body.isSome && !(fn.name == "runtime.NumGoroutine")
  | none => false
def okVia (P : Program) (t : TypeId) (ptr : Bool) : Bool :=
  match P.underlying t, ptr with
  | some (.pointer _), true => true
  | some (.pointer _), false => false
  | some _, false => true
  | _, _ => false
def callV (P : Program) (O : Orc) (v : Value) (args : List Value) (H : CH) : Option (Value × CH) :=
  match v with
  | .func (.func f) a c => if okFn P f then O.call f (a.toList ++ args ++ c.toList) H else none
  | .func (.via t p f ptr) a _ => if p.isEmpty && okVia P t ptr && okFn P f && !(a.toList ++ args).isEmpty then O.call f (a.toList ++ args) H else none
  | .func (.yield l) a c => if a.isEmpty && c.isEmpty then O.round l args H else none
  | _ => none

/-- A test that tells likeness where it can. -/
def eqLs (f : Value → Value → Bool) : List Value → List Value → Bool
  | [], [] => true
  | a :: l, b :: m => f a b && eqLs f l m
  | _, _ => false
def eqV : Nat → Value → Value → Bool
  | 0, _, _ => false
  | _ + 1, .bool a, .bool b => a == b
  | _ + 1, .int k a, .int j b => decide (k = j) && decide (a = b)
  | _ + 1, .pointer a, .pointer b => decide (a = b)
  | _ + 1, .slice a l c, .slice b m d => decide (a = b) && (l == m && c == d)
  | _ + 1, .map a, .map b => decide (a = b)
  | _ + 1, .nilFunc, .nilFunc => true
  | _ + 1, .nilIface, .nilIface => true
  | d + 1, .iface t a, .iface u b => decide (t = u) && eqV d a b
  | d + 1, .agg a, .agg b => eqLs (eqV d) a.toList b.toList
  | d + 1, .tuple a, .tuple b => eqLs (eqV d) a.toList b.toList
  | d + 1, .func f a c, .func g b e => decide (f = g) && (eqLs (eqV d) a.toList b.toList && eqLs (eqV d) c.toList e.toList)
  | _, _, _ => false
theorem eqLs_eq {f : Value → Value → Bool} (hf : ∀ a b, f a b = true → a = b) : ∀ l m, eqLs f l m = true → l = m
  | [], [], _ => rfl
  | a :: l, b :: m, h => by
    simp only [eqLs, Bool.and_eq_true] at h
    rw [hf a b h.1, eqLs_eq hf l m h.2]
  | [], _ :: _, h => by cases h
  | _ :: _, [], h => by cases h
theorem eqV_eq : ∀ d a b, eqV d a b = true → a = b
  | 0, _, _, h => by simp [eqV] at h
  | d + 1, a, b, h => by
    have ih := eqLs_eq (eqV_eq d)
    cases a <;> cases b <;> simp [eqV] at h <;> first
      | rfl
      | (subst h; rfl)
      | (obtain ⟨rfl, rfl⟩ := h; rfl)
      | (obtain ⟨rfl, rfl, rfl⟩ := h; rfl)
      | (obtain ⟨h1, h2⟩ := h; rw [h1, eqV_eq d _ _ h2])
      | (have := ih _ _ h; rw [Array.toList_inj.1 this])
      | (obtain ⟨h1, h2, h3⟩ := h; rw [h1, Array.toList_inj.1 (ih _ _ h2), Array.toList_inj.1 (ih _ _ h3)])
def eqO : Option Value → Value → Bool
  | some x, v => eqV 20 x v
  | none, _ => false
open Classical in
/-- A look that must come to a value, else nothing is said. -/
noncomputable def chk {R : Type} (x : Option Value) (v : Value) (r : Option R) : Option R := cond (eqO x v) r (if x = some v then r else none)
theorem chk_some {R : Type} {x : Option Value} {v : Value} {r : Option R} {y : R} (h : chk x v r = some y) : x = some v ∧ r = some y := by
  unfold chk at h
  cases he : eqO x v with
  | true =>
    rw [he, cond_true] at h
    cases x with
    | none => cases he
    | some x => exact ⟨congrArg some (eqV_eq _ _ _ he), h⟩
  | false =>
    rw [he, cond_false] at h
    split at h
    · exact ⟨by assumption, h⟩
    · cases h
theorem chk_pos {R : Type} {x : Option Value} {v : Value} {r : Option R} (h : x = some v) : chk x v r = r := by
  unfold chk
  cases eqO x v with
  | true => rfl
  | false => rw [cond_false, if_pos h]
noncomputable def chks {R : Type} : List (Option Value × Value) → Option R → Option R
  | [], r => r
  | (x, v) :: l, r => chk x v (chks l r)

/-- Operations that only look into memory. -/
def readOf (P : Program) (t : List Value) (op : Op) : Option (CH → Option Value) :=
  match op with
  | .load ty a => some (loadV P ty (ev t a))
  | .lookup ty x k ok => some (cLookup P ty (ev t x) (ev t k) ok)
  | .convert s d x => match P.underlying s, P.underlying d with
    | some (.slice _), some .string => some (cToStr P s d (ev t x))
    | _, _ => none
  | .call { callee := .builtin .len, args, argTypes } => match argTypes[0]? with
    | some ty => match P.underlying ty with
      | some (.map _ _) => some (cLen P ty (ev t (args.getD 0 (.const undef))))
      | _ => none
    | none => none
  | _ => none
/-- Operations that neither look into memory nor turn it. -/
def pureOf (P : Program) (t : List Value) (op : Op) : Option (Option Value) :=
  match op with
  | .move x | .assign x => some (some (ev t x))
  | .build ty ps => some (cBuild P ty (ps.toList.map fun (i, x) => (i, ev t x)))
  | .nilCheck x => some (match ev t x with
    | .pointer (some a) => some (.pointer (some a))
    | .func (.func f) a c => some (.func (.func f) a c)
    | _ => none)
  | .binOp op ty x y _ => some (cBin P op ty (ev t x) (ev t y))
  | .unOp op _ x => some (cUn op (ev t x))
  | .convert s d x => match P.underlying s, P.underlying d with
    | some (.slice _), some .string => none
    | some .string, some (.slice _) => none
    | _, _ => some (cConv P s d (ev t x))
  | .makeInterface ty x => some (match P.underlying ty with
    | some (.interface _) => none
    | some _ => some (.iface ty (ev t x))
    | none => none)
  | .makeFunc fn a c => some (match fn with
    | .func f => some (.func (.func f) (a.map (ev t)) (c.map (ev t)))
    | .via ty p f ptr => some (.func (.via ty p f ptr) (a.map (ev t)) (c.map (ev t)))
    | _ => none)
  | .slice ty x lo hi mx => some (cSlice P ty (ev t x) (lo.map (ev t)) (hi.map (ev t)) (mx.map (ev t)))
  | .fieldAddr ty x f => some (cFieldAddr P ty (ev t x) f)
  | .field ty x f => some (cField P ty (ev t x) f)
  | .indexAddr ty x i => some (cIndexAddr P ty (ev t x) (ev t i))
  | .index ty x i => some (cIndex P ty (ev t x) (ev t i))
  | .extract x i => some (cExtract (ev t x) i)
  | .call { callee := .builtin .len, args, argTypes } => match argTypes[0]? with
    | some ty => match P.underlying ty with
      | some (.map _ _) => none
      | some .string => some (lenStr (ev t (args.getD 0 (.const undef))))
      | some (.slice _) => some (lenSl (ev t (args.getD 0 (.const undef))))
      | some (.array n _) => some (if args.size = 1 then some (goInt n) else none)
      | _ => none
    | none => none
  | .call { callee := .builtin .min, args, .. } => some (cMinMax false (args.toList.map (ev t)))
  | .call { callee := .builtin .max, args, .. } => some (cMinMax true (args.toList.map (ev t)))
  | _ => none

section
variable (P : Program) (O : Orc)

/-- All the others, but for 'pick' and 'defer'. -/
def effOf (t : List Value) (op : Op) (H : CH) : Option (Value × CH) :=
  match op with
  | .alloc e => (zeroOf P e).bind fun z => some (newV H e z)
  | .box e x => (cellsOf (ev t x)).bind fun l => some (newV H e l)
  | .buildSlice ty n ps => cBuildSlice P ty n (ps.toList.map fun (i, x) => (i, ev t x)) H
  | .store ty a x => (storeV P ty (ev t a) (ev t x) H).map fun H' => (undef, H')
  | .convert s d x => cToBytes P s d (ev t x) H
  | .makeMap _ none => some (.map (some H.n), H.new (.map [] 0))
  | .makeSlice ty l c => cMakeSlice P ty (ev t l) (ev t c) H
  | .mapUpdate ty m k x => (cMapSet P ty (ev t m) (ev t k) (ev t x) H).map fun H' => (undef, H')
  | .insert ty m k x => (cMapSet P ty (ev t m) (ev t k) (ev t x) H).map fun H' => (undef, H')
  | .call { callee := .builtin .append, args, argTypes } => cAppend P argTypes (ev t (args.getD 0 (.const undef))) (ev t (args.getD 1 (.const undef))) H
  | .call { callee := .builtin .copy, args, argTypes } => cCopy P argTypes (ev t (args.getD 0 (.const undef))) (ev t (args.getD 1 (.const undef))) H
  | .call { callee := .value f, args, .. } => callV P O (ev t f) (args.toList.map (ev t)) H
  | _ => none

/-- One operation. -/
def iop (c : Ctx) (o : Oper) (st : St) (H : CH) {R : Type} (K : Value → St → CH → Option R) : Option R :=
  match o.op with
  | .pick x a b => (asB (ev st.t x)).bind fun t => K (cond t (ev st.t a) (ev st.t b)) st H
  | .defer { callee := .value f, args, .. } =>
    if c.round.isSome then none else
    match ev st.t f with
    | .func (.func g) a cs => if okFn P g then K undef { st with ds := { target := .fn (.func g) cs, args := a ++ args.map (ev st.t) } :: st.ds } H else none
    | _ => none
  | op => match pureOf P st.t op with
    | some x => x.bind fun v => K v st H
    | none => match readOf P st.t op with
      | some x => (x H).bind fun v => K v st H
      | none => (effOf P O st.t op H).bind fun r => K r.1 st r.2
def getK {R : Type} : List Value → Nat → (Value → R) → R
  | [], _, k => k undef
  | a :: l, n, k =>
    match n with
    | 0 => k a
    | n + 1 => getK l n k
theorem getK_eq {R : Type} : ∀ (t : List Value) (n : Nat) (k : Value → R), getK t n k = k (t.getD n undef)
  | [], n, k => by simp [getK]
  | a :: l, 0, k => by simp [getK]
  | a :: l, n + 1, k => by simp only [getK]; rw [getK_eq l n k]; simp
def evK {R : Type} (t : List Value) (x : Operand) (k : Value → R) : R :=
  match x with
  | .tmp i => getK t i k
  | .const v => cond (clean v) (k v) (k undef)
  | x => k (ev t x)
theorem evK_eq {R : Type} (t : List Value) (x : Operand) (k : Value → R) : evK t x k = k (ev t x) := by
  cases x with
  | tmp i => exact getK_eq t i k
  | const v => simp only [evK, ev]; cases clean v <;> rfl
  | global g => rfl
  | func f => rfl
/-- As 'iop', but that a slot's own value is handed on. -/
def iopE (c : Ctx) (o : Oper) (st : St) (H : CH) {R : Type} (K : Value → St → CH → Option R) : Option R :=
  match o.op with
  | .move x => evK st.t x fun v => K v st H
  | .assign x => evK st.t x fun v => K v st H
  | .pick x a b => evK st.t a fun va => evK st.t b fun vb => (asB (ev st.t x)).bind fun t => K (cond t va vb) st H
  | _ => iop P O c o st H K
theorem iopE_eq (c : Ctx) (o : Oper) (st : St) (H : CH) {R : Type} (K : Value → St → CH → Option R) : iopE P O c o st H K = iop P O c o st H K := by
  unfold iopE
  split
  · rename_i x h; rw [evK_eq]; unfold iop; rw [h]; rfl
  · rename_i x h; rw [evK_eq]; unfold iop; rw [h]; rfl
  · rename_i x a b h; rw [evK_eq, evK_eq]; unfold iop; rw [h]
  · rfl
/-- What is done only where a guard's outcome is the one that is wanted. -/
def gdo {α : Type} (b want : Bool) (x d : Option α) : Option α := cond b (cond want x d) (cond want d x)
/-- An operation under a guard whose outcome is b. -/
def iopG (b want : Bool) (c : Ctx) (o : Oper) (st : St) (H : CH) {R : Type} (K : Value → St → CH → Option R) : Option R :=
  match o.op with
  | .pick x p q => (gdo b want ((asB (ev st.t x)).map fun t => cond t (ev st.t p) (ev st.t q)) (some undef)).bind fun v => K v st H
  | .defer _ => none
  | op => match pureOf P st.t op with
    | some x => (gdo b want x (some undef)).bind fun v => K v st H
    | none => match readOf P st.t op with
      | some x => (gdo b want (x H) (some undef)).bind fun v => K v st H
      | none => (gdo b want (effOf P O st.t op H) (some (undef, H))).bind fun r => K r.1 st r.2

/-- An operation under its guard. -/
def iguard (c : Ctx) (ops : Array Oper) (o : Oper) (st : St) (H : CH) {R : Type} (K : Value → St → CH → Option R) : Option R :=
  match o.guard with
  | none => iopE P O c o st H K
  | some (j, want) =>
    match (ops[j]?).bind (·.dst) with
    | none => none
    | some d => (asB (st.t.getD d undef)).bind fun b => iopG P O b want c o st H K

/-- A region in the order of the text. -/
def iops (c : Ctx) (ops : Array Oper) : List Oper → St → CH → {R : Type} → (St → CH → Option R) → Option R
  | [], st, H, _, K => K st H
  | o :: r, st, H, _, K => iguard P O c ops o st H fun v st H => st.putK o.dst v fun st => iops c ops r st H K

/-! ### A region whose order is drawn -/
/-- What must come before, by the edges that bind always: a row of bits for each operation. -/
def isRead (op : Op) : Bool := (readOf P [] op).isSome && (pureOf P [] op).isNone
def isEff (op : Op) : Bool :=
  match op with
  | .pick .. => false
  | _ => (pureOf P [] op).isNone && (readOf P [] op).isNone
def namesOf (ops : Array Oper) (o : Oper) : List Tmp :=
  o.dst.toList ++ (o.op.operands.toList.filterMap fun | .tmp t => some t | _ => none) ++ (match o.guard with | some (g, _) => ((ops[g]?).bind (·.dst)).toList | none => [])
/-- An operation that makes a block of its own; it need not stand in order where its block is reserved ahead. -/
def isAl (op : Op) : Bool :=
  match op with
  | .alloc _ => true
  | _ => false
/-- May the region be gone through in the order of the text? Each temporary's writers stand in order with all that name it; what turns memory stands in order (al: but for what makes a block); edges go back. -/
def regOk (al : Bool) (ops : Array Oper) : Bool :=
  let pre := Region.before ops
  let l := ops.toList.zipIdx
  l.all fun (o, i) =>
    (o.after.toList.all fun e => !Region.binds .any e || decide (e.on < i)) &&
    (match o.guard with | some (g, _) => o.after.toList.any (fun e => e.on == g && Region.binds .any e) | none => true) &&
    (match o.op with | .defer _ => false | _ => true) &&
    (l.all fun (p, j) => if i < j then
        ((match o.dst with | some d => !(namesOf ops p).contains d | none => true) && (match p.dst with | some d => !(namesOf ops o).contains d | none => true) && (!(isEff P o.op && isEff P p.op) || (al && (isAl o.op || isAl p.op)))) || (pre.getD j 0).testBit i
      else true)

structure Acc where
  rds : List (Nat × (CH → Option Value) × Value)
  efs : List (Nat × Bool × CH)

/-- The checks behind an operation of a region that draws ('run': was it done?). -/
noncomputable def dchk (pre : Nat) (rd : Option (CH → Option Value)) (eff run : Bool) (i : Nat) (v : Value) (H H' : CH) (acc : Acc) {R : Type} (K : Acc → Option R) : Option R :=
  match rd with
  | some f => chks ((acc.efs.filter fun x => !pre.testBit x.1).map fun x => (cond x.2.1 (cond run (f x.2.2) (some v)) (some v), v)) (K { acc with rds := (i, (fun G => cond run (f G) (some v)), v) :: acc.rds })
  | none => cond eff (chks ((acc.rds.filter fun x => !pre.testBit x.1).map fun x => (cond run (x.2.1 H') (some x.2.2), x.2.2)) (K { acc with efs := (i, run, H) :: acc.efs })) (K acc)
/-- The block that is reserved for an operation. -/
def alAt (al : List (Nat × Nat × List Value)) (i : Nat) : Option Nat := (al.find? fun x => x.1 == i).map (·.2.1)
/-- The reserved blocks are as they were, but for those that must have been made. -/
def alOk (al : List (Nat × Nat × List Value)) (pre : Nat) (H : CH) : Bool :=
  al.all fun x => pre.testBit x.1 || (match H.get x.2.1 with | some (.cells c _) => eqLs (eqV 1) c x.2.2 | _ => false)
/-- Blocks ahead, for all operations that make one. -/
def reserve : Nat → List Oper → CH → Option (List (Nat × Nat × List Value) × CH)
  | _, [], H => some ([], H)
  | i, o :: r, H =>
    match o.op with
    | .alloc e => (zeroOf P e).bind fun z => (reserve (i + 1) r (H.new (.cells z e))).map fun q => ((i, H.n, z) :: q.1, q.2)
    | _ => reserve (i + 1) r H
noncomputable def iopsD (c : Ctx) (ops : Array Oper) (pre : Array Nat) (al : List (Nat × Nat × List Value)) : Nat → List Oper → Acc → St → CH → {R : Type} → (St → CH → Option R) → Option R
  | _, [], _, st, H, _, K => K st H
  | i, o :: r, acc, st, H, _, K => iguardD i o acc st H fun acc v st H => st.putK o.dst v fun st => iopsD c ops pre al (i + 1) r acc st H K
where
  back (i : Nat) (o : Oper) (run : Bool) (acc : Acc) (t : List Value) (H : CH) {R : Type} (K : Acc → Value → St → CH → Option R) (v : Value) (st' : St) (H' : CH) : Option R :=
    dchk (pre.getD i 0) (if isRead P o.op then readOf P t o.op else none) (isEff P o.op) run i v H H' acc fun acc => cond (!isEff P o.op || (alOk al (pre.getD i 0) H' || !run)) (K acc v st' H') none
  one (i : Nat) (o : Oper) (acc : Acc) (st : St) (H : CH) {R : Type} (K : Acc → Value → St → CH → Option R) : Option R :=
    match alAt al i with
    | some b => K acc (.pointer (some ⟨b, 0, none⟩)) st H
    | none => iopE P O c o st H fun v st' H' => back i o true acc st.t H K v st' H'
  oneG (b want : Bool) (i : Nat) (o : Oper) (acc : Acc) (st : St) (H : CH) {R : Type} (K : Acc → Value → St → CH → Option R) : Option R :=
    match alAt al i with
    | some blk => K acc (cond b (cond want (.pointer (some ⟨blk, 0, none⟩)) undef) (cond want undef (.pointer (some ⟨blk, 0, none⟩)))) st H
    | none => iopG P O b want c o st H fun v st' H' => back i o (b == want) acc st.t H K v st' H'
  iguardD (i : Nat) (o : Oper) (acc : Acc) (st : St) (H : CH) {R : Type} (K : Acc → Value → St → CH → Option R) : Option R :=
    match o.guard with
    | none => one i o acc st H K
    | some (j, want) =>
      match (ops[j]?).bind (·.dst) with
      | none => none
      | some d => (asB (st.t.getD d undef)).bind fun b => oneG b want i o acc st H K

def dsts (ops : List Oper) : List Tmp := ops.filterMap (·.dst)
noncomputable def iregion (c : Ctx) (ops : Array Oper) (draw : Bool) (st : St) (H : CH) {R : Type} (K : St → CH → Option R) : Option R :=
  cond draw
    (cond (regOk P false ops) (iopsD P O c ops (Region.before ops) [] 0 ops.toList ⟨[], []⟩ st H K)
      (cond (regOk P true ops) ((reserve P 0 ops.toList H).bind fun q => iopsD P O c ops (Region.before ops) q.1 0 ops.toList ⟨[], []⟩ st q.2 K) none))
    (iops P O c ops ops.toList st H K)
/-! ### Code -/
/-- May it end at its end? -/
def ft : Code → Bool
  | .seq a b => ft a && ft b
  | .cond _ a b => ft a || ft b
  | .block id b => ft b || exits id b
  | .loop _ => false
  | .exit _ | .ret | .goto _ | .refuse _ => false
  | .scope a => ft a
  | _ => true
where
  exits (id : Nat) : Code → Bool
  | .seq a b => exits id a || exits id b
  | .cond _ a b => exits id a || exits id b
  | .block _ b => exits id b
  | .loop b => exits id b
  | .exit j => j == id
  | .scope a => exits id a
  | .rangeFunc _ _ _ b => exits id b
  | _ => false
/-- How many exits to a block, outside of loops. -/
def waysTo (id : Nat) : Code → Nat
  | .seq a b => waysTo id a + waysTo id b
  | .cond _ a b => waysTo id a + waysTo id b
  | .block _ b => waysTo id b
  | .exit j => if j == id then 1 else 0
  | .scope a => waysTo id a
  | _ => 0

/-- With which outcomes may it end? 0: at its end; 1: a return; id + 2: an exit to a block. -/
def adds (l m : List Nat) : List Nat := l ++ m.filter fun x => !l.contains x
def exs : Code → List Nat
  | .seq a b => adds ((exs a).filter (· != 0)) (cond ((exs a).contains 0) (exs b) [])
  | .cond _ a b => adds (exs a) (exs b)
  | .block id a => adds [] ((exs a).map fun e => cond (e == id + 2) 0 e)
  | .loop a => (exs a).filter (· != 0)
  | .exit id => [id + 2]
  | .ret => [1]
  | .scope a => exs a
  | .rangeFunc _ _ _ b => adds [0] (exs b)
  | .goto _ | .refuse _ => []
  | _ => [0]
/-- Is no call deferred in it, and no function ranged over? -/
def nodC : Code → Bool
  | .seq a b => nodC a && nodC b
  | .cond _ a b => nodC a && nodC b
  | .block _ a => nodC a
  | .loop a => nodC a
  | .scope a => nodC a
  | .rangeFunc _ _ _ _ => false
  | .region _ ops _ => ops.toList.all fun o => match o.op with | .defer _ => false | _ => true
  | _ => true
def w1 {R : Type} (vs : List Value) (k : Value → List Value → Option R) : Option R :=
  match vs with
  | [] => none
  | v :: r => k v r
def withL {R : Type} : Nat → List Value → (List Value → Option R) → Option R
  | 0, _, k => k []
  | n + 1, vs, k => w1 vs fun v r => withL n r fun l => k (v :: l)
def nilD {R : Type} (ds : List Deferred) (x : Option R) : Option R :=
  match ds with
  | [] => x
  | _ :: _ => none
def dsK {R : Type} (nod : Bool) (ds : List Deferred) (k : List Deferred → Option R) : Option R := cond nod (nilD ds (k [])) (k ds)
def disp {R : Type} : List Nat → Nat → (Nat → Option R) → Option R
  | [], _, _ => none
  | e :: es, x, k => cond (x == e) (k e) (disp es x k)
/-- The slots that a code writes; those that it names. -/
def wrC : Code → List Nat
  | .seq a b => wrC a ++ wrC b
  | .cond _ a b => wrC a ++ wrC b
  | .block _ a => wrC a
  | .loop a => wrC a
  | .scope a => wrC a
  | .region _ ops _ => dsts ops.toList
  | _ => []
def tmpsOf (x : Operand) : List Nat :=
  match x with
  | .tmp i => [i]
  | _ => []
def nmC : Code → List Nat
  | .seq a b => nmC a ++ nmC b
  | .cond x a b => tmpsOf x ++ (nmC a ++ nmC b)
  | .block _ a => nmC a
  | .loop a => nmC a
  | .scope a => nmC a
  | .region _ ops _ => ops.toList.flatMap fun o => o.dst.toList ++ o.op.operands.toList.flatMap tmpsOf
  | _ => []
/-- Is a function ranged over in it? -/
def hasR : Code → Bool
  | .seq a b => hasR a || hasR b
  | .cond _ a b => hasR a || hasR b
  | .block _ a => hasR a
  | .loop a => hasR a
  | .scope a => hasR a
  | .rangeFunc _ _ _ _ => true
  | _ => false
def kpW (keep W : List Nat) : List Nat := keep.filter fun i => W.contains i
/-- What a loop is handed. -/
def kpL (keep : List Nat) (a : Code) : List Nat := cond (hasR a) keep (kpW keep (nmC a))
def setAll (t : List Value) : List Nat → List Value → List Value
  | d :: ds, v :: vs => setAll (t.set d v) ds vs
  | _, _ => t
def clearAll (t : List Value) : List Nat → List Value
  | [] => t
  | d :: ds => clearAll (t.set d undef) ds
/-- The slots behind a code that writes W, of which those that are kept are told. -/
def slotsJ (keep : List Nat) (t : List Value) (W : List Nat) (vs : List Value) : List Value := setAll (clearAll t W) (kpW keep W) vs
/-- What is left behind a joint. -/
def joinK (c : Ctx) (W : List Nat) (es : List Nat) (f : Nat → Nat) (t : List Value) {R : Type} (K : Nat → St → CH → Option R) (r : Nat × List Value × List Deferred × CH) : Option R :=
  withL (kpW c.keep W).length r.2.1 fun vs => dsK c.nod r.2.2.1 fun ds => plainL (slotsJ c.keep t W vs) fun t => disp es (f r.1) fun e => K e ⟨t, ds⟩ r.2.2.2

/-- The record of a loop that this run has made. -/
def ownLp (H : CH) (l : Nat) : Option Loop :=
  match H.get l with
  | some (.loop L) => cond (Nat.ble H.lim l) (some L) none
  | _ => none
def endLp (H : CH) (l : Nat) : Option (Nat × CH) :=
  (ownLp H l).bind fun L => cond (L.state == .busy) none
    (match L.pending with
    | none => some (0, H.put l (some (.loop { L with state := .exhausted })))
    | some .ret => some (1, H.put l (some (.loop { L with state := .exhausted })))
    | some (.exit id) => some (id + 2, H.put l (some (.loop { L with state := .exhausted })))
    | _ => none)
/-- Entering a range over a function: the block of its deferred calls, its mark. -/
def enterLp (rnd : Option Nat) (H : CH) : Option (Nat × List Deferred × CH) :=
  match rnd with
  | none => some (H.n, [{ target := .collected H.n, args := #[] }], H.new (.defs true))
  | some l => match H.get l with
    | some (.loop L) => some (L.defers, [], H)
    | _ => none
def leaf (c : Ctx) (W : List Nat) (e : Nat) (st : St) (H : CH) : Option (Nat × List Value × List Deferred × CH) := some (e, gather (kpW c.keep W) st.t, st.ds, H)

/-- A range over a function. -/
def rangeK (fv : Value) (rnd : Option Nat) (mk : Nat → Loop) (H : CH) {R : Type} (K : Nat → List Deferred → CH → Option R) : Option R :=
  match fv with
  | .func (.func g) a cs => if !okFn P g then none else
    (enterLp rnd H).bind fun q =>
      (O.call g (a.toList ++ [.func (.yield q.2.2.n) #[] #[]] ++ cs.toList) (q.2.2.new (.loop (mk q.1)))).bind fun r =>
        (endLp r.2 q.2.2.n).bind fun x => K x.1 q.2.1 x.2
  | _ => none
noncomputable def icode (c : Ctx) : Code → St → CH → {R : Type} → (Nat → St → CH → Option R) → Option R
  | .skip, st, H, _, K => K 0 st H
  | .label _, st, H, _, K => K 0 st H
  | .seq a b, st, H, _, K => icode c a st H fun e st H => cond (e == 0) (icode c b st H K) (K e st H)
  | .cond x a b, st, H, _, K => (asB (ev st.t x)).bind fun t =>
    cond (ft a && ft b)
      ((cond t (icode c a st H (leaf c (wrC a ++ wrC b))) (icode c b st H (leaf c (wrC a ++ wrC b)))).bind (joinK c (wrC a ++ wrC b) (adds (exs a) (exs b)) id st.t K))
      (cond t (icode c a st H K) (icode c b st H K))
  | .block id a, st, H, _, K =>
    cond (Nat.ble 2 (waysTo id a + cond (ft a) 1 0))
      ((icode c a st H (leaf c (wrC a))).bind (joinK c (wrC a) (exs (.block id a)) (fun e => cond (e == id + 2) 0 e) st.t K))
      (icode c a st H fun e st H => K (cond (e == id + 2) 0 e) st H)
  | .loop a, st, H, _, K => (O.loop c.fn c.round a (gather (kpL c.keep a) st.t) st.ds H).bind (joinK c (wrC a) ((exs a).filter (· != 0)) id st.t K)
  | .exit id, st, H, _, K => K (id + 2) st H
  | .ret, st, H, _, K => K 1 st H
  | .region _ ops d, st, H, _, K => iregion P O c ops d st H fun st H => K 0 st H
  | .rangeFunc f ps assign body, st, H, _, K =>
    rangeK P O (ev st.t f) c.round (fun b => { state := .ready, pending := none, fn := c.fn, tmps := ⟨spread c.n c.keep (gather c.keep st.t)⟩, params := ps, assign, body, defers := b }) H
      fun x mk H => disp (adds [0] (exs body)) x fun e => K e { st with ds := mk ++ st.ds } H
  | .scope a, st, H, _, K => icode c a st H K
  | .goto _, _, _, _, _ => none
  | .refuse _, _, _, _, _ => none

def resultsOf (t : List Value) (H : CH) : List ResultVar → Option (List Value)
  | [] => some []
  | .tmp i :: r => (resultsOf t H r).map (t.getD i undef :: ·)
  | .cell a ty :: r => (loadV P ty (t.getD a undef) H).bind fun v => (resultsOf t H r).map (v :: ·)
def one (vs : List Value) : Value :=
  match vs with
  | [v] => v
  | vs => .tuple ⟨vs⟩

variable (keep : FuncId → List Nat)
def ctxOf (f : FuncId) (fn : Func) (rnd : Option Nat) : Ctx := ⟨f, rnd, fn.ntmps, keep f, ((fn.body.map nodC).getD false)⟩
/-- A deferred function's body: what it gives is dropped. -/
noncomputable def idef (f : FuncId) (args : List Value) (H : CH) {R : Type} (K : CH → Option R) : Option R :=
  (P.funcs[f]?).bind fun fn => fn.body.bind fun c =>
    if args.length ≤ fn.ntmps then
      plainL (args ++ List.replicate (fn.ntmps - args.length) undef) fun t => icode P O (ctxOf keep f fn none) c ⟨t, []⟩ H fun e st H =>
        cond (Nat.ble e 1) (cond st.ds.isEmpty ((resultsOf P st.t H fn.results.toList).bind fun _ => K H) none) none
    else none
noncomputable def runDefs : List Deferred → CH → {R : Type} → (CH → Option R) → Option R
  | [], H, _, K => K H
  | d :: r, H, _, K =>
    match d.target with
    | .collected b => match H.get b with
      | some (.defs true) => cond (Nat.ble H.lim b) (runDefs r (H.put b (some (.defs false))) K) none
      | _ => none
    | .fn (.func g) cs => if okFn P g then idef P O keep g (d.args.toList ++ cs.toList) H (fun H => runDefs r H K) else none
    | _ => none
noncomputable def icall (f : FuncId) (args : List Value) (H : CH) : Option (Value × CH) :=
  (P.funcs[f]?).bind fun fn => fn.body.bind fun c =>
    if args.length ≤ fn.ntmps then
      plainL (args ++ List.replicate (fn.ntmps - args.length) undef) fun t => icode P O (ctxOf keep f fn none) c ⟨t, []⟩ H fun e st H =>
        cond (Nat.ble e 1) (runDefs P O keep st.ds H fun H => (resultsOf P st.t H fn.results.toList).bind fun vs => some (one vs, H)) none
    else none
noncomputable def iloop (f : FuncId) (rnd : Option Nat) (body : Code) (vs : List Value) (ds : List Deferred) (H : CH) : Option (Nat × List Value × List Deferred × CH) :=
  (P.funcs[f]?).bind fun fn =>
    plainL (spread fn.ntmps (kpL (keep f) body) vs) fun t => icode P O (ctxOf keep f fn rnd) body ⟨t, ds⟩ H fun e st H =>
      cond (e == 0) (O.loop f rnd body (gather (kpL (keep f) body) st.t) st.ds H) (some (e, gather (kpW (keep f) (wrC body)) st.t, st.ds, H))
def begRound (l : Nat) (H : CH) : Option CH :=
  (ownLp H l).bind fun L => cond (L.state == .ready) (some (H.put l (some (.loop { L with state := .busy })))) none
def endRound (l : Nat) (e : Nat) (H : CH) : Option (Value × CH) :=
  (ownLp H l).bind fun L => some (.bool (e == 0), H.put l (some (.loop { L with state := cond (e == 0) .ready .done, pending := cond (e == 0) none (some (cond (e == 1) .ret (.exit (e - 2)))) })))
noncomputable def iround (l : Nat) (args : List Value) (H : CH) : Option (Value × CH) :=
  match H.get l with
  | some (.loop L) => (P.funcs[L.fn]?).bind fun fn =>
    if args.length = L.params.size ∧ L.tmps.size = fn.ntmps then
      icode P O (ctxOf keep L.fn fn (some l)) L.assign ⟨(L.params.toList.zip args).foldl (fun t (p, a) => t.set p a) L.tmps.toList, []⟩ H fun e st H =>
        cond (e == 0) ((begRound l H).bind fun H => icode P O (ctxOf keep L.fn fn (some l)) L.body st H fun e st H => cond st.ds.isEmpty (endRound l e H) none) none
    else none
  | _ => none
end

/-- So many steps down. -/
noncomputable def orc (P : Program) (keep : FuncId → List Nat) : Nat → Orc
  | 0 => ⟨fun _ _ _ => none, fun _ _ _ _ _ _ => none, fun _ _ _ => none⟩
  | k + 1 => ⟨icall P (orc P keep k) keep, iloop P (orc P keep k) keep, iround P (orc P keep k) keep⟩
end Go.Cn
