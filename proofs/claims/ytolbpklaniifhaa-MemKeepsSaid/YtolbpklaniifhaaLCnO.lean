/- Stepping through a canonical run: a run's continuation may be put on later; what each piece of code comes to. -/
import Derived.Test.YtolbpklaniifhaaLCnN
namespace Go.Cn
set_option linter.unusedVariables false
set_option linter.unusedSimpArgs false
set_option linter.unusedVariables false
section
variable {P : Program} {O : Orc}

theorem obind {α β γ : Type} (x : Option α) (f : α → Option β) (g : β → Option γ) : (x.bind f).bind g = x.bind fun a => (f a).bind g := by cases x <;> rfl
theorem cbind {β γ : Type} (b : Bool) (x y : Option β) (g : β → Option γ) : (cond b x y).bind g = cond b (x.bind g) (y.bind g) := by cases b <;> rfl
theorem chk_bind {β γ : Type} (x : Option Value) (v : Value) (r : Option β) (g : β → Option γ) : (chk x v r).bind g = chk x v (r.bind g) := by
  unfold chk
  cases eqO x v with
  | true => rfl
  | false => simp only [cond_false]; split <;> rfl
theorem chks_bind {β γ : Type} : ∀ (l : List (Option Value × Value)) (r : Option β) (g : β → Option γ), (chks l r).bind g = chks l (r.bind g)
  | [], _, _ => rfl
  | (x, v) :: l, r, g => by rw [chks, chk_bind, chks_bind l]; rfl

theorem iop_nat (c : Ctx) (o : Oper) (st : St) (H : CH) {R S : Type} (K : Value → St → CH → Option R) (F : R → Option S) :
    (iop P O c o st H K).bind F = iop P O c o st H fun v st H => (K v st H).bind F := by
  unfold iop
  split
  · rw [obind]; congr 1; funext t; rw [cbind]
  · split
    · rfl
    · split
      · split
        · rfl
        · rfl
      · rfl
  · split
    · rw [obind]
    · split
      · rw [obind]
      · rw [obind]
theorem iguard_nat (c : Ctx) (ops : Array Oper) (o : Oper) (st : St) (H : CH) {R S : Type} (K : Value → St → CH → Option R) (F : R → Option S) :
    (iguard P O c ops o st H K).bind F = iguard P O c ops o st H fun v st H => (K v st H).bind F := by
  unfold iguard
  split
  · rw [iop_nat]
  · split
    · rfl
    · rw [obind]; congr 1; funext b; rw [cbind, cbind, cbind, iop_nat, iop_nat]
theorem iops_nat (c : Ctx) (ops : Array Oper) {R S : Type} (F : R → Option S) : ∀ (l : List Oper) (st : St) (H : CH) (K : St → CH → Option R),
    (iops P O c ops l st H K).bind F = iops P O c ops l st H fun st H => (K st H).bind F
  | [], _, _, _ => rfl
  | o :: l, st, H, K => by
    simp only [iops]
    rw [iguard_nat]
    congr 1; funext v st H
    exact iops_nat c ops F l _ _ _
theorem dchk_nat (pre : Nat) (rd : Option (CH → Option Value)) (eff : Bool) (i : Nat) (v : Value) (H H' : CH) (acc : Acc) {R S : Type} (K : Acc → Option R) (F : R → Option S) :
    (dchk pre rd eff i v H H' acc K).bind F = dchk pre rd eff i v H H' acc fun a => (K a).bind F := by
  unfold dchk
  split
  · rw [chks_bind]
  · split
    · rw [chks_bind]
    · rfl
theorem one_nat (c : Ctx) (pre : Array Nat) (i : Nat) (o : Oper) (acc : Acc) (st : St) (H : CH) {R S : Type} (K : Acc → Value → St → CH → Option R) (F : R → Option S) :
    (iopsD.one P O c pre i o acc st H K).bind F = iopsD.one P O c pre i o acc st H fun a v st H => (K a v st H).bind F := by
  unfold iopsD.one
  rw [iop_nat]
  congr 1; funext v st' H'
  rw [dchk_nat]
theorem guardD_nat (c : Ctx) (ops : Array Oper) (pre : Array Nat) (i : Nat) (o : Oper) (acc : Acc) (st : St) (H : CH) {R S : Type} (K : Acc → Value → St → CH → Option R) (F : R → Option S) :
    (iopsD.iguardD P O c ops pre i o acc st H K).bind F = iopsD.iguardD P O c ops pre i o acc st H fun a v st H => (K a v st H).bind F := by
  unfold iopsD.iguardD
  split
  · rw [one_nat]
  · split
    · rfl
    · rw [obind]; congr 1; funext b; rw [cbind, cbind, cbind, one_nat, one_nat]
theorem iopsD_nat (c : Ctx) (ops : Array Oper) (pre : Array Nat) {R S : Type} (F : R → Option S) : ∀ (l : List Oper) (i : Nat) (acc : Acc) (st : St) (H : CH) (K : St → CH → Option R),
    (iopsD P O c ops pre i l acc st H K).bind F = iopsD P O c ops pre i l acc st H fun st H => (K st H).bind F
  | [], _, _, _, _, _ => rfl
  | o :: l, i, acc, st, H, K => by
    simp only [iopsD]
    rw [guardD_nat]
    congr 1; funext a v st H
    exact iopsD_nat c ops pre F l _ _ _ _ _
theorem iregion_nat (c : Ctx) (ops : Array Oper) (d : Bool) (st : St) (H : CH) {R S : Type} (K : St → CH → Option R) (F : R → Option S) :
    (iregion P O c ops d st H K).bind F = iregion P O c ops d st H fun st H => (K st H).bind F := by
  unfold iregion
  rw [cbind, cbind, iopsD_nat, iops_nat]; rfl
theorem iregionG_nat (c : Ctx) (ops : Array Oper) (d : Bool) (st : St) (H : CH) {R S : Type} (K : St → CH → Option R) (F : R → Option S) :
    (iregionG P O c ops d st H K).bind F = iregionG P O c ops d st H fun st H => (K st H).bind F := by
  unfold iregionG
  cases ops.toList.any (·.guard.isSome) with
  | true => simp only [cond_true]; rw [obind]
  | false => simp only [cond_false]; rw [iregion_nat]
theorem icode_nat (c : Ctx) {S : Type} : ∀ (x : Code) (st : St) (H : CH) {R : Type} (K : Nat → St → CH → Option R) (F : R → Option S),
    (icode P O c x st H K).bind F = icode P O c x st H fun e st H => (K e st H).bind F
  | .skip, _, _, _, _, _ => rfl
  | .label _, _, _, _, _, _ => rfl
  | .seq a b, st, H, _, K, F => by
    simp only [icode]
    rw [icode_nat c a]
    congr 1; funext e st H
    rw [cbind, icode_nat c b]
  | .cond x a b, st, H, _, K, F => by
    simp only [icode]
    rw [obind]; congr 1; funext t
    cases (ft a && ft b) with
    | true => simp only [cond_true]; rw [obind]
    | false => cases t <;> simp only [cond_true, cond_false] <;> first | rw [icode_nat c a] | rw [icode_nat c b]
  | .block id a, st, H, _, K, F => by
    simp only [icode]
    cases Nat.ble 2 (waysTo id a + cond (ft a) 1 0) with
    | true => simp only [cond_true]; rw [obind]
    | false => simp only [cond_false]; rw [icode_nat c a]
  | .loop a, st, H, _, K, F => by simp only [icode]; rw [obind]
  | .exit _, _, _, _, _, _ => rfl
  | .ret, _, _, _, _, _ => rfl
  | .region _ _ _, _, _, _, _, _ => by simp only [icode]; rw [iregionG_nat]
  | .rangeFunc f ps s b, st, H, _, K, F => by
    simp only [icode]
    split
    · split
      · rfl
      · rw [obind]; congr 1; funext q; rw [obind]; congr 1; funext r; rw [obind]
    · rfl
  | .scope _, _, _, _, _, _ => rfl
  | .goto _, _, _, _, _, _ => rfl
  | .refuse _, _, _, _, _, _ => rfl

/-- The slots that a joint leaves. -/
def jn (j : Bool) (c : Ctx) (st : St) : St := cond j ⟨spread c.n c.keep (gather c.keep st.t), st.ds⟩ st
variable (P O)
theorem st_cond (c : Ctx) (x : Operand) (a b : Code) (st : St) (H : CH) {R : Type} (K : Nat → St → CH → Option R) (t : Bool) (h : asB (ev st.t x) = some t) (j : Bool) (hj : (ft a && ft b) = j) :
    icode P O c (.cond x a b) st H K = icode P O c (cond t a b) st H fun e st H => K e (jn j c st) H := by
  simp only [icode, h, hj, Option.bind_some]
  cases j with
  | true => cases t <;> simp only [cond_true, cond_false, icode_nat] <;> rfl
  | false => cases t <;> rfl
theorem st_block (c : Ctx) (id : Nat) (a : Code) (st : St) (H : CH) {R : Type} (K : Nat → St → CH → Option R) (j : Bool) (hj : Nat.ble 2 (waysTo id a + cond (ft a) 1 0) = j) :
    icode P O c (.block id a) st H K = icode P O c a st H fun e st H => K (cond (e == id + 2) 0 e) (jn j c st) H := by
  simp only [icode, hj]
  cases j with
  | true => simp only [cond_true, icode_nat]; rfl
  | false => rfl
end
/-! ### Continuations by name -/
section
variable (P : Program) (O : Orc)
noncomputable def seqK (c : Ctx) (b : Code) {R : Type} (K : Nat → St → CH → Option R) (e : Nat) (st : St) (H : CH) : Option R := cond (e == 0) (icode P O c b st H K) (K e st H)
def jnK (j : Bool) (c : Ctx) {R : Type} (K : Nat → St → CH → Option R) (e : Nat) (st : St) (H : CH) : Option R := K e (jn j c st) H
def blkK (id : Nat) (j : Bool) (c : Ctx) {R : Type} (K : Nat → St → CH → Option R) (e : Nat) (st : St) (H : CH) : Option R := K (cond (e == id + 2) 0 e) (jn j c st) H
def lpK (c : Ctx) {R : Type} (K : Nat → St → CH → Option R) (r : Nat × List Value × List Deferred × CH) : Option R := K r.1 ⟨spread c.n c.keep r.2.1, r.2.2.1⟩ r.2.2.2
def itK (c : Ctx) (body : Code) (e : Nat) (st : St) (H : CH) : Option (Nat × List Value × List Deferred × CH) := cond (e == 0) (O.loop c.fn c.round body (gather c.keep st.t) st.ds H) (some (e, gather c.keep st.t, st.ds, H))
def finK (f : FuncId) (e : Nat) (st : St) (H : CH) : Option (Value × CH) :=
  cond (Nat.ble e 1) (runDefs st.ds H fun H => (resultsOf P st.t H (((P.funcs[f]?).map (·.results)).getD #[]).toList).bind fun vs => some (one vs, H)) none
noncomputable def rd2K (l : Nat) (e : Nat) (st : St) (H : CH) : Option (Value × CH) := cond st.ds.isEmpty (endRound l e H) none
noncomputable def rd1K (c : Ctx) (body : Code) (l : Nat) (e : Nat) (st : St) (H : CH) : Option (Value × CH) := cond (e == 0) ((begRound l H).bind fun H => icode P O c body st H (rd2K l)) none
theorem rd1K_0 (c : Ctx) (body : Code) (l : Nat) (st : St) (H : CH) : rd1K P O c body l 0 st H = (begRound l H).bind fun H => icode P O c body st H (rd2K l) := Eq.trans rfl rfl
theorem rd2K_nil (l e : Nat) (t : List Value) (H : CH) : rd2K l e ⟨t, []⟩ H = endRound l e H := Eq.trans rfl rfl
theorem seqK_0 (c : Ctx) (b : Code) {R : Type} (K : Nat → St → CH → Option R) (st : St) (H : CH) : seqK P O c b K 0 st H = icode P O c b st H K := Eq.trans rfl rfl
theorem seqK_s (c : Ctx) (b : Code) {R : Type} (K : Nat → St → CH → Option R) (e : Nat) (st : St) (H : CH) : seqK P O c b K (e + 1) st H = K (e + 1) st H := Eq.trans rfl rfl
theorem jnK_t (c : Ctx) {R : Type} (K : Nat → St → CH → Option R) (e : Nat) (st : St) (H : CH) : jnK true c K e st H = K e (jn true c st) H := Eq.trans rfl rfl
theorem jnK_f (c : Ctx) {R : Type} (K : Nat → St → CH → Option R) (e : Nat) (st : St) (H : CH) : jnK false c K e st H = K e st H := Eq.trans rfl rfl
theorem blkK_t (id : Nat) (c : Ctx) {R : Type} (K : Nat → St → CH → Option R) (e : Nat) (st : St) (H : CH) : blkK id true c K e st H = K (cond (e == id + 2) 0 e) (jn true c st) H := Eq.trans rfl rfl
theorem blkK_f (id : Nat) (c : Ctx) {R : Type} (K : Nat → St → CH → Option R) (e : Nat) (st : St) (H : CH) : blkK id false c K e st H = K (cond (e == id + 2) 0 e) st H := Eq.trans rfl rfl
theorem blkK_f0 (id : Nat) (c : Ctx) {R : Type} (K : Nat → St → CH → Option R) (st : St) (H : CH) : blkK id false c K 0 st H = K 0 st H := by
  unfold blkK
  rw [show ((0 : Nat) == id + 2) = false by simp]; exact Eq.trans rfl rfl
theorem blkK_t0 (id : Nat) (c : Ctx) {R : Type} (K : Nat → St → CH → Option R) (st : St) (H : CH) : blkK id true c K 0 st H = K 0 (jn true c st) H := by
  unfold blkK
  rw [show ((0 : Nat) == id + 2) = false by simp]; exact Eq.trans rfl rfl
theorem blkK_f1 (id : Nat) (c : Ctx) {R : Type} (K : Nat → St → CH → Option R) (st : St) (H : CH) : blkK id false c K 1 st H = K 1 st H := by
  unfold blkK
  rw [show ((1 : Nat) == id + 2) = false by simp]; exact Eq.trans rfl rfl
theorem blkK_t1 (id : Nat) (c : Ctx) {R : Type} (K : Nat → St → CH → Option R) (st : St) (H : CH) : blkK id true c K 1 st H = K 1 (jn true c st) H := by
  unfold blkK
  rw [show ((1 : Nat) == id + 2) = false by simp]; exact Eq.trans rfl rfl
theorem blkK_fx (id : Nat) (c : Ctx) {R : Type} (K : Nat → St → CH → Option R) (st : St) (H : CH) : blkK id false c K (id + 2) st H = K 0 st H := by
  unfold blkK
  rw [beq_self_eq_true]; exact Eq.trans rfl rfl
theorem blkK_tx (id : Nat) (c : Ctx) {R : Type} (K : Nat → St → CH → Option R) (st : St) (H : CH) : blkK id true c K (id + 2) st H = K 0 (jn true c st) H := by
  unfold blkK
  rw [beq_self_eq_true]; exact Eq.trans rfl rfl
theorem setAll1 (t : List Value) (d : Nat) (v : Value) : setAll t [d] [v] = t.set d v := Eq.trans rfl rfl
theorem chk_self {R : Type} (v : Value) (r : Option R) : chk (some v) v r = r := chk_pos rfl
theorem obs {α β : Type} (a : α) (f : α → Option β) : (some a).bind f = f a := Eq.trans rfl rfl
variable {P} {keep : FuncId → List Nat}
theorem lp_go {f : FuncId} {fn : Func} (h : P.funcs[f]? = some fn) {rd : Option Nat} {c : Ctx} (hc : c = ⟨f, rd, fn.ntmps, keep f⟩) {k : Nat} {vs t : List Value} (ht : t = spread fn.ntmps (keep f) vs) {body : Code} {ds : List Deferred} {H : CH} :
    (orc P keep (k + 1)).loop f rd body vs ds H = icode P (orc P keep k) c body ⟨t, ds⟩ H (itK (orc P keep k) c body) := by
  subst hc ht
  show iloop P (orc P keep k) keep f rd body vs ds H = _
  unfold iloop
  rw [h]
  rfl
theorem round_go {l : Nat} {L : Loop} {fn : Func} {H : CH} (h : P.funcs[L.fn]? = some fn) (hg : H.get l = some (.loop L)) {args : List Value} (ha : args.length = L.params.size) (ht : L.tmps.size = fn.ntmps)
    {c : Ctx} (hc : c = ⟨L.fn, some l, fn.ntmps, keep L.fn⟩) {k : Nat} {t : List Value} (htt : t = (L.params.toList.zip args).foldl (fun t (p, a) => t.set p a) L.tmps.toList) :
    (orc P keep (k + 1)).round l args H = icode P (orc P keep k) c L.assign ⟨t, []⟩ H (rd1K P (orc P keep k) c L.body l) := by
  subst hc htt
  show iround P (orc P keep k) keep l args H = _
  unfold iround
  rw [hg]
  simp only
  rw [h]
  simp only [Option.bind_some]
  rw [if_pos ⟨ha, ht⟩]
  rfl
theorem beg_go {l : Nat} {L : Loop} {H : CH} (hg : H.get l = some (.loop L)) (hl : H.lim ≤ l) (hs : L.state = .ready) : begRound l H = some (H.put l (some (.loop { L with state := .busy }))) := by
  unfold begRound ownLp
  rw [hg]
  simp only [Nat.ble_eq_true_of_le hl, cond_true, Option.bind_some, hs]
  rfl
theorem end_go {l : Nat} {L : Loop} {H : CH} (hg : H.get l = some (.loop L)) (hl : H.lim ≤ l) : endRound l 0 H = some (.bool true, H.put l (some (.loop { L with state := .ready, pending := none }))) := by
  unfold endRound ownLp
  rw [hg]
  simp only [Nat.ble_eq_true_of_le hl, cond_true, Option.bind_some]
  rfl
theorem lpend_go {l : Nat} {L : Loop} {H : CH} (hg : H.get l = some (.loop L)) (hl : H.lim ≤ l) (hs : L.state = .ready) (hp : L.pending = none) : endLp H l = some (0, H.put l (some (.loop { L with state := .exhausted }))) := by
  unfold endLp ownLp
  rw [hg]
  simp only [Nat.ble_eq_true_of_le hl, cond_true, Option.bind_some, hs, hp]
  rfl
theorem call_go {f : FuncId} {fn : Func} (h : P.funcs[f]? = some fn) {c : Ctx} (hc : c = ⟨f, none, fn.ntmps, keep f⟩) {k : Nat} {args t : List Value} {C : Code} (hC : fn.body = some C)
    (ht : t = args ++ List.replicate (fn.ntmps - args.length) undef) (hl : Nat.ble args.length fn.ntmps = true) {H : CH} :
    (orc P keep (k + 1)).call f args H = icode P (orc P keep k) c C ⟨t, []⟩ H (finK P f) := by
  subst hc ht
  show icall P (orc P keep k) keep f args H = _
  unfold icall
  rw [h]
  simp only [Option.bind_some, hC]
  rw [if_pos (Nat.le_of_ble_eq_true hl)]
  have e : (fun (e : Nat) (st : St) (H : CH) => cond (Nat.ble e 1) (runDefs st.ds H fun H => (resultsOf P st.t H fn.results.toList).bind fun vs => some (one vs, H)) none) = finK P f := by
    funext e st H
    unfold finK
    rw [h]; rfl
  rw [e]; rfl
end
def nilC (v : Value) : Option Value :=
  match v with
  | .pointer (some a) => some (.pointer (some a))
  | .func (.func f) a c => some (.func (.func f) a c)
  | _ => none
def opsOf : Code → Array Oper
  | .region _ ops _ => ops
  | _ => #[]
/-- What follows upon a region with guards. -/
def grK (ops : Array Oper) (t0 : List Value) {R : Type} (K : Nat → St → CH → Option R) (st : St) (H : CH) : Option R :=
  K 0 ⟨setAll (clearAll t0 (dsts ops.toList)) (sinks ops ops.toList) (gather (sinks ops ops.toList) st.t), st.ds⟩ H
theorem st_region (P : Program) (O : Orc) (c : Ctx) (id : Nat) (ops : Array Oper) (t : List Value) (ds : List Deferred) (H : CH) {R : Type} (K : Nat → St → CH → Option R) (hg : ops.toList.any (·.guard.isSome) = true) :
    icode P O c (.region id ops false) ⟨t, ds⟩ H K = iops P O c ops ops.toList ⟨t, ds⟩ H (grK ops t K) := by
  simp only [icode, iregionG, hg, cond_true, iregion, cond_false, iops_nat]
  rfl
def opK (P : Program) (O : Orc) (c : Ctx) (ops : Array Oper) (l : List Oper) {R : Type} (K : St → CH → Option R) (st : St) (H : CH) : Option R := iops P O c ops l st H K
theorem opK_go (P : Program) (O : Orc) (c : Ctx) (ops : Array Oper) (l : List Oper) {R : Type} (K : St → CH → Option R) (t : List Value) (ds : List Deferred) (H : CH) : opK P O c ops l K ⟨t, ds⟩ H = iops P O c ops l ⟨t, ds⟩ H K := Eq.trans rfl rfl
theorem iops_app (P : Program) (O : Orc) (c : Ctx) (ops : Array Oper) {R : Type} (K : St → CH → Option R) (m : List Oper) : ∀ (l : List Oper) (st : St) (H : CH), iops P O c ops (l ++ m) st H K = iops P O c ops l st H (opK P O c ops m K)
  | [], _, _ => rfl
  | o :: l, st, H => by
    simp only [List.cons_append, iops]
    congr 1; funext v st H
    exact iops_app P O c ops K m l _ _
/-- A piece of a code. -/
def sub : Code → List Nat → Code
  | x, [] => x
  | .seq a b, i :: r => sub (if i = 0 then a else b) r
  | .cond _ a b, i :: r => sub (if i = 0 then a else b) r
  | .block _ a, _ :: r => sub a r
  | .loop a, _ :: r => sub a r
  | .rangeFunc _ _ a b, i :: r => sub (if i = 0 then a else b) r
  | x, _ => x
def bodyOf (P : Program) (f : FuncId) : Code := ((P.funcs[f]?).bind (·.body)).getD .skip
end Go.Cn
