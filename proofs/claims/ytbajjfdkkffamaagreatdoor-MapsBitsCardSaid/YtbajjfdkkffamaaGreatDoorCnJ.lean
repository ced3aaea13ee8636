/- Regions whose order is drawn: the trace of the run in the text's order. -/
import Derived.Test.YtbajjfdkkffamaaGreatDoorCnI
import Derived.OrdersIn
namespace Go.Cn
set_option linter.unusedVariables false
set_option linter.unusedSimpArgs false
section
variable {P : Program} {O : Orc}
def putT (t : List Value) (d : Option Tmp) (v : Value) : List Value :=
  match d with
  | some d => t.set d v
  | none => t
theorem St.put_eq (t : List Value) (ds : List Deferred) (d : Option Tmp) (v : Value) : (St.mk t ds).put d v = ⟨putT t d v, ds⟩ := by cases d <;> rfl
def Gate (ops : Array Oper) (o : Oper) (t : List Value) (run : Bool) : Prop :=
  (o.guard = none ∧ run = true) ∨ ∃ j want d b, o.guard = some (j, want) ∧ (ops[j]?).bind (·.dst) = some d ∧ asB (t.getD d undef) = some b ∧ run = (b == want)
structure Stp where
  o : Oper
  run : Bool
  al : Option Nat
  v : Value
  t : List Value
  H : CH
  H' : CH
structure StepOK (P : Program) (O : Orc) (c : Ctx) (ops : Array Oper) (ds : List Deferred) (s : Stp) : Prop where
  gate : Gate ops s.o s.t s.run
  yes : s.run = true → s.al = none → Knd P O c s.o ds s.t s.H s.H' s.v
  made : s.run = true → ∀ b, s.al = some b → s.v = .pointer (some ⟨b, 0, none⟩) ∧ s.H' = s.H
  no : s.run = false → s.v = undef ∧ s.H' = s.H
theorem chks_some {R : Type} {l : List (Option Value × Value)} {r : Option R} {x : R} (h : chks l r = some x) : (∀ p ∈ l, p.1 = some p.2) ∧ r = some x := by
  induction l with
  | nil => exact ⟨fun _ h => (by cases h), h⟩
  | cons p l ih =>
    obtain ⟨y, v⟩ := p
    simp only [chks] at h
    obtain ⟨hy, h⟩ := chk_some h
    obtain ⟨h1, h2⟩ := ih h
    exact ⟨fun q hq => by rcases List.mem_cons.1 hq with rfl | hq; exact hy; exact h1 q hq, h2⟩
/-- What the checks behind an operation tell, and what is kept. -/
structure AccOK (P : Program) (pre : Nat) (al : List (Nat × Nat × List Value)) (i : Nat) (s : Stp) (acc acc' : Acc) : Prop where
  rds : ∀ x ∈ acc.rds, x ∈ acc'.rds
  efs : ∀ x ∈ acc.efs, x ∈ acc'.efs
  rd : s.run = true → s.al = none → ∀ f, isRead P s.o.op = true → readOf P s.t s.o.op = some f → (∀ x ∈ acc.efs, x.2.1 = true → pre.testBit x.1 = false → f x.2.2 = some s.v) ∧ (i, f, s.v) ∈ acc'.rds
  ef : s.run = true → s.al = none → isRead P s.o.op = false → isEff P s.o.op = true → (∀ x ∈ acc.rds, pre.testBit x.1 = false → x.2.1 s.H' = some x.2.2) ∧ (i, true, s.H) ∈ acc'.efs
  al : s.run = true → s.al = none → isEff P s.o.op = true → alOk al pre s.H' = true
theorem cond_some {R : Type} {b : Bool} {x : Option R} {r : R} (h : cond b x none = some r) : b = true ∧ x = some r := by
  cases b
  · cases h
  · exact ⟨rfl, h⟩
theorem eff_noread {op : Op} (h : isEff P op = true) : isRead P op = false := by
  unfold isEff at h
  split at h
  · cases h
  · simp only [Bool.and_eq_true] at h
    unfold isRead
    cases hr : readOf P [] op with
    | none => rfl
    | some _ => rw [hr] at h; cases h.2
/-- What stands behind an operation of a region that draws. -/
theorem back_some {c : Ctx} {ops : Array Oper} {pre : Array Nat} {al : List (Nat × Nat × List Value)} {i : Nat} {o : Oper} {run : Bool} {acc : Acc} {t : List Value} {ds : List Deferred} {H H' : CH} {v : Value} {R : Type} {K : Acc → Value → St → CH → Option R} {r : R}
    (hkr : run = true → isRead P o.op = true → ∃ f, readOf P t o.op = some f) (h : iopsD.back P pre al i o run acc t H K v ⟨t, ds⟩ H' = some r) : ∃ acc', K acc' v ⟨t, ds⟩ H' = some r ∧ AccOK P (pre.getD i 0) al i ⟨o, run, none, v, t, H, H'⟩ acc acc' := by
  unfold iopsD.back dchk at h
  by_cases hr : isRead P o.op = true
  · rw [if_pos hr] at h
    have hne : isEff P o.op = true → False := fun e => by have := eff_noread e; rw [hr] at this; cases this
    split at h
    · rename_i f hf
      obtain ⟨h1, h2⟩ := chks_some h
      obtain ⟨h3, h2⟩ := cond_some h2
      refine ⟨_, h2, ⟨fun x hx => List.mem_cons_of_mem _ hx, fun x hx => hx, fun hrun _ f' _ hf' => ?_, fun _ _ hr' => (by simp only at hr'; rw [hr] at hr'; cases hr'), fun _ _ he => (hne he).elim⟩⟩
      simp only at hf' hrun
      have e := hf.symm.trans hf'
      simp only [Option.some.injEq] at e
      rw [← e]
      subst hrun
      simp only [cond_true] at h1 ⊢
      exact ⟨fun x hx hq hp => by
        have hp : (!Nat.testBit (pre.getD i 0) x.1) = true := by rw [hp]; rfl
        have := h1 _ (List.mem_map.2 ⟨x, List.mem_filter.2 ⟨hx, hp⟩, rfl⟩)
        simpa only [hq, cond_true] using this, List.mem_cons_self⟩
    · rename_i hn
      obtain ⟨_, h2⟩ : isEff P o.op = false ∧ _ := ⟨by cases e : isEff P o.op with | false => rfl | true => exact (hne e).elim, h⟩
      have he : isEff P o.op = false := by cases e : isEff P o.op with | false => rfl | true => exact (hne e).elim
      rw [he] at h
      simp only [cond_false, Bool.not_false, Bool.true_or, cond_true] at h
      refine ⟨acc, h, ⟨fun x hx => hx, fun x hx => hx, fun hrun _ f' _ hf' => ?_, fun _ _ hr' => (by simp only at hr'; rw [hr] at hr'; cases hr'), fun _ _ he => (hne he).elim⟩⟩
      simp only at hf'
      rw [hn] at hf'; cases hf'
  · rw [if_neg hr] at h
    simp only at h
    cases hef : isEff P o.op with
    | true =>
      rw [hef, cond_true] at h
      obtain ⟨h1, h2⟩ := chks_some h
      obtain ⟨h3, h2⟩ := cond_some h2
      refine ⟨_, h2, ⟨fun x hx => hx, fun x hx => List.mem_cons_of_mem _ hx, fun _ _ f' hr' _ => absurd hr' hr, fun hrun _ _ _ => ?_, fun hrun _ _ => ?_⟩⟩
      · simp only at hrun
        subst hrun
        refine ⟨fun x hx hp => ?_, List.mem_cons_self⟩
        have hp : (!Nat.testBit (pre.getD i 0) x.1) = true := by rw [hp]; rfl
        have := h1 _ (List.mem_map.2 ⟨x, List.mem_filter.2 ⟨hx, hp⟩, rfl⟩)
        simpa only [cond_true] using this
      · simp only at hrun
        subst hrun
        simpa using h3
    | false =>
      rw [hef] at h
      simp only [cond_false, Bool.not_false, Bool.true_or, cond_true] at h
      exact ⟨acc, h, ⟨fun x hx => hx, fun x hx => hx, fun _ _ f' hr' _ => absurd hr' hr, fun _ _ _ he => (by simp only at he; rw [hef] at he; cases he), fun _ _ he => (by simp only at he; rw [hef] at he; cases he)⟩⟩
theorem Knd.bare {c : Ctx} {o : Oper} {ds : List Deferred} {t : List Value} {H H' : CH} {v : Value} (g : Option (Nat × Bool)) (hk : Knd P O c { o with guard := g } ds t H H' v) : Knd P O c o ds t H H' v := by
  cases hk with
  | pure a b c d => exact .pure a b c d
  | read a b c f d e g => exact .read a b c f d e g
  | eff a b c => exact .eff a b c
theorem Knd.hasRead {c : Ctx} {o : Oper} {ds : List Deferred} {t : List Value} {H H' : CH} {v : Value} (hk : Knd P O c o ds t H H' v) (hr : isRead P o.op = true) : ∃ f, readOf P t o.op = some f := by
  cases hk with
  | read _ _ _ f hf => exact ⟨f, hf⟩
  | pure hr' => rw [hr] at hr'; cases hr'
  | eff hr' => rw [hr] at hr'; cases hr'
theorem guard_step {c : Ctx} {ops : Array Oper} {pre : Array Nat} {al : List (Nat × Nat × List Value)} {i : Nat} {o : Oper} {acc : Acc} {t : List Value} {ds : List Deferred} {H : CH} {R : Type} {K : Acc → Value → St → CH → Option R} {r : R} (hnd : ∀ c, o.op ≠ .defer c)
    (h : iopsD.iguardD P O c ops pre al i o acc ⟨t, ds⟩ H K = some r) : ∃ s acc', s.o = o ∧ s.t = t ∧ s.H = H ∧ s.al = alAt al i ∧ K acc' s.v ⟨t, ds⟩ s.H' = some r ∧ StepOK P O c ops ds s ∧ AccOK P (pre.getD i 0) al i s acc acc' := by
  -- done: out of a run in continuation's form
  have done : ∀ (run : Bool), Gate ops o t run → run = true → alAt al i = none → iop P O c o ⟨t, ds⟩ H (fun v st' H' => iopsD.back P pre al i o true acc t H K v st' H') = some r →
      ∃ s acc', s.o = o ∧ s.t = t ∧ s.H = H ∧ s.al = none ∧ K acc' s.v ⟨t, ds⟩ s.H' = some r ∧ StepOK P O c ops ds s ∧ AccOK P (pre.getD i 0) al i s acc acc' := fun run hg hrun hal h => by
    obtain ⟨v, H', h, hk⟩ := iop_split hnd h
    obtain ⟨acc', h1, h2⟩ := back_some (ops := ops) (c := c) (fun _ hr => hk.hasRead hr) h
    exact ⟨⟨o, true, none, v, t, H, H'⟩, acc', rfl, rfl, rfl, rfl, h1, ⟨hrun ▸ hg, fun _ _ => hk, fun _ b' e => (by cases e), fun e => (by cases e)⟩, h2⟩
  unfold iopsD.iguardD at h
  split at h
  · rename_i hg
    unfold iopsD.one at h
    cases hal : alAt al i with
    | some b =>
      rw [hal] at h
      exact ⟨⟨o, true, some b, _, t, H, H⟩, acc, rfl, rfl, rfl, rfl, h, ⟨.inl ⟨hg, rfl⟩, fun _ e => (by cases e), fun _ b' e => (by cases e; exact ⟨rfl, rfl⟩), fun e => (by cases e)⟩, ⟨fun _ h => h, fun _ h => h, fun _ e => (by cases e), fun _ e => (by cases e), fun _ e => (by cases e)⟩⟩
    | none =>
      rw [hal] at h
      simp only [iopE_eq] at h
      exact done true (.inl ⟨hg, rfl⟩) rfl hal h
  · rename_i j want hg
    split at h
    · cases h
    · rename_i d hd
      simp only [Option.bind_eq_some_iff] at h
      obtain ⟨b, hb, h⟩ := h
      have gate : Gate ops o t (b == want) := .inr ⟨j, want, d, b, hg, hd, hb, rfl⟩
      unfold iopsD.oneG at h
      cases hal : alAt al i with
      | some blk =>
        rw [hal] at h
        by_cases hbw : b = want
        · subst hbw
          have e : cond b (cond b (Value.pointer (some ⟨blk, 0, none⟩)) undef) (cond b undef (.pointer (some ⟨blk, 0, none⟩))) = .pointer (some ⟨blk, 0, none⟩) := by cases b <;> rfl
          simp only [e] at h
          exact ⟨⟨o, true, some blk, _, t, H, H⟩, acc, rfl, rfl, rfl, rfl, h, ⟨by simpa using gate, fun _ e => (by cases e), fun _ b' e => (by cases e; exact ⟨rfl, rfl⟩), fun e => (by cases e)⟩, ⟨fun _ h => h, fun _ h => h, fun _ e => (by cases e), fun _ e => (by cases e), fun _ e => (by cases e)⟩⟩
        · have e : cond b (cond want (Value.pointer (some ⟨blk, 0, none⟩)) undef) (cond want undef (.pointer (some ⟨blk, 0, none⟩))) = undef := by cases b <;> cases want <;> first | rfl | exact absurd rfl hbw
          simp only [e] at h
          have hf : (b == want) = false := by simpa using hbw
          exact ⟨⟨o, false, some blk, undef, t, H, H⟩, acc, rfl, rfl, rfl, rfl, h, ⟨hf ▸ gate, fun e => (by cases e), fun e => (by cases e), fun _ => ⟨rfl, rfl⟩⟩, ⟨fun _ h => h, fun _ h => h, fun e => (by cases e), fun e => (by cases e), fun e => (by cases e)⟩⟩
      | none =>
        rw [hal] at h
        by_cases hbw : b = want
        · subst hbw
          have he : (b == b) = true := by simp
          simp only [he] at h
          exact done true (he ▸ gate) rfl hal (iopG_yes h)
        · have hf : (b == want) = false := by simpa using hbw
          simp only [hf] at h
          have h := iopG_no hbw h
          obtain ⟨acc', h1, h2⟩ := back_some (ops := ops) (c := c) (fun e => by cases e) h
          exact ⟨⟨o, false, none, undef, t, H, H⟩, acc', rfl, rfl, rfl, rfl, h1, ⟨hf ▸ gate, fun e => (by cases e), fun e => (by cases e), fun _ => ⟨rfl, rfl⟩⟩, h2⟩

/-! ### States by what is listed -/
def Stp.e (P : Program) (s : Stp) : Bool := s.run && isEff P s.o.op && s.al.isNone
def cvL (L : Nat → Bool) : Nat → List Stp → List Value → List Value
  | _, [], t => t
  | i, s :: S, t => cvL L (i + 1) S (cond (L i) (putT t s.o.dst s.v) t)
def hvL (P : Program) (L : Nat → Bool) : Nat → List Stp → CH → CH
  | _, [], h => h
  | i, s :: S, h => hvL P L (i + 1) S (cond (L i && s.e P) s.H' h)
theorem cvL_none {L : Nat → Bool} : ∀ {S : List Stp} {i : Nat} {t : List Value}, (∀ k, k < S.length → L (i + k) = false) → cvL L i S t = t
  | [], _, _, _ => rfl
  | s :: S, i, t, h => by
    have h0 : L i = false := h 0 (by simp)
    simp only [cvL, h0, cond_false]
    exact cvL_none fun k hk => by rw [show i + 1 + k = i + (k + 1) by omega]; exact h (k + 1) (by simpa using hk)
theorem hvL_congr {L L' : Nat → Bool} : ∀ {S : List Stp} {i : Nat} {h : CH}, (∀ k s, S[k]? = some s → s.e P = true → L (i + k) = L' (i + k)) → hvL P L i S h = hvL P L' i S h
  | [], _, _, _ => rfl
  | s :: S, i, h, hh => by
    simp only [hvL]
    have : cond (L i && s.e P) s.H' h = cond (L' i && s.e P) s.H' h := by
      cases he : s.e P with
      | false => simp
      | true => have := hh 0 s rfl he; simp at this; rw [this]
    rw [this]
    exact hvL_congr fun k s' hk he => by rw [show i + 1 + k = i + (k + 1) by omega]; exact hh (k + 1) s' (by simpa using hk) he
theorem hvL_none {L : Nat → Bool} : ∀ {S : List Stp} {i : Nat} {h : CH}, (∀ k s, S[k]? = some s → s.e P = true → L (i + k) = false) → hvL P L i S h = h
  | [], _, _, _ => rfl
  | s :: S, i, h, hh => by
    simp only [hvL]
    have : cond (L i && s.e P) s.H' h = h := by
      cases he : s.e P with
      | false => simp
      | true => have := hh 0 s rfl he; simp at this; rw [this]; rfl
    rw [this]
    exact hvL_none fun k s' hk he => by rw [show i + 1 + k = i + (k + 1) by omega]; exact hh (k + 1) s' (by simpa using hk) he
theorem hvL_last {L : Nat → Bool} : ∀ {S : List Stp} {i m : Nat} {h : CH} {s : Stp}, S[m]? = some s → s.e P = true → L (i + m) = true → (∀ k s', S[k]? = some s' → s'.e P = true → m < k → L (i + k) = false) → hvL P L i S h = s.H'
  | [], _, _, _, _, h, _, _, _ => by cases h
  | s :: S, i, 0, h, s', hs, he, hL, hn => by
    simp at hs; subst hs
    have hL : L i = true := hL
    simp only [hvL, hL, he, Bool.true_and, cond_true]
    exact hvL_none fun k s' hk he' => by rw [show i + 1 + k = i + (k + 1) by omega]; exact hn (k + 1) s' (by simpa using hk) he' (by omega)
  | s :: S, i, m + 1, h, s', hs, he, hL, hn => by
    simp only [hvL]
    exact hvL_last (m := m) (by simpa using hs) he (by rw [show i + 1 + m = i + (m + 1) by omega]; exact hL) fun k s'' hk he' hlt => by rw [show i + 1 + k = i + (k + 1) by omega]; exact hn (k + 1) s'' (by simpa using hk) he' (by omega)
theorem putT_length (t : List Value) (d : Option Tmp) (v : Value) : (putT t d v).length = t.length := by cases d <;> simp [putT]
theorem cvL_length {L : Nat → Bool} : ∀ {S : List Stp} {i : Nat} {t : List Value}, (cvL L i S t).length = t.length
  | [], _, _ => rfl
  | s :: S, i, t => by
    simp only [cvL]
    rw [cvL_length]
    cases L i <;> simp [putT_length]
theorem putT_get (t t' : List Value) (d : Option Tmp) (v : Value) (x : Nat) (hl : t.length = t'.length) (h : t.getD x undef = t'.getD x undef) : (putT t d v).getD x undef = (putT t' d v).getD x undef := by
  cases d with
  | none => exact h
  | some d =>
    simp only [putT, List.getD_eq_getElem?_getD, List.getElem?_set] at h ⊢
    by_cases e : d = x
    · subst e; simp [hl]
    · simp [e, h]
theorem putT_get_ne (t : List Value) (d : Option Tmp) (v : Value) (x : Nat) (h : d ≠ some x) : (putT t d v).getD x undef = t.getD x undef := by
  cases d with
  | none => rfl
  | some d =>
    have : d ≠ x := fun e => h (by rw [e])
    simp [putT, List.getD_eq_getElem?_getD, List.getElem?_set, this]
theorem cvL_get {L L' : Nat → Bool} {x : Nat} : ∀ {S : List Stp} {i : Nat} {t t' : List Value}, (∀ k s, S[k]? = some s → s.o.dst = some x → L (i + k) = L' (i + k)) → t.length = t'.length → t.getD x undef = t'.getD x undef →
    (cvL L i S t).getD x undef = (cvL L' i S t').getD x undef
  | [], _, _, _, _, _, h => h
  | s :: S, i, t, t', hh, hl, h => by
    simp only [cvL]
    have tail : ∀ k s', S[k]? = some s' → s'.o.dst = some x → L (i + 1 + k) = L' (i + 1 + k) := fun k s' hk he => by
      rw [show i + 1 + k = i + (k + 1) by omega]; exact hh (k + 1) s' (by simpa using hk) he
    by_cases he : s.o.dst = some x
    · have := hh 0 s rfl he
      simp only [Nat.add_zero] at this
      rw [this]
      apply cvL_get tail
      · cases L' i <;> simp [hl, putT_length]
      · cases L' i
        · exact h
        · exact putT_get _ _ _ _ _ hl h
    · apply cvL_get tail
      · cases L i <;> cases L' i <;> simp [hl, putT_length]
      · cases L i <;> cases L' i <;> simp only [cond_true, cond_false, putT_get_ne _ _ _ _ he, h]
theorem cvL_set {L : Nat → Bool} {d : Nat} {v : Value} : ∀ {S : List Stp} {i : Nat} {t : List Value}, (∀ k s, S[k]? = some s → s.o.dst = some d → L (i + k) = false) → cvL L i S (t.set d v) = (cvL L i S t).set d v
  | [], _, _, _ => rfl
  | s :: S, i, t, h => by
    simp only [cvL]
    have tail : ∀ k s', S[k]? = some s' → s'.o.dst = some d → L (i + 1 + k) = false := fun k s' hk he => by
      rw [show i + 1 + k = i + (k + 1) by omega]; exact h (k + 1) s' (by simpa using hk) he
    cases hL : L i with
    | false => exact cvL_set tail
    | true =>
      simp only [cond_true]
      have hne : s.o.dst ≠ some d := fun e => by have := h 0 s rfl e; simp only [Nat.add_zero] at this; rw [hL] at this; cases this
      rw [← cvL_set tail]
      congr 1
      cases hd : s.o.dst with
      | none => rfl
      | some d' =>
        have : d ≠ d' := fun e => hne (by rw [hd, e])
        simp only [putT]
        exact List.set_comm _ _ this
def addL (L : Nat → Bool) (m : Nat) : Nat → Bool := fun j => L j || j == m
theorem cvL_add {L : Nat → Bool} : ∀ {S : List Stp} {i m : Nat} {t : List Value} {s : Stp}, S[m]? = some s → L (i + m) = false → (∀ k s' d, S[k]? = some s' → m < k → s.o.dst = some d → s'.o.dst = some d → L (i + k) = false) →
    cvL (addL L (i + m)) i S t = putT (cvL L i S t) s.o.dst s.v
  | [], _, _, _, _, h, _, _ => by cases h
  | s :: S, i, 0, t, s', hs, hL, hn => by
    simp at hs; subst hs
    have hL : L i = false := hL
    have e1 : addL L (i + 0) i = true := by simp [addL]
    simp only [cvL, e1, hL, cond_true, cond_false]
    have tail : ∀ {t}, cvL (addL L (i + 0)) (i + 1) S t = cvL L (i + 1) S t := fun {t} => by
      have : ∀ (S : List Stp) (k : Nat) (t : List Value), i < k → cvL (addL L (i + 0)) k S t = cvL L k S t := fun S => by
        induction S with
        | nil => intros; rfl
        | cons s S ih =>
          intro k t hk
          simp only [cvL]
          have : addL L (i + 0) k = L k := by
            have : (k == i) = false := by simp; omega
            simp [addL, this]
          rw [this]; exact ih _ _ (by omega)
      exact this S _ t (by omega)
    rw [tail]
    cases hd : s.o.dst with
    | none => rfl
    | some d =>
      exact cvL_set fun k s' hk he => by rw [show i + 1 + k = i + (k + 1) by omega]; exact hn (k + 1) s' d (by simpa using hk) (by omega) hd he
  | s :: S, i, m + 1, t, s', hs, hL, hn => by
    simp only [cvL]
    have e1 : addL L (i + (m + 1)) i = L i := by
      have : (i == i + (m + 1)) = false := by simp
      simp [addL, this]
    rw [e1, show i + (m + 1) = i + 1 + m by omega]
    exact cvL_add (by simpa using hs) (by rw [show i + 1 + m = i + (m + 1) by omega]; exact hL) fun k s'' d hk hlt h1 h2 => by
      rw [show i + 1 + k = i + (k + 1) by omega]; exact hn (k + 1) s'' d (by simpa using hk) (by omega) h1 h2
end
end Go.Cn
