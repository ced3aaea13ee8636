/- Regions whose order is drawn: every order comes to the text's end. -/
import Derived.Test.YtbajjfdkkffamaaGreatDoorCnJ
namespace Go.Cn
set_option linter.unusedVariables false
set_option linter.unusedSimpArgs false
section
variable {P : Program} {O : Orc}
theorem Stp.e_inv {s : Stp} (h : s.e P = true) : s.run = true ∧ isEff P s.o.op = true ∧ s.al = none := by
  simp only [Stp.e, Bool.and_eq_true, Option.isNone_iff_eq_none] at h
  exact ⟨h.1.1, h.1.2, h.2⟩
structure TrOK (P : Program) (O : Orc) (c : Ctx) (ops : Array Oper) (ds : List Deferred) (pre : Array Nat) (al : List (Nat × Nat × List Value)) (i : Nat) (acc : Acc) (t : List Value) (H : CH) (l : List Oper) (S : List Stp) : Prop where
  os : S.map (·.o) = l
  t0 : ∀ (k : Nat) (s : Stp), S[k]? = some s → s.t = cvL (fun j => decide (j < i + k)) i S t
  H0 : ∀ (k : Nat) (s : Stp), S[k]? = some s → s.H = hvL P (fun j => decide (j < i + k)) i S H
  als : ∀ (k : Nat) (s : Stp), S[k]? = some s → s.al = alAt al (i + k)
  keeps : ∀ (k : Nat) (s : Stp), S[k]? = some s → s.e P = true → alOk al (pre.getD (i + k) 0) s.H' = true
  step : ∀ (k : Nat) (s : Stp), S[k]? = some s → StepOK P O c ops ds s
  pairE : ∀ j k sj sk f, j < k → S[j]? = some sj → S[k]? = some sk → sj.e P = true → sk.run = true → sk.al = none → isRead P sk.o.op = true → readOf P sk.t sk.o.op = some f → (pre.getD (i + k) 0).testBit (i + j) = false → f sj.H = some sk.v
  pairR : ∀ j k sj sk f, j < k → S[j]? = some sj → S[k]? = some sk → sk.e P = true → sj.run = true → sj.al = none → isRead P sj.o.op = true → readOf P sj.t sj.o.op = some f → (pre.getD (i + k) 0).testBit (i + j) = false → f sk.H' = some sj.v
  accE : ∀ x ∈ acc.efs, x.2.1 = true → ∀ k sk f, S[k]? = some sk → sk.run = true → sk.al = none → isRead P sk.o.op = true → readOf P sk.t sk.o.op = some f → (pre.getD (i + k) 0).testBit x.1 = false → f x.2.2 = some sk.v
  accR : ∀ x ∈ acc.rds, ∀ k sk, S[k]? = some sk → sk.e P = true → (pre.getD (i + k) 0).testBit x.1 = false → x.2.1 sk.H' = some x.2.2
theorem StepOK.still {c : Ctx} {ops : Array Oper} {ds : List Deferred} {s : Stp} (h : StepOK P O c ops ds s) (he : s.e P = false) : s.H' = s.H := by
  cases hr : s.run with
  | false => exact (h.no hr).2
  | true =>
    cases hal : s.al with
    | some b => exact (h.made hr b hal).2
    | none =>
    cases h.yes hr hal with
    | pure _ _ hh => exact hh
    | read _ _ hh => exact hh
    | eff _ he' => simp [Stp.e, hr, he', hal] at he
theorem StepOK.reads {c : Ctx} {ops : Array Oper} {ds : List Deferred} {s : Stp} (h : StepOK P O c ops ds s) (hr : s.run = true) (hal : s.al = none) (hd : isRead P s.o.op = true) :
    ∃ f, readOf P s.t s.o.op = some f ∧ f s.H = some s.v ∧ ∀ t' G, Agree s.o.op s.t t' → f G = some s.v → iop P O c s.o ⟨t', ds⟩ G kk = some (s.v, ⟨t', ds⟩, G) := by
  cases h.yes hr hal with
  | pure hr' => rw [hd] at hr'; cases hr'
  | read _ _ _ f hf hv hk => exact ⟨f, hf, hv, hk⟩
  | eff hr' => rw [hd] at hr'; cases hr'
theorem iopsD_trace {c : Ctx} {ops : Array Oper} {pre : Array Nat} {al : List (Nat × Nat × List Value)} {ds : List Deferred} {R : Type} {r : R} {K : St → CH → Option R} : ∀ (l : List Oper) (i : Nat) (acc : Acc) (t : List Value) (H : CH), (∀ o ∈ l, ∀ c, o.op ≠ .defer c) →
    iopsD P O c ops pre al i l acc ⟨t, ds⟩ H K = some r → ∃ S, TrOK P O c ops ds pre al i acc t H l S ∧ K ⟨cvL (fun _ => true) i S t, ds⟩ (hvL P (fun _ => true) i S H) = some r
  | [], i, acc, t, H, _, h => ⟨[], ⟨rfl, fun _ _ h => (by cases h), fun _ _ h => (by cases h), fun _ _ h => (by cases h), fun _ _ h => (by cases h), fun _ _ h => (by cases h), fun _ _ _ _ _ _ h => (by cases h), fun _ _ _ _ _ _ h => (by cases h), fun _ _ _ _ _ _ h => (by cases h), fun _ _ _ _ h => (by cases h)⟩, h⟩
  | o :: l, i, acc, t, H, hnd, h => by
    simp only [iopsD, St.putK_eq] at h
    obtain ⟨s, acc', ho, ht, hH, hal, h, hs, ha⟩ := guard_step (hnd o (by simp)) h
    rw [St.put_eq] at h
    obtain ⟨S, tr, hk⟩ := iopsD_trace l (i + 1) acc' (putT t o.dst s.v) s.H' (fun o' ho' => hnd o' (List.mem_cons_of_mem _ ho')) h
    refine ⟨s :: S, ⟨by rw [List.map_cons, ho, tr.os], ?_, ?_, ?_, ?_, ?_, ?_, ?_, ?_, ?_⟩, ?_⟩
    · intro k s' hk
      cases k with
      | zero =>
        simp at hk; subst hk
        rw [ht]; symm
        exact cvL_none fun k _ => by simp
      | succ k =>
        rw [tr.t0 k s' (by simpa using hk)]
        have : decide (i < i + (k + 1)) = true := by simp
        simp only [cvL, this, cond_true]
        rw [show i + 1 + k = i + (k + 1) by omega, ho]
    · intro k s' hk
      cases k with
      | zero =>
        simp at hk; subst hk
        rw [hH]; symm
        exact hvL_none fun k _ _ _ => by simp
      | succ k =>
        rw [tr.H0 k s' (by simpa using hk)]
        have : decide (i < i + (k + 1)) = true := by simp
        simp only [hvL, this, Bool.true_and]
        rw [show i + 1 + k = i + (k + 1) by omega]
        congr 1
        cases he : s.e P with
        | true => rfl
        | false => rw [hs.still he, hH]; rfl
    · intro k s' hk
      cases k with
      | zero => simp at hk; subst hk; exact hal
      | succ k => rw [tr.als k s' (by simpa using hk), show i + 1 + k = i + (k + 1) by omega]
    · intro k s' hk he
      cases k with
      | zero =>
        simp at hk; subst hk
        have he' := Stp.e_inv he
        exact ha.al he'.1 he'.2.2 he'.2.1
      | succ k =>
        have := tr.keeps k s' (by simpa using hk) he
        rw [show i + 1 + k = i + (k + 1) by omega] at this; exact this
    · intro k s' hk
      cases k with
      | zero => simp at hk; subst hk; exact hs
      | succ k => exact tr.step k s' (by simpa using hk)
    · intro j k sj sk f hjk hj hk he hr hna hd hf hb
      cases k with
      | zero => omega
      | succ k =>
        cases j with
        | zero =>
          simp at hj; subst hj
          have he' := Stp.e_inv he
          have := ha.ef he'.1 he'.2.2 (eff_noread he'.2.1) he'.2.1
          exact tr.accE _ this.2 rfl k sk f (by simpa using hk) hr hna hd hf (by rw [show i + 1 + k = i + (k + 1) by omega]; exact hb)
        | succ j => exact tr.pairE j k sj sk f (by omega) (by simpa using hj) (by simpa using hk) he hr hna hd hf (by rw [show i + 1 + k = i + (k + 1) by omega, show i + 1 + j = i + (j + 1) by omega]; exact hb)
    · intro j k sj sk f hjk hj hk he hr hna hd hf hb
      cases k with
      | zero => omega
      | succ k =>
        cases j with
        | zero =>
          simp at hj; subst hj
          have := ha.rd hr hna f hd hf
          exact tr.accR _ this.2 k sk (by simpa using hk) he (by rw [show i + 1 + k = i + (k + 1) by omega]; exact hb)
        | succ j => exact tr.pairR j k sj sk f (by omega) (by simpa using hj) (by simpa using hk) he hr hna hd hf (by rw [show i + 1 + k = i + (k + 1) by omega, show i + 1 + j = i + (j + 1) by omega]; exact hb)
    · intro x hx hq k sk f hk hr hna hd hf hb
      cases k with
      | zero => simp at hk; subst hk; exact (ha.rd hr hna f hd hf).1 x hx hq hb
      | succ k => exact tr.accE x (ha.efs x hx) hq k sk f (by simpa using hk) hr hna hd hf (by rw [show i + 1 + k = i + (k + 1) by omega]; exact hb)
    · intro x hx k sk hk he hb
      cases k with
      | zero =>
        simp at hk; subst hk
        have he' := Stp.e_inv he
        exact (ha.ef he'.1 he'.2.2 (eff_noread he'.2.1) he'.2.1).1 x hx hb
      | succ k => exact tr.accR x (ha.rds x hx) k sk (by simpa using hk) he (by rw [show i + 1 + k = i + (k + 1) by omega]; exact hb)
    · simp only [cvL, hvL, cond_true, Bool.true_and]
      rw [ho]
      have : cond (s.e P) s.H' H = s.H' := by
        cases he : s.e P with
        | true => rfl
        | false => rw [hs.still he, hH]; rfl
      rw [this]; exact hk

/-! ### What must come before -/
def Direct (ops : Array Oper) (L : Nat → Bool) (k : Nat) : Prop := ∀ o, ops[k]? = some o → ∀ e ∈ o.after, Region.binds .any e = true → L e.on = true
def Closed (ops : Array Oper) (L : Nat → Bool) : Prop := ∀ k, L k = true → Direct ops L k
theorem row_bits (acc : Array Nat) (j : Nat) : ∀ (l : List Edge) (s : Nat), (l.foldl (fun s e => if Region.binds .any e then s ||| 2 ^ e.on ||| acc.getD e.on 0 else s) s).testBit j = true →
    s.testBit j = true ∨ ∃ e ∈ l, Region.binds .any e = true ∧ (e.on = j ∨ (acc.getD e.on 0).testBit j = true)
  | [], s, h => .inl h
  | e :: l, s, h => by
    rw [List.foldl_cons] at h
    rcases row_bits acc j l _ h with h | ⟨e', he', h⟩
    · split at h
      · rename_i hb
        rw [Nat.testBit_or, Nat.testBit_or, Bool.or_eq_true, Bool.or_eq_true] at h
        rcases h with (h | h) | h
        · exact .inl h
        · rw [Nat.testBit_two_pow] at h
          exact .inr ⟨e, by simp, hb, .inl (by simpa using h)⟩
        · exact .inr ⟨e, by simp, hb, .inr h⟩
      · exact .inl h
    · exact .inr ⟨e', List.mem_cons_of_mem _ he', h⟩
theorem before_spec {ops : Array Oper} {L : Nat → Bool} (hL : Closed ops L) (k j : Nat) (hd : Direct ops L k) (h : ((Region.before ops).getD k 0).testBit j = true) : L j = true := by
  have main : ∀ (l : List Oper) (acc : Array Nat), (∀ k o, l[k]? = some o → ops[acc.size + k]? = some o) →
      (∀ k, k < acc.size → ∀ j, Direct ops L k → (acc.getD k 0).testBit j = true → L j = true) →
      ∀ k j, Direct ops L k → ((l.foldl (fun acc o => acc.push (o.after.foldl (fun s e => if Region.binds .any e then s ||| 2 ^ e.on ||| acc.getD e.on 0 else s) 0)) acc).getD k 0).testBit j = true → L j = true := by
    intro l
    induction l with
    | nil =>
      intro acc _ hacc k j hd hb
      by_cases hk : k < acc.size
      · exact hacc k hk j hd hb
      · have : acc.getD k 0 = 0 := by simp [Array.getD, hk]
        rw [List.foldl_nil, this] at hb; simp at hb
    | cons o l ih =>
      intro acc hl hacc k j hd hb
      rw [List.foldl_cons] at hb
      refine ih _ ?_ ?_ k j hd hb
      · intro k' o' ho'
        have := hl (k' + 1) o' (by simpa using ho')
        rw [Array.size_push, show acc.size + 1 + k' = acc.size + (k' + 1) by omega]; exact this
      · intro k' hk' j' hd' hb'
        rw [Array.size_push] at hk'
        by_cases hlt : k' < acc.size
        · refine hacc k' hlt j' hd' ?_
          simpa [Array.getD, hlt, Array.getElem_push, Nat.lt_succ_of_lt hlt] using hb'
        · have hk : k' = acc.size := by omega
          subst hk
          have : (acc.push (o.after.foldl (fun s e => if Region.binds .any e then s ||| 2 ^ e.on ||| acc.getD e.on 0 else s) 0)).getD acc.size 0 = o.after.foldl (fun s e => if Region.binds .any e then s ||| 2 ^ e.on ||| acc.getD e.on 0 else s) 0 := by simp [Array.getD]
          rw [this, ← Array.foldl_toList] at hb'
          rcases row_bits acc j' _ _ hb' with h0 | ⟨e, he, hbd, h⟩
          · simp at h0
          · have hLe : L e.on = true := hd' o (by simpa using hl 0 o rfl) e (by simpa using he) hbd
            rcases h with h | h
            · rw [← h]; exact hLe
            · by_cases hs : e.on < acc.size
              · exact hacc e.on hs j' (hL _ hLe) h
              · have : acc.getD e.on 0 = 0 := by simp [Array.getD, hs]
                rw [this] at h; simp at h
  have := main ops.toList #[] (fun k o h => by simpa using h) (fun k hk => by simp at hk) k j hd
  apply this
  rw [Region.before, ← Array.foldl_toList] at h
  exact h
end
end Go.Cn
