/- Regions whose order is drawn: the theorem. -/
import Derived.Test.YtbajjfdkkffamaaGreatDoorCnJ2
namespace Go.Cn
set_option linter.unusedVariables false
set_option linter.unusedSimpArgs false
section
variable {P : Program} {O : Orc} {w0 : Base}
structure RegF (P : Program) (al : List (Nat × Nat × List Value)) (ops : Array Oper) : Prop where
  back : ∀ i o, ops[i]? = some o → ∀ e ∈ o.after, Region.binds .any e = true → e.on < i
  nod : ∀ o ∈ ops.toList, ∀ c, o.op ≠ .defer c
  dn : ∀ (i j : Nat) (o p : Oper) (d : Tmp), i < j → ops[i]? = some o → ops[j]? = some p → ((Region.before ops).getD j 0).testBit i = false → o.dst = some d → d ∉ namesOf ops p
  nd : ∀ (i j : Nat) (o p : Oper) (d : Tmp), i < j → ops[i]? = some o → ops[j]? = some p → ((Region.before ops).getD j 0).testBit i = false → p.dst = some d → d ∉ namesOf ops o
  ee : ∀ (i j : Nat) (o p : Oper), i < j → ops[i]? = some o → ops[j]? = some p → ((Region.before ops).getD j 0).testBit i = false → isEff P o.op = true → isEff P p.op = true → alAt al i = none → alAt al j = none → False
theorem regOk_spec {ops : Array Oper} {ab : Bool} {al : List (Nat × Nat × List Value)} (h : regOk P ab ops = true) (hal : ab = true → ∀ i o, ops[i]? = some o → isAl o.op = true → alAt al i ≠ none) : RegF P al ops := by
  unfold regOk at h
  simp only [List.all_eq_true] at h
  have at' : ∀ (i : Nat) (o : Oper), ops[i]? = some o → (o, i) ∈ ops.toList.zipIdx := fun i o ho => by
    rw [List.mem_zipIdx_iff_getElem?]; simpa using ho
  have one : ∀ i o, ops[i]? = some o → _ := fun i o ho => h (o, i) (at' i o ho)
  simp only [Bool.and_eq_true, List.all_eq_true] at one
  have pair : ∀ (i j : Nat) (o p : Oper), i < j → ops[i]? = some o → ops[j]? = some p → ((Region.before ops).getD j 0).testBit i = false → _ := fun i j o p hij ho hp hb => by
    have := (one i o ho).2 (p, j) (at' j p hp)
    simp only [hij, if_true, hb, Bool.or_false, Bool.and_eq_true] at this
    exact this
  refine ⟨fun i o ho e he hb => ?_, fun o ho c e => ?_, fun i j o p d hij ho hp hb hd hm => ?_, fun i j o p d hij ho hp hb hd hm => ?_, fun i j o p hij ho hp hb h1 h2 n1 n2 => ?_⟩
  · have := (one i o ho).1.1.1
    have := this e (by simpa using he)
    simpa [hb] using this
  · obtain ⟨i, hi⟩ := List.getElem?_of_mem ho
    have := (one i o (by simpa using hi)).1.2
    rw [e] at this
    cases this
  · have := (pair i j o p hij ho hp hb).1.1
    rw [hd] at this
    simp at this
    exact this hm
  · have := (pair i j o p hij ho hp hb).1.2
    rw [hd] at this
    simp at this
    exact this hm
  · have := (pair i j o p hij ho hp hb).2
    rw [h1, h2] at this
    simp only [Bool.and_self, Bool.not_true, Bool.false_or, Bool.and_eq_true, Bool.or_eq_true] at this
    rcases this.2 with e | e
    · exact hal this.1 i o ho e n1
    · exact hal this.1 j p hp e n2

section
variable {c : Ctx} {ops : Array Oper} {ds : List Deferred} {t : List Value} {H : CH} {S : List Stp} {acc : Acc} {al : List (Nat × Nat × List Value)}
theorem TrOK.at' (tr : TrOK P O c ops ds (Region.before ops) al 0 acc t H ops.toList S) {k : Nat} {s : Stp} (h : S[k]? = some s) : ops[k]? = some s.o := by
  have : (S.map (·.o))[k]? = some s.o := by rw [List.getElem?_map, h]; rfl
  rw [tr.os] at this
  simpa using this
/-- Operations that are bound to stand in order, when one is up. -/
theorem bound {L : Nat → Bool} (hL : Closed ops L) {i k : Nat} (hi : L i = false) (hd : Direct ops L i) (hlt : k < i → ((Region.before ops).getD i 0).testBit k = true) (hgt : i < k → ((Region.before ops).getD k 0).testBit i = true) : L k = decide (k < i) := by
  rcases Nat.lt_trichotomy k i with h | h | h
  · rw [before_spec hL i k hd (hlt h)]; simp [h]
  · subst h; rw [hi]; simp
  · have : L k = false := by
      cases hk : L k with
      | false => rfl
      | true => have := before_spec hL k i (hL k hk) (hgt h); rw [hi] at this; cases this
    rw [this]; simp; omega
theorem bit_of {b : Bool} (h : b = false → False) : b = true := by cases b with | true => rfl | false => exact (h rfl).elim
theorem names_at (hr : RegF P al ops) (tr : TrOK P O c ops ds (Region.before ops) al 0 acc t H ops.toList S) {L : Nat → Bool} (hL : Closed ops L) {i : Nat} {s : Stp} (hs : S[i]? = some s) (hi : L i = false) (hd : Direct ops L i) {x : Tmp} (hx : x ∈ namesOf ops s.o) :
    (cvL L 0 S t).getD x undef = s.t.getD x undef := by
  rw [tr.t0 i s hs]
  refine cvL_get (fun k s' hk he => ?_) rfl rfl
  simp only [Nat.zero_add]
  exact bound hL hi hd (fun h => bit_of fun hb => hr.dn k i _ _ x h (tr.at' hk) (tr.at' hs) hb he hx) (fun h => bit_of fun hb => hr.nd i k _ _ x h (tr.at' hs) (tr.at' hk) hb he hx)
theorem eff_bound (hr : RegF P al ops) (tr : TrOK P O c ops ds (Region.before ops) al 0 acc t H ops.toList S) {L : Nat → Bool} (hL : Closed ops L) {i k : Nat} {s s' : Stp} (hs : S[i]? = some s) (hi : L i = false) (hd : Direct ops L i) (he : s.e P = true) (hk : S[k]? = some s') (he' : s'.e P = true) :
    L k = decide (k < i) := by
  have he := Stp.e_inv he
  have he' := Stp.e_inv he'
  have n1 : alAt al i = none := by have := tr.als i s hs; rw [he.2.2, Nat.zero_add] at this; exact this.symm
  have n2 : alAt al k = none := by have := tr.als k s' hk; rw [he'.2.2, Nat.zero_add] at this; exact this.symm
  exact bound hL hi hd (fun h => bit_of fun hb => hr.ee k i _ _ h (tr.at' hk) (tr.at' hs) hb he'.2.1 he.2.1 n2 n1) (fun h => bit_of fun hb => hr.ee i k _ _ h (tr.at' hs) (tr.at' hk) hb he.2.1 he'.2.1 n1 n2)
theorem heap_eff (hr : RegF P al ops) (tr : TrOK P O c ops ds (Region.before ops) al 0 acc t H ops.toList S) {L : Nat → Bool} (hL : Closed ops L) {i : Nat} {s : Stp} (hs : S[i]? = some s) (hi : L i = false) (hd : Direct ops L i) (he : s.e P = true) :
    hvL P L 0 S H = s.H ∧ hvL P (addL L i) 0 S H = s.H' := by
  constructor
  · rw [tr.H0 i s hs]
    exact hvL_congr fun k s' hk he' => by simp only [Nat.zero_add]; exact eff_bound hr tr hL hs hi hd he hk he'
  · refine hvL_last hs he (by simp [addL]) fun k s' hk he' hlt => ?_
    have := eff_bound hr tr hL hs hi hd he hk he'
    have hne : (k == i) = false := by simp; omega
    simp only [addL, Nat.zero_add, hne, Bool.or_false, this]
    simp; omega
theorem heap_still {L : Nat → Bool} {i : Nat} {s : Stp} (hs : S[i]? = some s) (he : s.e P = false) : hvL P (addL L i) 0 S H = hvL P L 0 S H :=
  hvL_congr fun k s' hk he' => by
    have hne : (k == i) = false := by
      simp only [beq_eq_false_iff_ne]
      intro e; subst e; rw [hs] at hk; simp at hk; subst hk; rw [he] at he'; cases he'
    simp [addL, hne]
theorem least {p : Nat → Prop} {n : Nat} (h : p n) : ∃ m, p m ∧ ∀ k, k < m → ¬ p k := by
  induction n using Nat.strongRecOn with
  | _ n ih =>
    by_cases hh : ∃ k, k < n ∧ p k
    · obtain ⟨k, hk, hp⟩ := hh; exact ih k hk hp
    · exact ⟨n, h, fun k hk hp => hh ⟨k, hk, hp⟩⟩
theorem greatest {p : Nat → Prop} {b : Nat} (hb : ∀ k, p k → k < b) : ∀ (d n : Nat), b - n ≤ d → p n → ∃ m, p m ∧ ∀ k, m < k → ¬ p k := by
  intro d
  induction d with
  | zero => intro n h hp; have := hb n hp; omega
  | succ d ih =>
    intro n h hp
    by_cases hh : ∃ k, n < k ∧ p k
    · obtain ⟨k, hk, hpk⟩ := hh; have := hb k hpk; exact ih k (by omega) hpk
    · exact ⟨n, hp, fun k hk hpk => hh ⟨k, hk, hpk⟩⟩
theorem heap_read (hr : RegF P al ops) (tr : TrOK P O c ops ds (Region.before ops) al 0 acc t H ops.toList S) {L : Nat → Bool} (hL : Closed ops L) {i : Nat} {s : Stp} (hs : S[i]? = some s) (hi : L i = false) (hd : Direct ops L i) (hrun : s.run = true) (hna : s.al = none) (hrd : isRead P s.o.op = true)
    {f : CH → Option Value} (hf : readOf P s.t s.o.op = some f) (hv : f s.H = some s.v) : f (hvL P L 0 S H) = some s.v := by
  have ne : ∀ {j s'}, S[j]? = some s' → s'.e P = true → j ≠ i := fun {j s'} hj he e => by
    subst e; rw [hs] at hj; simp at hj; subst hj
    have he := Stp.e_inv he
    rw [eff_noread he.2.1] at hrd; cases hrd
  by_cases h1 : ∃ j, j < i ∧ L j = false ∧ ∃ s', S[j]? = some s' ∧ s'.e P = true
  · -- an effect that stands before it in the text is not listed
    obtain ⟨j0, hj0⟩ := h1
    obtain ⟨j, ⟨hji, hLj, s', hj, he⟩, hmin⟩ := least (p := fun j => j < i ∧ L j = false ∧ ∃ s', S[j]? = some s' ∧ s'.e P = true) hj0
    have e : hvL P L 0 S H = s'.H := by
      rw [tr.H0 j s' hj]
      refine hvL_congr fun k s'' hk he' => ?_
      simp only [Nat.zero_add]
      rcases Nat.lt_trichotomy k j with h | h | h
      · have : L k = true := bit_of fun hb => hmin k h ⟨by omega, hb, s'', hk, he'⟩
        rw [this]; simp [h]
      · subst h; rw [hLj]; simp
      · have : L k = false := by
          cases hLk : L k with
          | false => rfl
          | true =>
            have n1 : alAt al j = none := by have := tr.als j s' hj; rw [(Stp.e_inv he).2.2, Nat.zero_add] at this; exact this.symm
            have n2 : alAt al k = none := by have := tr.als k s'' hk; rw [(Stp.e_inv he').2.2, Nat.zero_add] at this; exact this.symm
            have hb := bit_of fun hb => hr.ee j k _ _ h (tr.at' hj) (tr.at' hk) hb (Stp.e_inv he).2.1 (Stp.e_inv he').2.1 n1 n2
            have := before_spec hL k j (hL k hLk) hb
            rw [hLj] at this; cases this
        rw [this]; simp; omega
    rw [e]
    refine tr.pairE j i s' s f hji hj hs he hrun hna hrd hf ?_
    simp only [Nat.zero_add]
    cases hb : ((Region.before ops).getD i 0).testBit j with
    | false => rfl
    | true => have := before_spec hL i j hd hb; rw [hLj] at this; cases this
  · by_cases h2 : ∃ j, i < j ∧ L j = true ∧ ∃ s', S[j]? = some s' ∧ s'.e P = true
    · obtain ⟨j0, hj0⟩ := h2
      obtain ⟨j, ⟨hij, hLj, s', hj, he⟩, hmax⟩ := greatest (p := fun j => i < j ∧ L j = true ∧ ∃ s', S[j]? = some s' ∧ s'.e P = true) (b := S.length) (fun k ⟨_, _, s', hk, _⟩ => (List.getElem?_eq_some_iff.1 hk).1) _ j0 (Nat.le_refl _) hj0
      have e : hvL P L 0 S H = s'.H' := by
        refine hvL_last hj he (by simpa using hLj) fun k s'' hk he' hlt => ?_
        simp only [Nat.zero_add]
        cases hLk : L k with
        | false => rfl
        | true => exact absurd ⟨by omega, hLk, s'', hk, he'⟩ (hmax k hlt)
      rw [e]
      refine tr.pairR i j s s' f hij hs hj he hrun hna hrd hf ?_
      simp only [Nat.zero_add]
      cases hb : ((Region.before ops).getD j 0).testBit i with
      | false => rfl
      | true => have := before_spec hL j i (hL j hLj) hb; rw [hi] at this; cases this
    · have e : hvL P L 0 S H = s.H := by
        rw [tr.H0 i s hs]
        refine hvL_congr fun k s' hk he' => ?_
        simp only [Nat.zero_add]
        rcases Nat.lt_trichotomy k i with h | h | h
        · have : L k = true := bit_of fun hb => h1 ⟨k, h, hb, s', hk, he'⟩
          rw [this]; simp [h]
        · exact absurd h (ne hk he')
        · have : L k = false := by
            cases hLk : L k with
            | false => rfl
            | true => exact absurd ⟨k, h, hLk, s', hk, he'⟩ h2
          rw [this]; simp; omega
      rw [e]; exact hv
theorem ev_congr {t t' : List Value} (x : Operand) (h : ∀ d, x = .tmp d → t.getD d undef = t'.getD d undef) : ev t x = ev t' x := by
  cases x with
  | tmp d => exact h d rfl
  | _ => rfl
/-- An operation that is up does what it does in the text's order. -/
theorem op_at (hr : RegF P al ops) (tr : TrOK P O c ops ds (Region.before ops) al 0 acc t H ops.toList S) {L : Nat → Bool} (hL : Closed ops L) {i : Nat} {s : Stp} (hs : S[i]? = some s) (hi : L i = false) (hd : Direct ops L i) :
    (s.al = none → iguard P O c ops s.o ⟨cvL L 0 S t, ds⟩ (hvL P L 0 S H) kk = some (s.v, ⟨cvL L 0 S t, ds⟩, hvL P (addL L i) 0 S H)) ∧ putT (cvL L 0 S t) s.o.dst s.v = cvL (addL L i) 0 S t := by
  have hn := fun {x : Tmp} (hx : x ∈ namesOf ops s.o) => names_at hr tr hL hs hi hd hx
  have hok := tr.step i s hs
  refine ⟨fun hna => ?_, ?_⟩
  · have agree : Agree s.o.op s.t (cvL L 0 S t) := fun x hx => by
      refine ev_congr x fun d e => (hn ?_).symm
      subst e
      unfold namesOf
      simp only [List.mem_append, List.mem_filterMap]
      exact .inl (.inr ⟨.tmp d, by simpa using hx, rfl⟩)
    have go : s.run = true → iop P O c s.o ⟨cvL L 0 S t, ds⟩ (hvL P L 0 S H) kk = some (s.v, ⟨cvL L 0 S t, ds⟩, hvL P (addL L i) 0 S H) := fun hrun => by
      cases hok.yes hrun hna with
      | pure hr' he' hh hk =>
        rw [heap_still hs (by simp [Stp.e, he'])]
        exact hk _ _ agree
      | read hr' he' hh f hf hv hk =>
        rw [heap_still hs (by simp [Stp.e, he'])]
        exact hk _ _ agree (heap_read hr tr hL hs hi hd hrun hna hr' hf (by first | exact hv | (rw [hh] at hv; exact hv)))
      | eff hr' he' hk =>
        have := heap_eff hr tr hL hs hi hd (by simp [Stp.e, hrun, he', hna])
        rw [this.1, this.2]
        exact hk _ agree
    have no : s.run = false → (kk undef ⟨cvL L 0 S t, ds⟩ (hvL P L 0 S H)) = some (s.v, ⟨cvL L 0 S t, ds⟩, hvL P (addL L i) 0 S H) := fun hrun => by
      rw [heap_still hs (by simp [Stp.e, hrun]), (hok.no hrun).1]
    have hnd : ∀ c, s.o.op ≠ .defer c := hr.nod s.o (by have := tr.at' hs; simpa using Array.mem_of_getElem? this)
    unfold iguard
    rcases hok.gate with ⟨hg, hrun⟩ | ⟨j, want, d, b, hg, hdst, hb, hrun⟩
    · rw [hg]; simp only [iopE_eq]; exact go hrun
    · rw [hg]
      simp only [hdst]
      have hx : d ∈ namesOf ops s.o := by
        unfold namesOf
        rw [hg]
        simp only [List.mem_append]
        exact .inr (by rw [hdst]; simp)
      have hb' : asB ((cvL L 0 S t).getD d undef) = some b := by rw [hn hx]; exact hb
      rw [hb', Option.bind_some]
      by_cases hbw : b = want
      · subst hbw
        rw [iopG_yes' hnd]
        exact go (by rw [hrun]; simp)
      · rw [iopG_no' hbw hnd]
        exact no (by rw [hrun]; simpa using hbw)
  · have := cvL_add (i := 0) (L := L) (t := t) hs (by simpa using hi) fun k s' d hk hlt h1 h2 => by
      simp only [Nat.zero_add]
      have hx : d ∈ namesOf ops s.o := by unfold namesOf; rw [h1]; simp
      cases hLk : L k with
      | false => rfl
      | true =>
        have hb := bit_of fun hb => hr.nd i k _ _ d hlt (tr.at' hs) (tr.at' hk) hb h2 hx
        have := before_spec hL k i (hL k hLk) hb
        rw [hi] at this; cases this
    rw [Nat.zero_add] at this
    exact this.symm
end
end
end Go.Cn
