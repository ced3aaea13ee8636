/- Runs with summaries: a function may be given by what is proved of it, in the place of its text. -/
import Derived.Test.YtbajjfdkkffamaaGreatDoorCnQ
namespace Go.Cn
set_option linter.unusedVariables false
set_option linter.unusedSimpArgs false
section
variable {P : Program} {w0 : Base} {keep : FuncId → List Nat}
abbrev Sums := FuncId → List Value → CH → Option (Value × CH)
/-- So many steps down, with summaries. -/
noncomputable def orcS (P : Program) (keep : FuncId → List Nat) (S : Sums) : Nat → Orc
  | 0 => ⟨S, fun _ _ _ _ _ _ => none, fun _ _ _ => none⟩
  | k + 1 => ⟨fun f a H => match S f a H with | some r => some r | none => icall P (orcS P keep S k) keep f a H, iloop P (orcS P keep S k) keep, iround P (orcS P keep S k) keep⟩
theorem orcS_ok (hm : P.follows .mixedOrders = true) {S : Sums} {W : World} (hS : ∀ U f args H v H', S f args H = some (v, H') → CallOK P ⟨W, U⟩ f args H v H') : ∀ k, OrcOK P W keep (orcS P keep S k)
  | 0 => ⟨fun _ _ _ _ _ _ h => hS _ _ _ _ _ _ h, fun _ _ _ _ _ _ h => (by cases h), fun _ _ _ _ _ _ _ _ _ _ _ _ _ h => (by cases h)⟩
  | k + 1 =>
    have ih := orcS_ok hm hS k
    ⟨fun U f args H v H' h => by
      have h' : (match S f args H with | some r => some r | none => icall P (orcS P keep S k) keep f args H) = some (v, H') := h
      cases hs : S f args H with
      | some r => rw [hs] at h'; cases h'; exact hS _ _ _ _ _ _ hs
      | none => rw [hs] at h'; exact icall_ok (w0 := ⟨W, U⟩) ih hm h',
     fun U _ _ _ _ _ h => iround_ok (w0 := ⟨W, U⟩) ih hm h, fun U _ _ _ hf _ _ _ _ _ _ _ _ h => iloop_ok (w0 := ⟨W, U⟩) ih hm hf h⟩
theorem callsS_from (hm : P.follows .mixedOrders = true) {S : Sums} {k : Nat} {f : FuncId} {args : List Value} {args' : Array Value} {H H' : CH} {ρ : Map} {b : Bool} {w : World} (hS : ∀ U f args H v H', S f args H = some (v, H') → CallOK P ⟨w, U⟩ f args H v H')
    (hr : Rel (.of w) ρ H w) (hv : VRs ρ args args'.toList) (h : (orcS P keep S k).call f args H = some (.bool b, H')) : Calls P f args' w (fun e w' => e = .returned (.bool b) ∧ Go.RowKit.Below w.heap.size w w') := by
  have ok := (orcS_ok (keep := keep) hm hS k).call (fun _ => False) f args H _ H' h
  have := ok ρ w args' hr hv
  rw [← callsIn_wide (n := 0)]
  refine this.mono fun e w' ⟨ρ', v', he, _, hr, vr⟩ => ?_
  refine ⟨?_, hr.below⟩
  rw [he]
  cases vr
  rfl
theorem Rel.grown {ρ : Map} {H : CH} {w w' : World} (h : Rel w0 ρ H w) (hb : Go.RowKit.Below w.heap.size w w') : Rel w0 ρ H w' where
  lim := h.lim
  un := h.un
  out := h.out
  bare := h.bare
  img := fun b i e => Nat.lt_of_lt_of_le (h.img b i e) hb.size
  high := h.high
  low := h.low
  inj := h.inj
  obj := fun b o e m => by
    obtain ⟨i, hi, ho⟩ := h.obj b o e m
    exact ⟨i, hi, by rw [hb.block _ (h.img b i hi)]; exact ho⟩
  below := h.below.trans (hb.mono h.zero)
  zero := Nat.le_trans h.zero hb.size
  glob := h.glob
/-- A summary out of a contract that adds new blocks alone, of a function of bare arguments and a bare result. -/
theorem sum_bare {f : FuncId} {args : List Value} {v : Value} (hb : args.all clean = true) (hv : clean v = true) (hc : ∀ w, Calls P f ⟨args⟩ w (fun e w' => e = .returned v ∧ Go.RowKit.Below w.heap.size w w')) (H : CH) : CallOK P w0 f args H v H := by
  intro ρ w args' hr ha
  have e : args' = ⟨args⟩ := by
    apply Array.ext'
    apply List.ext_getElem
    · exact ha.1.symm
    · intro i h1 h2
      have h := ha.2 i (by rw [ha.1]; exact h1)
      rw [List.all_eq_true] at hb
      have hc : clean (args.getD i undef) = true := by
        have : i < args.length := by rw [ha.1]; exact h1
        simp only [List.getD_eq_getElem?_getD, List.getElem?_eq_getElem this, Option.getD_some]
        exact hb _ (List.getElem_mem _)
      have := h.of_clean hc
      have h1' : i < args'.size := by simpa using h1
      simp only [List.getD_eq_getElem?_getD, List.getElem?_eq_getElem h1, List.getElem?_eq_getElem h2, Option.getD_some] at this
      exact this
  subst e
  rw [callsIn_wide]
  refine (hc w).mono fun e w' ⟨he, hbl⟩ => ?_
  exact ⟨ρ, v, he, ρ.le_refl, hr.grown hbl, VR.clean hv⟩
/-- Such a summary, where the contract asks for something that new blocks leave as it is. -/
theorem sum_bareF {F : World → Prop} (hF : ∀ w w', F w → Go.RowKit.Below w.heap.size w w' → F w') {f : FuncId} {args : List Value} {v : Value} (hb : args.all clean = true) (hv : clean v = true)
    (hc : ∀ w, F w → Calls P f ⟨args⟩ w (fun e w' => e = .returned v ∧ Go.RowKit.Below w.heap.size w w')) {W : World} (hW : F W) (U : Nat → Prop) (H : CH) : CallOK P ⟨W, U⟩ f args H v H := by
  intro ρ w args' hr ha
  have hw : F w := hF W w hW hr.below
  have e : args' = ⟨args⟩ := by
    apply Array.ext'
    apply List.ext_getElem
    · exact ha.1.symm
    · intro i h1 h2
      have h := ha.2 i (by rw [ha.1]; exact h1)
      rw [List.all_eq_true] at hb
      have hc : clean (args.getD i undef) = true := by
        have : i < args.length := by rw [ha.1]; exact h1
        simp only [List.getD_eq_getElem?_getD, List.getElem?_eq_getElem this, Option.getD_some]
        exact hb _ (List.getElem_mem _)
      have := h.of_clean hc
      simp only [List.getD_eq_getElem?_getD, List.getElem?_eq_getElem h1, List.getElem?_eq_getElem h2, Option.getD_some] at this
      exact this
  subst e
  rw [callsIn_wide]
  refine (hc w hw).mono fun e w' ⟨he, hbl⟩ => ?_
  exact ⟨ρ, v, he, ρ.le_refl, hr.grown hbl, VR.clean hv⟩
/-- A closed run with summaries, of bare arguments and a bare result, is a contract. -/
theorem calls_bareS (hm : P.follows .mixedOrders = true) {S : Sums} {k : Nat} {f : FuncId} {args : List Value} (hb : args.all clean = true) {v : Value} (hv : clean v = true) (h : ((orcS P keep S k).call f args H0).map (·.1) = some v) (w : World)
    (hS : ∀ U f args H v H', S f args H = some (v, H') → CallOK P ⟨w, U⟩ f args H v H') :
    Calls P f ⟨args⟩ w (fun e w' => e = .returned v ∧ Go.RowKit.Below w.heap.size w w') := by
  rw [Option.map_eq_some_iff] at h
  obtain ⟨⟨v1, H'⟩, h, hv1⟩ := h
  simp only at hv1; subst hv1
  have ok := (orcS_ok (keep := keep) hm hS k).call (fun _ => False) f args H0 _ H' h
  have := ok (fun _ => none) w ⟨args⟩ (Rel.start w) (VRs.clean hb)
  rw [← callsIn_wide (n := 0)]
  refine this.mono fun e w' ⟨ρ', v', he, _, hr, vr⟩ => ?_
  refine ⟨?_, hr.below⟩
  rw [he, vr.of_clean hv]
/-! ### Summaries at the first step alone -/
/-- An oracle with summaries laid over it. -/
def withS (S : Sums) (O : Orc) : Orc := ⟨fun f a H => match S f a H with | some r => some r | none => O.call f a H, O.loop, O.round⟩
theorem withS_ok {S : Sums} {O : Orc} {W : World} (hO : OrcOK P W keep O) (hS : ∀ U f args H v H', S f args H = some (v, H') → CallOK P ⟨W, U⟩ f args H v H') : OrcOK P W keep (withS S O) where
  call := fun U f args H v H' h => by
    have h' : (match S f args H with | some r => some r | none => O.call f args H) = some (v, H') := h
    cases hs : S f args H with
    | some r => rw [hs] at h'; cases h'; exact hS _ _ _ _ _ _ hs
    | none => rw [hs] at h'; exact hO.call _ _ _ _ _ _ h'
  round := hO.round
  loop := hO.loop
theorem withS_none {S : Sums} {O : Orc} {f : FuncId} (h : ∀ a H, S f a H = none) (a : List Value) (H : CH) : (withS S O).call f a H = O.call f a H := by
  unfold withS
  simp only [h a H]
/-- The first step with summaries, then whatever an oracle says. -/
theorem calls_withS (hm : P.follows .mixedOrders = true) {S : Sums} {k : Nat} {f : FuncId} {args : List Value} {args' : Array Value} {H H' : CH} {ρ : Map} {b : Bool} {w : World} (hS : ∀ U f args H v H', S f args H = some (v, H') → CallOK P ⟨w, U⟩ f args H v H')
    (hr : Rel (.of w) ρ H w) (hv : VRs ρ args args'.toList) (h : icall P (withS S (orc P keep k)) keep f args H = some (.bool b, H')) : Calls P f args' w (fun e w' => e = .returned (.bool b) ∧ Go.RowKit.Below w.heap.size w w') := by
  have ok := icall_ok (w0 := .of w) (withS_ok (orc_ok (keep := keep) hm w k) hS) hm h
  have := ok ρ w args' hr hv
  rw [← callsIn_wide (n := 0)]
  refine this.mono fun e w' ⟨ρ', v', he, _, hr, vr⟩ => ?_
  refine ⟨?_, hr.below⟩
  rw [he]
  cases vr
  rfl
end
end Go.Cn
