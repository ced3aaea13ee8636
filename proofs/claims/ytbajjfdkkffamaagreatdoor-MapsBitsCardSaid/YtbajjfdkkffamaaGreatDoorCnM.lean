/- From a canonical run to a contract, where the arguments are bare. -/
import Derived.Test.YtbajjfdkkffamaaGreatDoorCnL
namespace Go.Cn
set_option linter.unusedVariables false
set_option linter.unusedSimpArgs false
section
variable {P : Program} {w0 : Base} {keep : FuncId → List Nat}
def H0 : CH := ⟨0, 0, .nil⟩
def bareV : Value → Bool
  | .int .. | .bool _ => true
  | _ => false
theorem VR.bare {ρ : Map} {v : Value} (h : bareV v = true) : VR ρ v v := by
  cases v <;> simp [bareV] at h
  · exact .bool _
  · exact .int _ _
theorem VRs.bare {ρ : Map} {l : List Value} (h : l.all bareV = true) : VRs ρ l l := by
  refine ⟨rfl, fun k hk => ?_⟩
  rw [List.all_eq_true] at h
  have : l.getD k undef = l[k] := by simp [List.getD_eq_getElem?_getD, hk]
  rw [this]; exact VR.bare (h _ (by simp))
theorem get_H0 (b : Nat) : H0.get b = none := by
  unfold H0 CH.get
  simp only
  cases path b <;> rfl
theorem Rel.start (w : World) : Rel (.of w) (fun _ => none) H0 w where
  lim := Nat.le_refl _
  un := fun b hb => hb.elim
  out := fun _ _ => rfl
  bare := fun b _ => get_H0 b
  img := fun _ _ h => by cases h
  high := fun _ _ _ h => by cases h
  low := fun _ _ _ h => by cases h
  inj := fun _ _ _ _ _ _ _ _ h => by cases h
  obj := fun b o h _ => by rw [get_H0] at h; cases h
  below := Go.RowKit.Below.refl _ _
  zero := Nat.le_refl _
  glob := fun g hg => absurd hg (Nat.not_lt_zero _)
theorem calls_bare (hm : P.follows .mixedOrders = true) {k : Nat} {f : FuncId} {args : List Value} (hb : args.all bareV = true) {b : Bool} (h : ((orc P keep k).call f args H0).map (·.1) = some (.bool b)) (w : World) :
    Calls P f ⟨args⟩ w (fun e w' => e = .returned (.bool b) ∧ Go.RowKit.Below w.heap.size w w') := by
  rw [Option.map_eq_some_iff] at h
  obtain ⟨⟨v, H'⟩, h, hv⟩ := h
  simp only at hv; subst hv
  have ok := (orc_ok (keep := keep) hm w k).call (fun _ => False) f args H0 _ H' h
  have := ok (fun _ => none) w ⟨args⟩ (Rel.start w) (by simpa using VRs.bare hb)
  rw [← callsIn_wide (n := 0)]
  refine this.mono fun e w' ⟨ρ', v', he, _, hr, vr⟩ => ?_
  refine ⟨?_, hr.below⟩
  rw [he]
  cases vr
  rfl
end
end Go.Cn
