/- A region that draws, but turns nothing: it goes like one that doesn't draw. -/
import Derived.Test.YtolbpklaniifhaaLKt
namespace Go.Cn
set_option linter.unusedVariables false
theorem one_quiet (P : Program) (O : Orc) (c : Ctx) (pre : Array Nat) (i : Nat) (o : Oper) (rds : List (Nat × (CH → Option Value) × Value)) (st : St) (H : CH) {R : Type} (K : Acc → Value → St → CH → Option R) (K' : Value → St → CH → Option R)
    (he : isEff P o.op = false) (h : ∀ rds v st H, K ⟨rds, []⟩ v st H = K' v st H) : iopsD.one P O c pre i o ⟨rds, []⟩ st H K = iop P O c o st H K' := by
  unfold iopsD.one
  congr 1; funext v st' H'
  unfold dchk
  rw [he]
  split
  · simp only [List.filter_nil, List.map_nil, chks]; exact h _ _ _ _
  · exact h _ _ _ _
theorem guard_quiet (P : Program) (O : Orc) (c : Ctx) (ops : Array Oper) (pre : Array Nat) (i : Nat) (o : Oper) (rds : List (Nat × (CH → Option Value) × Value)) (st : St) (H : CH) {R : Type} (K : Acc → Value → St → CH → Option R) (K' : Value → St → CH → Option R)
    (he : isEff P o.op = false) (h : ∀ rds v st H, K ⟨rds, []⟩ v st H = K' v st H) : iopsD.iguardD P O c ops pre i o ⟨rds, []⟩ st H K = iguard P O c ops o st H K' := by
  unfold iopsD.iguardD iguard
  split
  · exact one_quiet P O c pre i o rds st H K K' he h
  · split
    · rfl
    · congr 1; funext b
      rw [one_quiet P O c pre i o rds _ H K K' he h, one_quiet P O c pre i o rds _ H K K' he h, h, h]
theorem iopsD_quiet (P : Program) (O : Orc) (c : Ctx) (ops : Array Oper) (pre : Array Nat) {R : Type} (K : St → CH → Option R) : ∀ (l : List Oper) (i : Nat) (rds : List (Nat × (CH → Option Value) × Value)) (st : St) (H : CH),
    l.all (fun o => !isEff P o.op) = true → iopsD P O c ops pre i l ⟨rds, []⟩ st H K = iops P O c ops l st H K
  | [], _, _, _, _, _ => rfl
  | o :: l, i, rds, st, H, hl => by
    simp only [List.all_cons, Bool.and_eq_true, Bool.not_eq_true'] at hl
    simp only [iopsD, iops]
    exact guard_quiet P O c ops pre i o rds st H _ _ hl.1 (fun rds v st H => iopsD_quiet P O c ops pre K l (i + 1) rds (st.put o.dst v) H hl.2)
theorem st_regionD (P : Program) (O : Orc) (c : Ctx) (id : Nat) (ops : Array Oper) (t : List Value) (ds : List Deferred) (H : CH) {R : Type} (K : Nat → St → CH → Option R) (hg : ops.toList.any (·.guard.isSome) = true)
    (hr : regOk P ops = true) (he : ops.toList.all (fun o => !isEff P o.op) = true) :
    icode P O c (.region id ops true) ⟨t, ds⟩ H K = iops P O c ops ops.toList ⟨t, ds⟩ H (grK ops t K) := by
  simp only [icode, iregionG, hg, cond_true, iregion, hr]
  rw [iopsD_quiet P O c ops _ _ _ _ _ _ _ he, iops_nat]
  rfl
end Go.Cn
