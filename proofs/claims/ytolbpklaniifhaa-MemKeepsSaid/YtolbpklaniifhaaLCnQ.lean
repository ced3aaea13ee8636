/- From a canonical run to a contract, where one block of the caller's is looked into. -/
import Derived.Test.YtolbpklaniifhaaLCnO
namespace Go.Cn
set_option linter.unusedVariables false
set_option linter.unusedSimpArgs false
section
variable {P : Program} {keep : FuncId → List Nat}
/-- One block of cells at the start, which is not the run's own. -/
def H1 (cs : List Value) (e : TypeId) : CH := ⟨1, 1, .node .nil (some (.cells cs e)) .nil⟩
def ρ1 (x d N : Nat) : Map := fun b => if b = 0 then some ⟨x, d, N⟩ else none
theorem get_H1 (cs : List Value) (e : TypeId) : (H1 cs e).get 0 = some (.cells cs e) := rfl
theorem get_H1' (cs : List Value) (e : TypeId) {b : Nat} (hb : 1 ≤ b) : (H1 cs e).get b = none := by
  obtain ⟨n, rfl⟩ : ∃ n, b = n + 1 := ⟨b - 1, by omega⟩
  unfold H1 CH.get path
  simp only [bitsOf]
  rw [if_neg (by omega)]
  simp only [Tr.get]
  split <;> rfl
theorem Rel.start1 (w : World) {x d : Nat} {c' : Array Value} {e' : TypeId} {fz : Nat × Nat} {cs : List Value} {e : TypeId} (ho : w.heap[x]? = some (.cells c' e' fz)) (hd : d + cs.length ≤ c'.size)
    (hv : ∀ k, k < cs.length → VR (ρ1 x d c'.size) (cs.getD k undef) (c'.getD (d + k) undef)) : Rel w (ρ1 x d c'.size) (H1 cs e) w where
  lim := Nat.le_refl _
  dom := fun b hb => ⟨⟨x, d, c'.size⟩, by have : b = 0 := by (have : b < 1 := hb); omega
                                          simp [ρ1, this]⟩
  out := fun b hb => by have : 1 ≤ b := hb; simp [ρ1]; omega
  bare := fun b hb => get_H1' cs e hb
  img := fun b i h => by
    unfold ρ1 at h
    split at h
    · cases h
      exact (Array.getElem?_eq_some_iff.1 ho).1
    · cases h
  high := fun b i hb h => by
    have : 1 ≤ b := hb
    unfold ρ1 at h
    rw [if_neg (by omega)] at h; cases h
  inj := fun b b' i i' hb hb' h h' _ => by
    have : b = 0 := by
      rcases Nat.eq_zero_or_pos b with h0 | h0
      · exact h0
      · exact absurd (get_H1' cs e h0) hb
    have : b' = 0 := by
      rcases Nat.eq_zero_or_pos b' with h0 | h0
      · exact h0
      · exact absurd (get_H1' cs e h0) hb'
    omega
  obj := fun b o h => by
    rcases Nat.eq_zero_or_pos b with h0 | h0
    · subst h0
      rw [get_H1] at h; cases h
      exact ⟨⟨x, d, c'.size⟩, by simp [ρ1], c', e', fz, ho, rfl, hd, hv, fun hl => absurd hl (by show ¬ (1 ≤ 0); omega)⟩
    · rw [get_H1' cs e h0] at h; cases h
  below := Go.RowKit.Below.refl _ _
  zero := Nat.le_refl _
theorem calls_from (hm : P.follows .mixedOrders = true) {k : Nat} {f : FuncId} {args : List Value} {args' : Array Value} {H H' : CH} {ρ : Map} {b : Bool} {w : World} (hr : Rel w ρ H w) (hv : VRs ρ args args'.toList)
    (h : (orc P keep k).call f args H = some (.bool b, H')) : Calls P f args' w (fun e w' => e = .returned (.bool b) ∧ Go.RowKit.Below w.heap.size w w') := by
  have ok := (orc_ok (w0 := w) (keep := keep) hm k).call f args H _ H' h
  have := ok ρ w args' hr hv
  rw [← callsIn_wide (n := 0)]
  refine this.mono fun e w' ⟨ρ', v', he, _, hr, vr⟩ => ?_
  refine ⟨?_, hr.below⟩
  rw [he]
  cases vr
  rfl
end
end Go.Cn
