/- From a canonical run to a contract, where one block of the caller's is looked into. -/
import Derived.Test.YtbajjfdkkffamaaGreatDoorCnN
namespace Go.Cn
set_option linter.unusedVariables false
set_option linter.unusedSimpArgs false
section
variable {P : Program} {keep : FuncId → List Nat}
/-- One block of cells at the start, which is not the run's own. -/
def H1 (cs : List Value) (e : TypeId) : CH := ⟨1, 1, .node .nil (some (.cells cs e)) .nil⟩
def ρ1 (x d N : Nat) : Map := fun b => if b = 0 then some ⟨x, d, N⟩ else none
theorem get_H1 (cs : List Value) (e : TypeId) : (H1 cs e).get 0 = some (.cells cs e) := rfl
theorem get_H1' (cs : List Value) (e : TypeId) {b : Nat} (hb : 1 ≤ b) : (H1 cs e).get b = none := by
  obtain ⟨n, rfl⟩ : ∃ n, b = n + 1 := ⟨b - 1, by omega⟩
  unfold H1 CH.get path
  simp only [bitsOf]
  rw [if_neg (by omega)]
  simp only [Tr.get]
  split <;> rfl
theorem Rel.start1 (w : World) {x d : Nat} {c' : Array Value} {e' : TypeId} {fz : Nat × Nat} {cs : List Value} {e : TypeId} (ho : w.heap[x]? = some (.cells c' e' fz)) (hd : d + cs.length ≤ c'.size)
    (hv : ∀ k, k < cs.length → VR (ρ1 x d c'.size) (cs.getD k undef) (c'.getD (d + k) undef)) : Rel (.of w) (ρ1 x d c'.size) (H1 cs e) w where
  lim := Nat.le_refl _
  un := fun b hb => hb.elim
  out := fun b hb => by have : 1 ≤ b := hb; simp [ρ1]; omega
  bare := fun b hb => get_H1' cs e hb
  img := fun b i h => by
    unfold ρ1 at h
    split at h
    · cases h
      exact (Array.getElem?_eq_some_iff.1 ho).1
    · cases h
  high := fun b i hb h => by
    have : 1 ≤ b := hb
    unfold ρ1 at h
    rw [if_neg (by omega)] at h; cases h
  low := fun b i hb h => by
    have hb : b < 1 := hb
    unfold ρ1 at h
    rw [if_pos (by omega)] at h; cases h
    exact (Array.getElem?_eq_some_iff.1 ho).1
  inj := fun b b' i i' _ _ hb hb' h h' _ => by
    have : b = 0 := by
      rcases Nat.eq_zero_or_pos b with h0 | h0
      · exact h0
      · exact absurd (get_H1' cs e h0) hb
    have : b' = 0 := by
      rcases Nat.eq_zero_or_pos b' with h0 | h0
      · exact h0
      · exact absurd (get_H1' cs e h0) hb'
    omega
  obj := fun b o h _ => by
    rcases Nat.eq_zero_or_pos b with h0 | h0
    · subst h0
      rw [get_H1] at h; cases h
      exact ⟨⟨x, d, c'.size⟩, by simp [ρ1], c', e', fz, ho, rfl, hd, hv, fun hl => absurd hl (by show ¬ (1 ≤ 0); omega)⟩
    · rw [get_H1' cs e h0] at h; cases h
  below := Go.RowKit.Below.refl _ _
  zero := Nat.le_refl _
  glob := fun g hg => absurd hg (Nat.not_lt_zero _)
theorem calls_from (hm : P.follows .mixedOrders = true) {k : Nat} {f : FuncId} {args : List Value} {args' : Array Value} {H H' : CH} {ρ : Map} {b : Bool} {w : World} (hr : Rel (.of w) ρ H w) (hv : VRs ρ args args'.toList)
    (h : (orc P keep k).call f args H = some (.bool b, H')) : Calls P f args' w (fun e w' => e = .returned (.bool b) ∧ Go.RowKit.Below w.heap.size w w') := by
  have ok := (orc_ok (keep := keep) hm w k).call (fun _ => False) f args H _ H' h
  have := ok ρ w args' hr hv
  rw [← callsIn_wide (n := 0)]
  refine this.mono fun e w' ⟨ρ', v', he, _, hr, vr⟩ => ?_
  refine ⟨?_, hr.below⟩
  rw [he]
  cases vr
  rfl
/-! ### A start with rows of the caller's -/
/-- A row of the caller's: where it lies, and what of it is told. -/
structure CRow where
  x : Nat
  d : Nat
  cs : List Value
  e : TypeId
/-- A caller's row is there. -/
def CRow.At (w : World) (r : CRow) : Prop := ∃ c' e' fz, w.heap[r.x]? = some (.cells c' e' fz) ∧ r.d + r.cs.length ≤ c'.size ∧ ∀ k, k < r.cs.length → ∀ ρ, VR ρ (r.cs.getD k undef) (c'.getD (r.d + k) undef)
def Tr.ofList (f : Nat → Option CObj) : Nat → Tr CObj
  | 0 => .nil
  | n + 1 => (Tr.ofList f n).put (f n) (path n)
theorem Tr.ofList_get (f : Nat → Option CObj) : ∀ n b, (Tr.ofList f n).get (path b) = if b < n then f b else none
  | 0, b => by simp only [Tr.ofList, Nat.not_lt_zero, if_false]; cases path b <;> rfl
  | n + 1, b => by
    simp only [Tr.ofList]
    by_cases e : b = n
    · subst e; rw [Tr.get_put, if_pos (by omega)]
    · rw [Tr.get_put_ne _ _ _ _ (fun h => e (path_inj h).symm), Tr.ofList_get f n b]
      by_cases h : b < n
      · rw [if_pos h, if_pos (by omega)]
      · rw [if_neg h, if_neg (by omega)]
/-- The rows as the first blocks. -/
def HR (rs : List CRow) : CH := ⟨rs.length, rs.length, Tr.ofList (fun b => (rs[b]?).map fun r => .cells r.cs r.e) rs.length⟩
def szAt (w : World) (x : Nat) : Nat := match w.heap[x]? with | some (.cells c _ _) => c.size | _ => 0
def ρR (w : World) (rs : List CRow) : Map := fun b => (rs[b]?).map fun r => ⟨r.x, r.d, szAt w r.x⟩
theorem HR_get (rs : List CRow) (b : Nat) : (HR rs).get b = (rs[b]?).map fun r => .cells r.cs r.e := by
  unfold HR CH.get
  rw [Tr.ofList_get]
  split
  · rfl
  · rename_i h
    rw [List.getElem?_eq_none (by omega)]; rfl
theorem Rel.startR (w : World) (rs : List CRow) (hr : ∀ r ∈ rs, r.At w) (hg : gN = 0) : Rel (.of w) (ρR w rs) (HR rs) w where
  lim := Nat.le_refl _
  un := fun b hb => hb.elim
  out := fun b hb => by have : rs.length ≤ b := hb; simp [ρR, List.getElem?_eq_none this]
  bare := fun b hb => by have : rs.length ≤ b := hb; rw [HR_get, List.getElem?_eq_none this]; rfl
  img := fun b i h => by
    unfold ρR at h
    rw [Option.map_eq_some_iff] at h
    obtain ⟨r, h1, rfl⟩ := h
    obtain ⟨c', e', fz, ho, _⟩ := hr r (List.mem_of_getElem? h1)
    exact (Array.getElem?_eq_some_iff.1 ho).1
  high := fun b i hb h => by
    have : rs.length ≤ b := hb
    unfold ρR at h
    rw [List.getElem?_eq_none this] at h; cases h
  low := fun b i _ h => by
    unfold ρR at h
    rw [Option.map_eq_some_iff] at h
    obtain ⟨r, h1, rfl⟩ := h
    obtain ⟨c', e', fz, ho, _⟩ := hr r (List.mem_of_getElem? h1)
    exact (Array.getElem?_eq_some_iff.1 ho).1
  inj := fun b b' i i' hb _ hn _ _ _ _ => by
    have : rs.length ≤ b := hb
    rw [HR_get, List.getElem?_eq_none this] at hn
    exact absurd rfl hn
  obj := fun b o h _ => by
    rw [HR_get, Option.map_eq_some_iff] at h
    obtain ⟨r, h1, rfl⟩ := h
    obtain ⟨c', e', fz, ho, hd, hv⟩ := hr r (List.mem_of_getElem? h1)
    have hlt : b < rs.length := (List.getElem?_eq_some_iff.1 h1).1
    refine ⟨⟨r.x, r.d, szAt w r.x⟩, by simp [ρR, h1], c', e', fz, ho, by simp [szAt, ho], hd, fun k hk => hv k hk _, fun hl => absurd hl (by show ¬ (rs.length ≤ b); omega)⟩
  below := Go.RowKit.Below.refl _ _
  zero := Nat.le_refl _
  glob := fun g hg' => by rw [hg] at hg'; exact absurd hg' (Nat.not_lt_zero _)
end
end Go.Cn
