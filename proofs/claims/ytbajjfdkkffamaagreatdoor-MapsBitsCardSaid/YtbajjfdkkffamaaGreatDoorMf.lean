/- The law of bits: the walk from every input. -/
import Derived.Test.YtbajjfdkkffamaaGreatDoorMe
import Derived.Test.YtbajjfdkkffamaaGreatDoorKn
namespace Go.Cn
set_option linter.unusedVariables false
set_option linter.unusedSimpArgs false
open Go.RowKit
theorem mixed : Go.Proofs.Tryz.prog.follows .mixedOrders = true := by kernel_rfl
/-- The summary of known(). -/
def S4 : Sums := fun f args H =>
  match args with
  | [] => cond (Nat.beq f 4) (some (.bool true, H)) none
  | _ => none
theorem S4_ok {W : World} (hW : Facts W) (U : Nat → Prop) (f : FuncId) (args : List Value) (H : CH) (v : Value) (H' : CH) (h : S4 f args H = some (v, H')) : CallOK Go.Proofs.Tryz.prog ⟨W, U⟩ f args H v H' := by
  unfold S4 at h
  split at h
  · cases e : Nat.beq f 4 with
    | false => rw [e] at h; cases h
    | true =>
      rw [e, cond_true] at h
      simp only [Option.some.injEq, Prod.mk.injEq] at h
      obtain ⟨rfl, rfl⟩ := h
      have hf : f = 4 := Nat.eq_of_beq_eq_true e
      subst hf
      exact sum_bareF (F := Facts) Facts.stays rfl rfl (fun w hw => calls_bareS (keep := KZ) (k := 400) mixed rfl rfl known_run w (S2_ok hw)) hW U H
  · cases h
noncomputable def calW (k : Nat) : Cal := toC Go.Proofs.Tryz.prog (withS S4 (orc Go.Proofs.Tryz.prog KZ k))
theorem calW_4 (k : Nat) (H : CH) : (calW k).call 4 [] H = some (.bool true, H) := rfl
theorem calW_call (k : Nat) (f : FuncId) (a : List Value) (H : CH) (hf : f ≠ 4) : (calW k).call f a H = (cal k).call f a H := by
  have e : S4 f a H = none := by
    unfold S4
    split
    · have : Nat.beq f 4 = false := by
        cases e : Nat.beq f 4 with
        | false => rfl
        | true => exact absurd (Nat.eq_of_beq_eq_true e) hf
      rw [this, cond_false]
    · rfl
  have e2 : (calW k).call f a H = (match S4 f a H with | some r => some r | none => (cal k).call f a H) := rfl
  rw [e2, e]
theorem calW_loop (k : Nat) (f : FuncId) (j : Nat) (rd : Option Nat) (vs : List Value) (ds : List Deferred) (H : CH) : (calW k).sloop f j rd vs ds H = (cal k).sloop f j rd vs ds H := by kernel_rfl
theorem calls3 {W : World} (hF : Facts W) {ρ : Map} {G : CH} {L B i : Value} {args' : Array Value} (hr : Rel (.of W) ρ G W) (hv : VRs ρ [L, B, i] args'.toList) (h : ∃ H', F3 (calW 3000) L B i G = some (.bool true, H')) :
    Calls Go.Proofs.Tryz.prog 3 args' W fun e W' => e = .returned (.bool true) ∧ Below W.heap.size W W' := by
  obtain ⟨H', h⟩ := h
  exact calls_withS mixed (S4_ok hF) hr hv ((E3 _ L B i G).trans h)
/-- A slice of the caller's, and what stands for it. -/
structure Stands (pre rs suf : List CRow) (W : World) (v : Value) (n : Nat) (f : Nat → Value) (c : Value) : Prop where
  vr : VR (ρR W (pre ++ rs ++ suf)) c v
  len : ∃ A cc, c = .slice A n cc
  row : n < 2 ^ 31 → ∀ H : CH, (∀ b, b < (pre ++ rs ++ suf).length → H.get b = (HR (pre ++ rs ++ suf)).get b) → Row H c n f
def Sl (W : World) (v : Value) (n : Nat) (f : Nat → Value) : Prop := ∃ rs : List CRow, (∀ r ∈ rs, r.At W) ∧ ∀ pre suf : List CRow, ∃ c, Stands pre rs suf W v n f c
theorem Sl.nil (W : World) (f : Nat → Value) : Sl W (.slice none 0 0) 0 f :=
  ⟨[], fun _ h => by simp at h, fun pre suf => ⟨.slice none 0 0, .nilSlice 0, ⟨_, _, rfl⟩, fun _ H _ => ⟨rfl, fun j hj => absurd hj (Nat.not_lt_zero _), by decide⟩⟩⟩
theorem Sl.empty {W : World} {b : Nat} (o cap : Nat) (f : Nat → Value) (hb : ∃ c' e' fz, W.heap[b]? = some (.cells c' e' fz)) : Sl W (.slice (some ⟨b, o, none⟩) 0 cap) 0 f := by
  obtain ⟨c', e', fz, ho⟩ := hb
  refine ⟨[⟨b, 0, [], e'⟩], fun r hr => ?_, fun pre suf => ⟨.slice (some ⟨pre.length, o, none⟩) 0 (2 * cap + 1), ?_, ⟨_, _, rfl⟩, fun _ H _ => ⟨rfl, fun j hj => absurd hj (Nat.not_lt_zero _), by decide⟩⟩⟩
  · obtain rfl := List.mem_singleton.1 hr
    exact ⟨c', e', fz, ho, by simp, fun k hk => absurd hk (Nat.not_lt_zero _)⟩
  · have h0 := VR.sliceOf (ρ := ρR W (pre ++ [⟨b, 0, [], e'⟩] ++ suf)) pre.length o ⟨b, 0, szAt W b⟩ 0 cap (by simp [ρR]) (Nat.zero_le _)
    simpa using h0
theorem Sl.row {W : World} {b o len cap : Nat} {f : Nat → Value} (hl : len ≤ cap) (hb : ∃ c' e' fz, W.heap[b]? = some (.cells c' e' fz) ∧ o + len ≤ c'.size) (hc : ∀ j, j < len → W.cell? ⟨b, o + j, none⟩ = some (f j)) (hf : ∀ j, j < len → ∀ ρ, VR ρ (f j) (f j)) :
    Sl W (.slice (some ⟨b, o, none⟩) len cap) len f := by
  obtain ⟨c', e', fz, ho, hsz⟩ := hb
  have hcs : ((List.range len).map f).length = len := by simp
  have hget : ∀ j, j < len → ((List.range len).map f).getD j undef = f j := fun j hj => by simp [List.getD_eq_getElem?_getD, hj]
  refine ⟨[⟨b, o, (List.range len).map f, e'⟩], fun r hr => ?_, fun pre suf => ⟨.slice (some ⟨pre.length, 0, none⟩) len (2 * cap + 1), ?_, ⟨_, _, rfl⟩, fun hs H hH => ⟨rfl, fun j hj => ?_, hs⟩⟩⟩
  · obtain rfl := List.mem_singleton.1 hr
    refine ⟨c', e', fz, ho, by rw [hcs]; exact hsz, fun k hk ρ => ?_⟩
    rw [hcs] at hk
    rw [hget k hk]
    have := hc k hk
    unfold World.cell? at this
    rw [ho] at this
    have e : c'.getD (o + k) undef = f k := by
      have h1 : c'[o + k]? = some (f k) := by simpa using this
      rw [Array.getD_eq_getD_getElem?, h1]; rfl
    show VR ρ (f k) (c'.getD (o + k) undef)
    rw [e]; exact hf k hk ρ
  · have h0 := VR.sliceOf (ρ := ρR W (pre ++ [⟨b, o, (List.range len).map f, e'⟩] ++ suf)) pre.length 0 ⟨b, o, szAt W b⟩ len cap (by simp [ρR]) hl
    simpa using h0
  · have hg : H.get pre.length = some (.cells ((List.range len).map f) e') := by
      rw [hH pre.length (by simp), HR_get]
      simp
    refine ⟨_, v_idx 1 pre.length 0 len _ .i64 (j : Int) (by omega) (by omega), ?_⟩
    rw [h_ld hg (by rw [hcs]; omega)]
    simp only [Nat.zero_add, Int.toNat_natCast, Nat.mul_one]
    rw [hget j hj]
/-- The walk, whatever the slices. -/
theorem walk {W : World} (hF : Facts W) {L B : Value} {l : List Bool} {m : Nat} {w : Nat → Nat} (hL : Sl W L l.length (fun j => .bool (l.getD j false))) (hB : Sl W B m (wd w)) (hw : ∀ j, j < m → w j < 2 ^ 64) (i : Int) (hi : -2 ^ 63 ≤ i) (hi2 : i < 2 ^ 63) :
    Calls Go.Proofs.Tryz.prog 3 #[L, B, .int .i64 i] W fun e W' => e = .returned (.bool true) ∧ Below W.heap.size W W' := by
  obtain ⟨r1, a1, s1⟩ := hL
  obtain ⟨r2, a2, s2⟩ := hB
  obtain ⟨cL, v1, ⟨A1, cc1, n1⟩, w1⟩ := s1 [] r2
  obtain ⟨cB, v2, ⟨A2, cc2, n2⟩, w2⟩ := s2 r1 []
  rw [List.nil_append] at v1 w1
  rw [List.append_nil] at v2 w2
  have hr := Rel.startR W (r1 ++ r2) (fun r hr => by
    rcases List.mem_append.1 hr with h | h
    · exact a1 r h
    · exact a2 r h) rfl
  refine calls3 hF hr (.cons v1 (.cons v2 (.cons (.int .i64 i) (.nil _)))) ?_
  by_cases hfar : 1000 < l.length ∨ 50 < m
  · subst n1 n2
    exact ⟨_, bits_far (calW_4 3000 _) _ hfar⟩
  · have h1 : l.length ≤ 1000 := by omega
    have h2 : m ≤ 50 := by omega
    have fl : ∀ H, Fl (HR (r1 ++ r2)).n (HR (r1 ++ r2)) H → ∀ b, b < (r1 ++ r2).length → H.get b = (HR (r1 ++ r2)).get b := fun H f b hb => f.get b hb
    exact bits_spec (K := 3000) (Nat.le_refl _) (fun f a H hf => calW_call 3000 f a H hf) (calW_loop 3000) (calW_4 3000 _) (Fl.refl _ _) h1 h2 (fun H f => w1 (by omega) H (fl H f)) (fun H f => w2 (by omega) H (fl H f)) hw (Nat.le_refl _) (Nat.le_refl _) i hi hi2
end Go.Cn
