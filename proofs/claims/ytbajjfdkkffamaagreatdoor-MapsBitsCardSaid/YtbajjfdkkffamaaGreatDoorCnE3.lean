/- Slices, structs, conversions. -/
import Derived.Test.YtbajjfdkkffamaaGreatDoorCnE2
import Derived.Laws.Build
namespace Go.Cn
set_option linter.unusedVariables false
set_option linter.unusedSimpArgs false
section
variable {P : Program} {ρ : Map} {w : World}
/-- An operand that may be left out. -/
def OVR (ρ : Map) : Option Value → Option Value → Prop
  | none, none => True
  | some v, some v' => VR ρ v v'
  | _, _ => False
theorem OVR.map (hG : GlobOK ρ) {ts : List Value} {a : Act} (h : VRs ρ ts a.tmps.toList) (x : Option Operand) : OVR ρ (x.map (ev ts)) (x.map a.eval) := by
  cases x with
  | none => trivial
  | some x => exact ev_rel hG h x
theorem run_bound {v : Value} {k : IntKind} {i : Int} {y : Nat} {c : BoundsCode} (hv : v = .int k i) (h0 : 0 ≤ i) (h1 : i ≤ y) : (Instr.sliceBound v y c).run P w = .ok i.toNat w := by
  subst hv
  simp [Instr.sliceBound, asIntOf, h0, h1]
/-- What the bounds of a slice come to. -/
theorem run_bounds {isS : Bool} {len cap : Nat} {lo hi mx lo' hi' mx' : Option Value} {l h m : Int} (rl : OVR ρ lo lo') (rh : OVR ρ hi hi') (rm : OVR ρ mx mx')
    (el : loOf lo = some l) (eh : hiOf len hi = some h)
    (em : hiOf cap mx = some m) (hm : mx.isSome → hi.isSome)
    (h0 : 0 ≤ l) (h1 : l ≤ h) (h2 : h ≤ m) (h3 : m ≤ cap) : (Instr.sliceBounds isS len cap lo' hi' mx').run P w = .ok (l.toNat, h.toNat, m.toNat) w := by
  have key : ∀ (v v' : Value) (n : Int) (y : Nat) (c : BoundsCode), VR ρ v v' → asI v = some n → 0 ≤ n → n ≤ y → (Instr.sliceBound v' y c).run P w = .ok n.toNat w := fun v v' n y c hv e a b => by
    obtain ⟨k, hk⟩ := hv.asI e
    exact run_bound hk a b
  cases mx with
  | none =>
    cases mx' with
    | some _ => exact rm.elim
    | none =>
      cases em
      cases hi with
      | none =>
        cases hi' with
        | some _ => exact rh.elim
        | none =>
          cases eh
          cases lo with
          | none =>
            cases lo' with
            | some _ => exact rl.elim
            | none => cases el; simp [Instr.sliceBounds]
          | some v =>
            cases lo' with
            | none => exact rl.elim
            | some v' => simp [Instr.sliceBounds, key v v' l len _ rl el h0 h1]
      | some u =>
        cases hi' with
        | none => exact rh.elim
        | some u' =>
          have e1 := fun c => key u u' h cap c rh eh (by omega) (by omega)
          cases lo with
          | none =>
            cases lo' with
            | some _ => exact rl.elim
            | none => cases el; simp [Instr.sliceBounds, e1]
          | some v =>
            cases lo' with
            | none => exact rl.elim
            | some v' => simp [Instr.sliceBounds, e1, key v v' l h.toNat _ rl el h0 (by omega)]
  | some x =>
    cases mx' with
    | none => exact rm.elim
    | some x' =>
      have e2 := fun c => key x x' m cap c rm em (by omega) (by omega)
      cases hi with
      | none => simp at hm
      | some u =>
        cases hi' with
        | none => exact rh.elim
        | some u' =>
          have e1 := fun c => key u u' h m.toNat c rh eh (by omega) (by omega)
          cases lo with
          | none =>
            cases lo' with
            | some _ => exact rl.elim
            | none => cases el; simp [Instr.sliceBounds, e1, e2]
          | some v =>
            cases lo' with
            | none => exact rl.elim
            | some v' => simp [Instr.sliceBounds, e1, e2, key v v' l h.toNat _ rl el h0 (by omega)]
theorem addr_add (b o n : Nat) : (⟨b, o, none⟩ : Addr).add n = ⟨b, o + n, none⟩ := by
  unfold Addr.add; split <;> simp_all
theorem VR.ptr' {b o : Nat} {i : Img} (h : ρ b = some i) (n : Nat) : VR ρ (.pointer (some (addA ⟨b, o, none⟩ n))) (.pointer (some ⟨i.x, o + i.d + n, none⟩)) := by
  have := VR.ptr (ρ := ρ) b (o + n) i h
  rw [show o + i.d + n = o + n + i.d by omega]
  exact this
theorem cSliceSl_exact {n b o len k : Nat} {i : Img} {v : Value} {lo hi mx lo' hi' mx' : Option Value} (hb : ρ b = some i) (_hlen : len ≤ k)
    (rl : OVR ρ lo lo') (rh : OVR ρ hi hi') (rm : OVR ρ mx mx') (h : cSliceSl n ⟨b, o, none⟩ len (2 * k + 1) lo hi mx = some v) :
    ∃ l h m : Nat, (∀ isS, (Instr.sliceBounds isS len k lo' hi' mx').run P w = .ok (l, h, m) w) ∧
      VR ρ v (.slice (some (if m = l then ⟨i.x, o + i.d, none⟩ else ⟨i.x, o + i.d + l * n, none⟩)) (h - l) (m - l)) := by
  unfold cSliceSl at h
  simp only [Option.bind_eq_some_iff] at h
  obtain ⟨hh, eh, l, el, h⟩ := h
  have hodd : (2 * k + 1) % 2 = 1 := by omega
  have hk2 : (2 * k + 1) / 2 = k := by omega
  cases mx with
  | none =>
    simp only [hodd, hk2, if_true] at h
    split at h
    · rename_i hc
      cases h
      obtain ⟨b1, b2, b3⟩ := hc
      refine ⟨l.toNat, hh.toNat, k, fun isS => run_bounds (m := k) rl rh rm el eh rfl (by simp) b1 b2 b3 (Int.le_refl _), ?_⟩
      by_cases hc : k = l.toNat
      · rw [if_pos hc, if_pos hc]
        exact .sliceOf b o i _ _ hb (by omega)
      · rw [if_neg hc, if_neg hc]
        have := VR.sliceOf (ρ := ρ) b (o + l.toNat * n) i (hh.toNat - l.toNat) (k - l.toNat) hb (by omega)
        simpa [addA, Nat.add_right_comm] using this
    · cases h
  | some xm =>
    simp only [Option.bind_eq_some_iff] at h
    obtain ⟨m, em, h⟩ := h
    simp only [capTop, hodd, hk2, if_true] at h
    split at h
    · rename_i hc
      cases h
      obtain ⟨b0, b1, b2, b3, b4⟩ := hc
      refine ⟨l.toNat, hh.toNat, m.toNat, fun isS => run_bounds rl rh rm el eh em (fun _ => b0) b1 b2 b3 b4, ?_⟩
      by_cases hc : m = l
      · rw [if_pos hc, if_pos (by omega)]
        exact .sliceOf b o i _ _ hb (by omega)
      · rw [if_neg hc, if_neg (by omega)]
        have := VR.sliceOf (ρ := ρ) b (o + l.toNat * n) i (hh.toNat - l.toNat) (m.toNat - l.toNat) hb (by omega)
        simpa [addA, Nat.add_right_comm] using this
    · cases h
/-- The same where nothing is there: a slice of no elements, of no capacity. -/
theorem cSliceSl_out {n b o c : Nat} {a : Addr} {i : Img} {v : Value} {lo hi mx lo' hi' mx' : Option Value} (hb : ρ b = some i) (hc : c = 1 ∨ c = 2 * n)
    (rl : OVR ρ lo lo') (rh : OVR ρ hi hi') (rm : OVR ρ mx mx') (h : cSliceSl n ⟨b, o, none⟩ 0 c lo hi mx = some v) :
    (∀ isS, (Instr.sliceBounds isS 0 0 lo' hi' mx').run P w = .ok (0, 0, 0) w) ∧ VR ρ v (.slice (some a) 0 0) := by
  unfold cSliceSl at h
  simp only [Option.bind_eq_some_iff] at h
  obtain ⟨hh, eh, l, el, h⟩ := h
  cases mx with
  | none =>
    simp only at h
    split at h
    · rename_i hodd
      obtain rfl : c = 1 := by omega
      split at h
      · rename_i hc
        cases h
        obtain ⟨b1, b2, b3⟩ := hc
        obtain rfl : l = 0 := by omega
        obtain rfl : hh = 0 := by omega
        exact ⟨fun isS => run_bounds (l := 0) (h := 0) (m := 0) rl rh rm el eh rfl (by simp) b1 b2 (by omega) (by omega), .sliceOut1 b o a i hb⟩
      · cases h
    · split at h
      · rename_i hc
        cases h
        obtain ⟨b0, b1, b2, b3⟩ := hc
        obtain rfl : l = 0 := by omega
        obtain rfl : hh = 0 := by omega
        exact ⟨fun isS => run_bounds (l := 0) (h := 0) (m := 0) rl rh rm el eh rfl (by simp) b1 b2 (by omega) (by omega), .sliceOut b _ a i n hb⟩
      · cases h
  | some xm =>
    simp only [Option.bind_eq_some_iff] at h
    obtain ⟨m, em, h⟩ := h
    have hct : capTop c 0 = 0 := by
      unfold capTop; split <;> omega
    rw [hct] at h
    split at h
    · rename_i hc
      cases h
      obtain ⟨b0, b1, b2, b3, b4⟩ := hc
      obtain rfl : l = 0 := by omega
      obtain rfl : hh = 0 := by omega
      obtain rfl : m = 0 := by omega
      exact ⟨fun isS => run_bounds (l := 0) (h := 0) (m := 0) rl rh rm el eh em (fun _ => b0) b1 b2 b3 (by omega), .sliceOut1 b o a i hb⟩
    · cases h
theorem cSliceSl_in {n b o len k : Nat} {i : Img} {v : Value} {lo hi mx lo' hi' mx' : Option Value} (hb : ρ b = some i) (hlen : len ≤ k) (hN : o + i.d + k * n ≤ i.N)
    (rl : OVR ρ lo lo') (rh : OVR ρ hi hi') (rm : OVR ρ mx mx') (h : cSliceSl n ⟨b, o, none⟩ len (2 * n) lo hi mx = some v) :
    ∃ l h m : Nat, (∀ isS, (Instr.sliceBounds isS len k lo' hi' mx').run P w = .ok (l, h, m) w) ∧
      VR ρ v (.slice (some (if m = l then ⟨i.x, o + i.d, none⟩ else ⟨i.x, o + i.d + l * n, none⟩)) (h - l) (m - l)) := by
  unfold cSliceSl at h
  simp only [Option.bind_eq_some_iff] at h
  obtain ⟨hh, eh, l, el, h⟩ := h
  have hev : ¬ (2 * n) % 2 = 1 := by omega
  cases mx with
  | none =>
    simp only [hev, if_false] at h
    split at h
    · rename_i hc
      cases h
      obtain ⟨_, b1, b2, b3⟩ := hc
      refine ⟨l.toNat, hh.toNat, k, fun isS => run_bounds (m := k) rl rh rm el eh rfl (by simp) b1 b2 (by omega) (Int.le_refl _), ?_⟩
      by_cases hc : k = l.toNat
      · rw [if_pos hc]
        have e1 : hh.toNat - l.toNat = 0 := by omega
        have e2 : k - l.toNat = 0 := by omega
        rw [e1, e2]
        exact .sliceOut b _ _ i n hb
      · rw [if_neg hc]
        have hmul : (k - l.toNat) * n + l.toNat * n = k * n := by rw [← Nat.add_mul]; congr 1; omega
        have := VR.sliceIn (ρ := ρ) b (o + l.toNat * n) i (hh.toNat - l.toNat) n (k - l.toNat) hb (by omega) (by omega)
        simpa [addA, Nat.add_right_comm] using this
    · cases h
  | some xm =>
    simp only [Option.bind_eq_some_iff] at h
    obtain ⟨m, em, h⟩ := h
    simp only [capTop, hev, if_false] at h
    split at h
    · rename_i hc
      cases h
      obtain ⟨b0, b1, b2, b3, b4⟩ := hc
      refine ⟨l.toNat, hh.toNat, m.toNat, fun isS => run_bounds rl rh rm el eh em (fun _ => b0) b1 b2 b3 (by omega), ?_⟩
      by_cases hc : m = l
      · rw [if_pos hc, if_pos (by omega)]
        exact .sliceOf b o i _ _ hb (by omega)
      · rw [if_neg hc, if_neg (by omega)]
        have := VR.sliceOf (ρ := ρ) b (o + l.toNat * n) i (hh.toNat - l.toNat) (m.toNat - l.toNat) hb (by omega)
        simpa [addA, Nat.add_right_comm] using this
    · cases h
theorem sliceSl_run {t e : TypeId} {n : Nat} {x x' v : Value} {lo hi mx lo' hi' mx' : Option Value} (hu : P.underlying t = some (.slice e)) (hn : szOf P e = some n) (hx : VR ρ x x')
    (rl : OVR ρ lo lo') (rh : OVR ρ hi hi') (rm : OVR ρ mx mx') (h : sliceSl n x lo hi mx = some v) : ∃ v', (Instr.sliceAt t x' lo' hi' mx').run P w = .ok v' w ∧ VR ρ v v' := by
  have go : ∀ (a' : Option Addr) (len k : Nat) (l h m : Nat), x' = .slice a' len k → (Instr.sliceBounds true len k lo' hi' mx').run P w = .ok (l, h, m) w →
      (Instr.sliceAt t x' lo' hi' mx').run P w = .ok (.slice (if m = l then a' else a'.map (·.add (l * n))) (h - l) (m - l)) w := fun a' len k l h m e1 e2 => by
    subst e1
    simp [Instr.sliceAt, Instr.slice, run_und hu, run_siz hn, e2]
  unfold sliceSl at h
  split at h
  · rename_i a len cap
    cases hx with
    | sliceOf b o i _ k hb hk =>
      obtain ⟨l, hh, m, r, vr⟩ := cSliceSl_exact (P := P) (w := w) hb hk rl rh rm h
      refine ⟨_, go _ _ _ l hh m rfl (r true), ?_⟩
      by_cases hc : m = l
      · simpa [hc] using vr
      · simpa [hc, addr_add] using vr
    | sliceIn b o i _ s k hb hk hN =>
      by_cases hs : s = n
      · subst hs
        obtain ⟨l, hh, m, r, vr⟩ := cSliceSl_in (P := P) (w := w) hb hk hN rl rh rm h
        refine ⟨_, go _ _ _ l hh m rfl (r true), ?_⟩
        by_cases hc : m = l
        · simpa [hc] using vr
        · simpa [hc, addr_add] using vr
      · cases mx with
        | none =>
          unfold cSliceSl at h
          simp only [Option.bind_eq_some_iff] at h
          obtain ⟨hh, eh, l, el, h⟩ := h
          split at h
          · omega
          · split at h
            · omega
            · cases h
        | some xm =>
          have h2 : cSliceSl n ⟨b, o, none⟩ len (2 * s) lo hi (some xm) = some v := h
          have h3 : cSliceSl n ⟨b, o, none⟩ len (2 * len + 1) lo hi (some xm) = some v := by
            unfold cSliceSl at h2 ⊢
            have e1 : capTop (2 * s) len = len := by unfold capTop; rw [if_neg (by omega)]
            have e2 : capTop (2 * len + 1) len = len := by unfold capTop; rw [if_pos (by omega)]; omega
            rw [e1] at h2; rw [e2]; exact h2
          obtain ⟨l, hh, m, r, vr⟩ := cSliceSl_exact (P := P) (w := w) hb (Nat.le_refl len) rl rh rm h3
          have r' : (Instr.sliceBounds true len k lo' hi' mx').run P w = .ok (l, hh, m) w := by
            unfold cSliceSl at h2
            simp only [Option.bind_eq_some_iff] at h2
            obtain ⟨h1, eh, l1, el, m1, em, h2⟩ := h2
            split at h2
            · rename_i hc
              obtain ⟨b0, b1, b2, b3, b4⟩ := hc
              have e1 : capTop (2 * s) len = len := by unfold capTop; rw [if_neg (by omega)]
              rw [e1] at b4
              have q1 := run_bounds (P := P) (w := w) (isS := true) (len := len) (cap := len) rl rh rm el eh em (fun _ => b0) b1 b2 b3 b4
              have q2 := run_bounds (P := P) (w := w) (isS := true) (len := len) (cap := k) rl rh rm el eh em (fun _ => b0) b1 b2 b3 (by omega)
              rw [r true] at q1
              rw [q2]; exact q1.symm
            · cases h2
          refine ⟨_, go _ _ _ l hh m rfl r', ?_⟩
          by_cases hc : m = l
          · simpa [hc] using vr
          · simpa [hc, addr_add] using vr
    | sliceOut b o a i s hb =>
      by_cases hs : s = n
      · subst hs
        obtain ⟨r, vr⟩ := cSliceSl_out (P := P) (w := w) (a := a) hb (.inr rfl) rl rh rm h
        exact ⟨_, go _ _ _ 0 0 0 rfl (r true), vr⟩
      · cases mx with
        | none =>
          unfold cSliceSl at h
          simp only [Option.bind_eq_some_iff] at h
          obtain ⟨hh, eh, l, el, h⟩ := h
          split at h
          · omega
          · split at h
            · omega
            · cases h
        | some xm =>
          have h3 : cSliceSl n ⟨b, o, none⟩ 0 1 lo hi (some xm) = some v := by
            unfold cSliceSl at h ⊢
            have e1 : capTop (2 * s) 0 = 0 := by unfold capTop; rw [if_neg (by omega)]
            have e2 : capTop 1 0 = 0 := by unfold capTop; rw [if_pos (by omega)]
            rw [e1] at h; rw [e2]; exact h
          obtain ⟨r, vr⟩ := cSliceSl_out (P := P) (w := w) (a := a) hb (.inl rfl) rl rh rm h3
          exact ⟨_, go _ _ _ 0 0 0 rfl (r true), vr⟩
    | sliceOut1 b o a i hb =>
      obtain ⟨r, vr⟩ := cSliceSl_out (P := P) (w := w) (a := a) hb (.inl rfl) rl rh rm h
      exact ⟨_, go _ _ _ 0 0 0 rfl (r true), vr⟩
  · simp only [Option.bind_eq_some_iff] at h
    obtain ⟨hh, eh, l, el, m, em, h⟩ := h
    split at h
    · rename_i hb
      cases h
      obtain ⟨b0, rfl, rfl, rfl⟩ := hb
      cases hx with
      | nilSlice c =>
        have hr := run_bounds (P := P) (w := w) (isS := true) (len := 0) (cap := 0) rl rh rm el eh em b0 (by omega) (by omega) (by omega) (by omega)
        exact ⟨_, go _ _ _ 0 0 0 rfl hr, .nilSlice _⟩
    · cases h
  · cases h
theorem sliceArr_run {t e : TypeId} {n k : Nat} {x x' v : Value} {lo hi mx lo' hi' mx' : Option Value} (hu : P.underlying t = some (.array k e)) (hn : szOf P e = some n) (hx : VR ρ x x')
    (rl : OVR ρ lo lo') (rh : OVR ρ hi hi') (rm : OVR ρ mx mx') (h : sliceArr n k x lo hi mx = some v) : ∃ v', (Instr.sliceAt t x' lo' hi' mx').run P w = .ok v' w ∧ VR ρ v v' := by
  simp only [sliceArr, Option.bind_eq_some_iff] at h
  obtain ⟨a, ea, h⟩ := h
  obtain ⟨i, hb, hs, rfl⟩ := hx.asP ea
  obtain ⟨ab, ao, as⟩ := a
  simp only at hs; subst hs
  rw [if_pos rfl] at h
  obtain ⟨l, hh, m, r, vr⟩ := cSliceSl_exact (P := P) (w := w) hb (Nat.le_refl k) rl rh rm h
  refine ⟨_, by simp [Instr.sliceAt, Instr.sureAddr, run_und hu, run_siz hn, r false, addr_add], vr⟩
theorem sliceStr_run {t : TypeId} {x x' v : Value} {lo hi mx lo' hi' mx' : Option Value} (hu : P.underlying t = some .string) (hx : VR ρ x x')
    (rl : OVR ρ lo lo') (rh : OVR ρ hi hi') (rm : OVR ρ mx mx') (h : sliceStr x lo hi mx = some v) : ∃ v', (Instr.sliceAt t x' lo' hi' mx').run P w = .ok v' w ∧ VR ρ v v' := by
  unfold sliceStr at h
  split at h
  · rename_i s
    rw [hx.string_inv]
    cases mx with
    | some _ => simp at h
    | none =>
      cases mx' with
      | some _ => exact rm.elim
      | none =>
        simp only [Option.isSome_none, Bool.false_eq_true, if_false, cSliceStr, Option.bind_eq_some_iff] at h
        obtain ⟨hh, eh, l, el, h⟩ := h
        split at h
        · rename_i hb
          cases h
          obtain ⟨b1, b2, b3⟩ := hb
          have hr := run_bounds (P := P) (w := w) (isS := false) (len := s.size) (cap := s.size) (m := s.size) rl rh (show OVR ρ none none from trivial) el eh rfl (by simp) b1 b2 b3 (Int.le_refl _)
          exact ⟨_, by simp [Instr.sliceAt, Instr.slice, run_und hu, hr], .string _⟩
        · cases h
  · cases h
theorem cSlice_run {t : TypeId} {x x' v : Value} {lo hi mx lo' hi' mx' : Option Value} (hx : VR ρ x x') (rl : OVR ρ lo lo') (rh : OVR ρ hi hi') (rm : OVR ρ mx mx') (h : cSlice P t x lo hi mx = some v) :
    ∃ v', (Instr.sliceAt t x' lo' hi' mx').run P w = .ok v' w ∧ VR ρ v v' := by
  unfold cSlice at h
  split at h
  · rename_i hu; exact sliceStr_run hu hx rl rh rm h
  · rename_i e hu
    simp only [Option.bind_eq_some_iff] at h
    obtain ⟨n, hn, h⟩ := h
    exact sliceSl_run hu hn hx rl rh rm h
  · rename_i k e hu
    simp only [Option.bind_eq_some_iff] at h
    obtain ⟨n, hn, h⟩ := h
    exact sliceArr_run hu hn hx rl rh rm h
  · cases h
end
end Go.Cn
