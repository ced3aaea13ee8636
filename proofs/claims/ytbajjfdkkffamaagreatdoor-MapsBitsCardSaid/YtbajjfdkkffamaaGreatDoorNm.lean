/- Summaries of two functions of the library. -/
import Derived.Test.YtbajjfdkkffamaaGreatDoorCnR
import Derived.Test.YtbajjfdkkffamaaGreatDoorSh
namespace Go.Cn
set_option linter.unusedVariables false
set_option linter.unusedSimpArgs false
/-- What the summaries ask of a world: two of the library's variables. -/
structure Facts (w : World) : Prop where
  ml : ∃ m, w.cell? ⟨1, 0, none⟩ = some (.int .i64 m)
  sp : ∀ c : Nat, c < 256 → w.cell? ⟨0, c, none⟩ = some (.int .u8 (if Lib.isSp (UInt8.ofNat c) then 1 else 0))
theorem cell_lt {w : World} {a : Addr} {v : Value} (h : w.cell? a = some v) : a.block < w.heap.size := by
  rcases Nat.lt_or_ge a.block w.heap.size with h' | h'
  · exact h'
  · have : w.heap[a.block]? = none := Array.getElem?_eq_none h'
    unfold World.cell? at h
    rw [this] at h
    split at h <;> simp_all
theorem Facts.stays (w w' : World) (h : Facts w) (hb : Go.RowKit.Below w.heap.size w w') : Facts w' := by
  refine ⟨?_, fun c hc => ?_⟩
  · obtain ⟨m, hm⟩ := h.ml
    exact ⟨m, by rw [hb.cell (cell_lt hm)]; exact hm⟩
  · rw [hb.cell (cell_lt (h.sp c hc))]; exact h.sp c hc
def asciiB (l : List UInt8) : Bool := l.all fun b => Nat.blt b.toNat 128
def S154 (args : List Value) (H : CH) : Option (Value × CH) :=
  match args with
  | [.string s] => cond (asciiB s.data.toList && Nat.blt s.size 10000)
      (some (.slice (some ⟨H.n, 0, none⟩) (Lib.fields s.data.toList).length (2 * (Lib.fields s.data.toList).length + 1), H.new (.cells ((Lib.fields s.data.toList).map fun l => .string ⟨⟨l⟩⟩) 9))) none
  | _ => none
def S157 (args : List Value) (H : CH) : Option (Value × CH) :=
  match args with
  | [.string a, .string b] => cond (Nat.blt a.size 10000) (some (.bool (Lib.contains a.data.toList b.data.toList), H)) none
  | _ => none
def S1 : Sums := fun f args H => cond (Nat.beq f 154) (S154 args H) (cond (Nat.beq f 157) (S157 args H) none)
theorem args_one {ρ : Map} {x : Value} {a : Array Value} (h : VRs ρ [x] a.toList) : ∃ x', a = #[x'] ∧ VR ρ x x' := by
  obtain ⟨l⟩ := a
  have hl := h.1
  match l, hl with
  | [x'], _ => exact ⟨x', rfl, by simpa using h.2 0 (by simp)⟩
theorem args_two {ρ : Map} {x y : Value} {a : Array Value} (h : VRs ρ [x, y] a.toList) : ∃ x' y', a = #[x', y'] ∧ VR ρ x x' ∧ VR ρ y y' := by
  obtain ⟨l⟩ := a
  have hl := h.1
  match l, hl with
  | [x', y'], _ => exact ⟨x', y', rfl, by simpa using h.2 0 (by simp), by simpa using h.2 1 (by simp)⟩
theorem S1_ok {W : World} (hW : Facts W) (U : Nat → Prop) (f : FuncId) (args : List Value) (H : CH) (v : Value) (H' : CH) (h : S1 f args H = some (v, H')) : CallOK Go.Proofs.Tryz.prog ⟨W, U⟩ f args H v H' := by
  unfold S1 at h
  cases h1 : Nat.beq f 154 with
  | true =>
    rw [h1, cond_true] at h
    have hf : f = 154 := Nat.eq_of_beq_eq_true h1
    subst hf
    unfold S154 at h
    split at h
    · rename_i s
      cases hc : (asciiB s.data.toList && Nat.blt s.size 10000) with
      | false => rw [hc] at h; cases h
      | true =>
        rw [hc, cond_true] at h
        simp only [Option.some.injEq, Prod.mk.injEq] at h
        obtain ⟨rfl, rfl⟩ := h
        simp only [Bool.and_eq_true, asciiB, List.all_eq_true] at hc
        intro ρ w args' hr ha
        obtain ⟨x', rfl, hx⟩ := args_one ha
        have hx := hx.string_inv
        subst hx
        have hw := Facts.stays W w hW hr.below
        have hsz : s.size < 10000 := by have := hc.2; simpa [Nat.blt_eq] using this
        rw [callsIn_wide]
        refine (Go.Proofs.Tryz.strings_Fields s w (by omega) (fun j b hb => ?_) hw.sp).mono fun e w' ⟨he, hw'⟩ => ?_
        · have := hc.1 b (List.mem_of_getElem? hb)
          simpa [Nat.blt_eq] using this
        · subst hw'
          have hl : ((Lib.fields s.data.toList).map fun l => Value.string ⟨l.toArray⟩).length = (Lib.fields s.data.toList).length := by simp
          obtain ⟨ρ', le, hr', e'⟩ := hr.newCells (e := 9) (e' := 9) (fz := (0, 0)) (c := (Lib.fields s.data.toList).map fun l => Value.string ⟨⟨l⟩⟩) (c' := ((Lib.fields s.data.toList).map fun l => Value.string ⟨l.toArray⟩).toArray) (by simp)
            (by
              have : (((Lib.fields s.data.toList).map fun l => Value.string ⟨l.toArray⟩).toArray.toList.take ((Lib.fields s.data.toList).map fun l => Value.string ⟨⟨l⟩⟩).length) = (Lib.fields s.data.toList).map fun l => Value.string ⟨⟨l⟩⟩ := by
                rw [List.toList_toArray, List.take_of_length_le (by simp)]
              rw [this]
              exact VRs.clean (by simp [List.all_eq_true, clean]))
            (fun k _ => by omega)
          refine ⟨ρ', _, he, le, hr', ?_⟩
          exact .sliceOf H.n 0 _ _ _ e' (Nat.le_refl _)
    · cases h
  | false =>
    rw [h1, cond_false] at h
    cases h2 : Nat.beq f 157 with
    | false => rw [h2] at h; cases h
    | true =>
      rw [h2, cond_true] at h
      have hf : f = 157 := Nat.eq_of_beq_eq_true h2
      subst hf
      unfold S157 at h
      split at h
      · rename_i a b
        cases hc : Nat.blt a.size 10000 with
        | false => rw [hc] at h; cases h
        | true =>
          rw [hc, cond_true] at h
          simp only [Option.some.injEq, Prod.mk.injEq] at h
          obtain ⟨rfl, rfl⟩ := h
          intro ρ w args' hr ha
          obtain ⟨x', y', rfl, hx, hy⟩ := args_two ha
          have hx := hx.string_inv
          have hy := hy.string_inv
          subst hx hy
          have hw := Facts.stays W w hW hr.below
          obtain ⟨m, hm⟩ := hw.ml
          have hsz : a.size < 10000 := by simpa [Nat.blt_eq] using hc
          rw [callsIn_wide]
          refine (Go.Proofs.Tryz.strings_Contains a b m w (by omega) hm).mono fun e w' ⟨he, hw'⟩ => ?_
          subst hw'
          exact ⟨ρ, _, he, ρ.le_refl, hr, .bool _⟩
      · cases h
end Go.Cn
