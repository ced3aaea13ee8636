/- The looks into memory, all. -/
import Derived.Test.YtbajjfdkkffamaaGreatDoorCnF
namespace Go.Cn
set_option linter.unusedVariables false
set_option linter.unusedSimpArgs false
section
variable {P : Program} {w0 : Base} {w : World} {ρ : Map} {H : CH}
theorem bytesOf_run : ∀ (l : List Value) (l' : List Value) (b : List UInt8) (s : ByteArray), VRs ρ l l' → bytesOf l = some b →
    (forIn l' s (fun c r => match c with
      | .int .u8 n => pure (.yield (r.push (UInt8.ofNat n.toNat)))
      | _ => do
        stuck "bytesToString: byte expected"
        pure (.yield r) : Value → ByteArray → Sem (ForInStep ByteArray))).run P w = .ok ⟨⟨s.data.toList ++ b⟩⟩ w
  | [], l', b, s, hl, h => by
    cases h
    have : l' = [] := by have := hl.1; cases l' with | nil => rfl | cons a b => simp at this
    subst this
    simp
  | v :: l, l', b, s, hl, h => by
    cases l' with
    | nil => have := hl.1; simp at this
    | cons v' l' =>
      have h0 := hl.2 0 (by simp)
      simp only [List.getD_cons_zero] at h0
      unfold bytesOf at h
      split at h
      · rename_i hnil; cases hnil
      · rename_i n r hr
        cases hr
        simp only [Option.map_eq_some_iff] at h
        obtain ⟨b2, hb2, rfl⟩ := h
        have hrest : VRs ρ l l' := ⟨by have := hl.1; simpa using this, fun k hk => by simpa using hl.2 (k + 1) (by simp; omega)⟩
        rw [h0.int_inv]
        rw [List.forIn_cons]
        simp only [Sem.run_bind, Sem.run_pure, Result.andThen_ok]
        rw [bytesOf_run l l' b2 _ hrest hb2]
        simp [ByteArray.push]
      · cases h
theorem cToStr_run (h : Rel w0 ρ H w) {s d : TypeId} {x x' v : Value} (hx : VR ρ x x') (hl : cToStr P s d x H = some v) : ∃ v', (convert s d x').run P w = .ok v' w ∧ VR ρ v v' := by
  unfold cToStr at hl
  split at hl
  · rename_i e h1 h2
    split at hl
    · rename_i h3
      unfold toStr at hl
      split at hl
      · rename_i a n c
        simp only [Option.bind_eq_some_iff, Option.map_eq_some_iff] at hl
        obtain ⟨l, hl, b, hb, rfl⟩ := hl
        have key : ∀ (x'' : Addr) (k : Nat), x' = .slice (some x'') n k → (∃ vs', (loadCells x'' n).run P w = .ok vs' w ∧ VRs ρ l vs'.toList) → ∃ v', (convert s d x').run P w = .ok v' w ∧ VR ρ (.string ⟨⟨b⟩⟩) v' := fun x'' k ex ⟨vs', r, vr⟩ => by
          subst ex
          refine ⟨.string ⟨⟨b⟩⟩, ?_, .string _⟩
          have hb := bytesOf_run (P := P) (w := w) l vs'.toList b ByteArray.empty vr hb
          simp only [convert, Sem.run_bind, run_und h1, run_und h2, Result.andThen_ok, run_und h3, Conv.bytesToString, r]
          rw [← Array.forIn_toList]
          refine (congrArg (fun r : Result ByteArray => r.andThen fun a w' => Sem.run P (pure (Value.string a)) w') hb).trans ?_
          rfl
        cases hx with
        | sliceOf bb o i _ k hb' hk => exact key _ k rfl (by simpa using h.loadN (P := P) (a := ⟨bb, o, none⟩) hb' rfl hl)
        | sliceIn bb o i _ s' k hb' hk hN => exact key _ k rfl (by simpa using h.loadN (P := P) (a := ⟨bb, o, none⟩) hb' rfl hl)
        | sliceOut bb o a i s' hb' =>
          have : l = [] := by
            unfold CH.loadN at hl; split at hl
            · split at hl
              · cases hl; simp
              · cases hl
            · cases hl
          subst this
          exact key _ 0 rfl ⟨#[], by simp [loadCells, loadCellsFrom], VRs.nil ρ⟩
        | sliceOut1 bb o a i hb' =>
          have : l = [] := by
            unfold CH.loadN at hl; split at hl
            · split at hl
              · cases hl; simp
              · cases hl
            · cases hl
          subst this
          exact key _ 0 rfl ⟨#[], by simp [loadCells, loadCellsFrom], VRs.nil ρ⟩
      · cases hl
        cases hx
        refine ⟨.string .empty, ?_, .string _⟩
        simp only [convert, Sem.run_bind, run_und h1, run_und h2, Result.andThen_ok, run_und h3, Conv.bytesToString, Sem.run_pure]
      · cases hl
    · cases hl
  · cases hl
theorem read_run (h : Rel w0 ρ H w) {ts : List Value} {a : Act} (hv : VRs ρ ts a.tmps.toList) (o : Oper) {f : CH → Option Value} {v : Value} (hf : readOf P ts o.op = some f) (hr : f H = some v) :
    ∃ v', (execOp a.eval o).run P w = .ok (.value v') w ∧ VR ρ v v' := by
  have hG := h.glob
  obtain ⟨dst, op, type, pos, after, guard⟩ := o
  have lift : ∀ (s : Sem Value), (∃ v', s.run P w = .ok v' w ∧ VR ρ v v') → ∃ v', (do pure (.value (← s)) : Sem Next).run P w = .ok (.value v') w ∧ VR ρ v v' := fun s ⟨v', r, vr⟩ => ⟨v', by simp [r], vr⟩
  cases op
  case load t x => simp only [readOf, Option.some.injEq] at hf; subst hf; exact lift _ (loadV_run h (ev_rel hG hv x) hr)
  case lookup t x k ok => simp only [readOf, Option.some.injEq] at hf; subst hf; exact lift _ (cLookup_run h (ev_rel hG hv x) (ev_rel hG hv k) hr)
  case convert s d x =>
    simp only [readOf] at hf
    split at hf
    · simp only [Option.some.injEq] at hf; subst hf; exact lift _ (cToStr_run h (ev_rel hG hv x) hr)
    · cases hf
  case call c =>
    obtain ⟨callee, args, argTypes⟩ := c
    have hcall : ∀ b, callee = .builtin b → (execOp a.eval { dst, op := .call { callee, args, argTypes }, type, pos, after, guard }) =
        builtin b argTypes type (args.map fun | .const _ => true | _ => false) (args.map a.eval) := fun b e => by subst e; rfl
    simp only [readOf] at hf
    cases callee with
    | value f => cases hf
    | invoke r m => cases hf
    | builtin b =>
      rw [hcall b rfl]
      cases b with
      | len =>
        simp only at hf
        split at hf
        · rename_i ty hty
          split at hf
          · rename_i kt et hu
            simp only [Option.some.injEq] at hf; subst hf
            simp only [cLen, hu] at hr
            have hx : ∀ u, (args.map a.eval)[0]? = some u → VR ρ (ev ts (args.getD 0 (.const undef))) u := fun u hu => arg_rel hG hv args 0 hu
            have harg : ∀ (z : Value), z ≠ undef → ev ts (args.getD 0 (.const undef)) = z → ∃ u, (args.map a.eval)[0]? = some u := fun z hz e => by
              rcases Nat.lt_or_ge 0 args.size with h' | h'
              · exact ⟨a.eval args[0], by simp [h']⟩
              · exact absurd (e.symm.trans (undef_getD args 0 h')) hz
            unfold lenMap at hr
            split at hr
            · rename_i es
              cases hr
              obtain ⟨u, hu'⟩ := harg _ (by simp [undef]) es
              have := hx u hu'
              rw [es] at this
              rw [this.nilMap_inv] at hu'
              refine lift _ ⟨_, ?_, .int _ _⟩
              simp only [Builtin.len_, hty, hu', Sem.run_bind, run_und hu, Result.andThen_ok]
              rfl
            · rename_i r es
              split at hr
              · rename_i en cl hm
                cases hr
                obtain ⟨u, hu'⟩ := harg _ (by simp [undef]) es
                have := hx u hu'
                rw [es] at this
                obtain ⟨i, hi, e⟩ := this.map_inv
                rw [e] at hu'
                obtain ⟨es', hh, hE⟩ := h.mapAt hi hm
                have hsz : en.length = es'.size := by have := hE.1; simpa using this
                refine lift _ ⟨_, ?_, .int _ _⟩
                simp only [Builtin.len_, hty, hu', Sem.run_bind, run_und hu, Result.andThen_ok, getObj_run hh (by simp), hsz]
                rfl
              · cases hr
            · cases hr
          · cases hf
        · cases hf
      | _ => cases hf
  all_goals (simp only [readOf] at hf; cases hf)
end
end Go.Cn
