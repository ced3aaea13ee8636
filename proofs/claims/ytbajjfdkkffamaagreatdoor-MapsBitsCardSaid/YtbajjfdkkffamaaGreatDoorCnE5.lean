/- What an operation comes to: the pure ones, and the looks into memory. -/
import Derived.Test.YtbajjfdkkffamaaGreatDoorCnE4
namespace Go.Cn
set_option linter.unusedVariables false
set_option linter.unusedSimpArgs false
section
variable {P : Program} {ρ : Map} {w : World}
theorem parts_rel (hG : GlobOK ρ) {ts : List Value} {a : Act} (hv : VRs ρ ts a.tmps.toList) (ps : List (Nat × Operand)) :
    (ps.map fun (i, x) => (i, ev ts x)).length = (ps.map fun (i, x) => (i, a.eval x)).length ∧
    ∀ k, k < (ps.map fun (i, x) => (i, ev ts x)).length → (((ps.map fun (i, x) => (i, a.eval x)).getD k (0, undef)).1 = ((ps.map fun (i, x) => (i, ev ts x)).getD k (0, undef)).1 ∧
      VR ρ ((ps.map fun (i, x) => (i, ev ts x)).getD k (0, undef)).2 ((ps.map fun (i, x) => (i, a.eval x)).getD k (0, undef)).2) := by
  refine ⟨by simp, fun k hk => ?_⟩
  have hk' : k < ps.length := by simpa using hk
  simp only [List.getD_eq_getElem?_getD, List.getElem?_map, List.getElem?_eq_getElem hk', Option.map_some, Option.getD_some]
  exact ⟨trivial, ev_rel hG hv _⟩
theorem args_rel (hG : GlobOK ρ) {ts : List Value} {a : Act} (hv : VRs ρ ts a.tmps.toList) (xs : List Operand) : VRs ρ (xs.map (ev ts)) (xs.map a.eval) := by
  induction xs with
  | nil => exact VRs.nil ρ
  | cons x xs ih => exact VRs.cons (ev_rel hG hv x) ih
theorem arg_rel (hG : GlobOK ρ) {ts : List Value} {a : Act} (hv : VRs ρ ts a.tmps.toList) (xs : Array Operand) (i : Nat) {u : Value} (hu : (xs.map a.eval)[i]? = some u) : VR ρ (ev ts (xs.getD i (.const undef))) u := by
  have hlt : i < xs.size := by
    rcases Nat.lt_or_ge i xs.size with h' | h'
    · exact h'
    · rw [Array.getElem?_eq_none (by simpa using h')] at hu; cases hu
  have e1 : xs.getD i (.const undef) = xs[i] := by simp [Array.getD, hlt]
  have e2 : u = a.eval xs[i] := by simpa [hlt] using hu.symm
  rw [e1, e2]
  exact ev_rel hG hv _
theorem undef_getD {ts : List Value} (xs : Array Operand) (i : Nat) (h : xs.size ≤ i) : ev ts (xs.getD i (.const undef)) = undef := by
  have e1 : xs.getD i (.const undef) = .const undef := by simp [Array.getD, Nat.not_lt.2 h]
  rw [e1]
  simp [ev, clean, undef]
theorem cMinMax_run {mx : Bool} {l l' : List Value} {v : Value} (ts : Array TypeId) (t : TypeId) (hl : VRs ρ l l') (h : cMinMax mx l = some v) :
    (mx = true → (Builtin.max_ ts t l'.toArray).run P w = .ok v w) ∧ (mx = false → (Builtin.min_ ts t l'.toArray).run P w = .ok v w) ∧ VR ρ v v := by
  unfold cMinMax at h
  split at h
  · rename_i k x k' y
    have e0 := hl.2 0 (by simp)
    have e1 := hl.2 1 (by simp)
    simp only [List.getD_cons_zero, List.getD_cons_succ] at e0 e1
    have hlen := hl.1
    cases l' with
    | nil => simp at hlen
    | cons a l' =>
      cases l' with
      | nil => simp at hlen
      | cons b l' =>
        cases l' with
        | cons c l' => simp at hlen
        | nil =>
          simp only [List.getD_cons_zero, List.getD_cons_succ] at e0 e1
          rw [e0.int_inv, e1.int_inv]
          cases h
          exact ⟨fun e => by subst e; simp [Builtin.max_, Builtin.max2], fun e => by subst e; simp [Builtin.min_, Builtin.min2], .int _ _⟩
  · cases h

theorem pure_run (hG : GlobOK ρ) {ts : List Value} {a : Act} (hv : VRs ρ ts a.tmps.toList) (o : Oper) {v : Value} (h : pureOf P ts o.op = some (some v)) :
    ∃ v', (execOp a.eval o).run P w = .ok (.value v') w ∧ VR ρ v v' := by
  obtain ⟨dst, op, type, pos, after, guard⟩ := o
  have lift : ∀ (s : Sem Value), (∃ v', s.run P w = .ok v' w ∧ VR ρ v v') → ∃ v', (do pure (.value (← s)) : Sem Next).run P w = .ok (.value v') w ∧ VR ρ v v' := fun s ⟨v', r, vr⟩ => ⟨v', by simp [r], vr⟩
  cases op
  case move x => simp only [pureOf, Option.some.injEq] at h; subst h; exact ⟨_, rfl, ev_rel hG hv x⟩
  case assign x => simp only [pureOf, Option.some.injEq] at h; subst h; exact ⟨_, rfl, ev_rel hG hv x⟩
  case build t ps =>
    simp only [pureOf, Option.some.injEq] at h
    obtain ⟨hl, hp⟩ := parts_rel hG hv ps.toList
    refine lift _ ?_
    have := cBuild_run (w := w) hl hp h
    have e : (ps.map fun (i, x) => (i, a.eval x)) = (ps.toList.map fun (i, x) => (i, a.eval x)).toArray := by
      apply Array.toList_inj.1; simp
    rw [e]; exact this
  case nilCheck x =>
    simp only [pureOf, Option.some.injEq] at h
    split at h
    · rename_i ad he
      cases h
      have := ev_rel hG hv x
      rw [he] at this
      obtain ⟨i, hi, hs, e⟩ := this.ptr_inv
      refine ⟨a.eval x, ?_, by rw [← he]; exact ev_rel hG hv x⟩
      simp only [execOp, e]; rfl
    · rename_i f fa fc he
      cases h
      have := ev_rel hG hv x
      rw [he] at this
      obtain ⟨a', c', e, _, _⟩ := this.func_inv (by simp)
      refine ⟨a.eval x, ?_, by rw [← he]; exact ev_rel hG hv x⟩
      simp only [execOp, e]; rfl
    · cases h
  case binOp op t x y yt =>
    simp only [pureOf, Option.some.injEq] at h
    exact lift _ (cBin_run x y h (ev_rel hG hv x) (ev_rel hG hv y))
  case unOp op t x =>
    simp only [pureOf, Option.some.injEq] at h
    exact lift _ (cUn_run h (ev_rel hG hv x))
  case convert s d x =>
    simp only [pureOf] at h
    split at h
    · cases h
    · cases h
    · simp only [Option.some.injEq] at h
      exact lift _ (cConv_run (ev_rel hG hv x) h)
  case makeInterface t x =>
    simp only [pureOf, Option.some.injEq] at h
    split at h
    · cases h
    · rename_i d hni hu
      cases h
      refine lift _ ⟨.iface t (a.eval x), ?_, .iface t _ _ (ev_rel hG hv x)⟩
      simp only [Instr.makeInterface, Sem.run_bind, run_und hu, Result.andThen_ok]
      cases d <;> first | rfl | (exact (hni _ hu).elim)
    · cases h
  case makeFunc fn xs cs =>
    simp only [pureOf, Option.some.injEq] at h
    have hxs : VRs ρ (xs.map (ev ts)).toList (xs.map a.eval).toList := by simpa using args_rel hG hv xs.toList
    have hcs : VRs ρ (cs.map (ev ts)).toList (cs.map a.eval).toList := by simpa using args_rel hG hv cs.toList
    split at h
    · cases h; exact lift _ ⟨_, rfl, VR.func' (by simp) hxs hcs⟩
    · cases h; exact lift _ ⟨_, rfl, VR.func' (by simp) hxs hcs⟩
    · cases h
  case slice t x lo hi mx =>
    simp only [pureOf, Option.some.injEq] at h
    exact lift _ (cSlice_run (ev_rel hG hv x) (OVR.map hG hv lo) (OVR.map hG hv hi) (OVR.map hG hv mx) h)
  case fieldAddr t x f => simp only [pureOf, Option.some.injEq] at h; exact lift _ (cFieldAddr_run (ev_rel hG hv x) h)
  case field t x f => simp only [pureOf, Option.some.injEq] at h; exact lift _ (cField_run (ev_rel hG hv x) h)
  case indexAddr t x i => simp only [pureOf, Option.some.injEq] at h; exact lift _ (cIndexAddr_run (ev_rel hG hv x) (ev_rel hG hv i) h)
  case index t x i => simp only [pureOf, Option.some.injEq] at h; exact lift _ (cIndex_run (ev_rel hG hv x) (ev_rel hG hv i) h)
  case extract x i => simp only [pureOf, Option.some.injEq] at h; exact lift _ (cExtract_run (ev_rel hG hv x) h)
  case call c =>
    obtain ⟨callee, args, argTypes⟩ := c
    have hcall : ∀ b, callee = .builtin b → (execOp a.eval { dst, op := .call { callee, args, argTypes }, type, pos, after, guard }) =
        builtin b argTypes type (args.map fun | .const _ => true | _ => false) (args.map a.eval) := fun b e => by subst e; rfl
    simp only [pureOf] at h
    cases callee with
    | value f => cases h
    | invoke r m => cases h
    | builtin b =>
      rw [hcall b rfl]
      cases b with
      | len =>
        simp only at h
        split at h
        · rename_i ty hty
          have hx : ∀ u, (args.map a.eval)[0]? = some u → VR ρ (ev ts (args.getD 0 (.const undef))) u := fun u hu => arg_rel hG hv args 0 hu
          have harg : ∀ (z : Value), z ≠ undef → ev ts (args.getD 0 (.const undef)) = z → ∃ u, (args.map a.eval)[0]? = some u := fun z hz e => by
            rcases Nat.lt_or_ge 0 args.size with h' | h'
            · exact ⟨a.eval args[0], by simp [h']⟩
            · exact absurd (e.symm.trans (undef_getD args 0 h')) hz
          split at h
          · cases h
          · rename_i hu
            simp only [Option.some.injEq] at h
            unfold lenStr at h
            split at h
            · rename_i s es
              cases h
              obtain ⟨u, hu'⟩ := harg _ (by simp [undef]) es
              have := hx u hu'
              rw [es] at this
              rw [this.string_inv] at hu'
              refine lift _ ⟨_, ?_, .int _ _⟩
              simp only [Builtin.len_, hty, hu', Sem.run_bind, run_und hu, Result.andThen_ok]
              rfl
            · cases h
          · rename_i e hu
            simp only [Option.some.injEq] at h
            unfold lenSl at h
            split at h
            · rename_i ad n c es
              cases h
              obtain ⟨u, hu'⟩ := harg _ (by simp [undef]) es
              have := hx u hu'
              rw [es] at this
              obtain ⟨a', k, e', _, _⟩ := this.slice_len
              rw [e'] at hu'
              refine lift _ ⟨_, ?_, .int _ _⟩
              simp only [Builtin.len_, hty, hu', Sem.run_bind, run_und hu, Result.andThen_ok]
              rfl
            · cases h
          · rename_i n e hu
            simp only [Option.some.injEq] at h
            split at h
            · rename_i hs
              cases h
              have hu' : (args.map a.eval)[0]? = some (a.eval args[0]) := by simp [hs]
              refine lift _ ⟨_, ?_, .int _ _⟩
              simp only [Builtin.len_, hty, hu', Sem.run_bind, run_und hu, Result.andThen_ok]
              rfl
            · cases h
          · cases h
        · cases h
      | min =>
        simp only [Option.some.injEq] at h
        have := (cMinMax_run (P := P) (w := w) argTypes type (args_rel hG hv args.toList) h)
        have e : (args.toList.map a.eval).toArray = args.map a.eval := by apply Array.toList_inj.1; simp
        rw [e] at this
        exact lift _ ⟨v, this.2.1 rfl, this.2.2⟩
      | max =>
        simp only [Option.some.injEq] at h
        have := (cMinMax_run (P := P) (w := w) argTypes type (args_rel hG hv args.toList) h)
        have e : (args.toList.map a.eval).toArray = args.map a.eval := by apply Array.toList_inj.1; simp
        rw [e] at this
        exact lift _ ⟨v, this.1 rfl, this.2.2⟩
      | _ => cases h
  all_goals (simp only [pureOf] at h; cases h)
end
end Go.Cn
