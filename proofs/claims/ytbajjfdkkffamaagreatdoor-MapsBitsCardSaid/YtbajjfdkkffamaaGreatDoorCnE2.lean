/- Binary operators and their kin. -/
import Derived.Test.YtbajjfdkkffamaaGreatDoorCnE
namespace Go.Cn
set_option linter.unusedVariables false
set_option linter.unusedSimpArgs false
section
variable {P : Program} {ρ : Map} {w : World}
theorem cInt_run {op : BinOp} {k : IntKind} {a b : Int} {v : Value} (t : TypeId) (hs : op ≠ .shl) (hr : op ≠ .shr) (h : cInt op k a b = some v) : (binOp op t (.int k a) (.int k b)).run P w = .ok v w ∧ VR ρ v v := by
  cases op <;> simp only [cInt] at h
  case shl => exact absurd rfl hs
  case shr => exact absurd rfl hr
  case quo =>
    split at h
    · cases h
    · cases h; rename_i hb; exact ⟨by simp [binOp, Op.intDiv, hb], .int _ _⟩
  case rem =>
    split at h
    · cases h
    · cases h; rename_i hb; exact ⟨by simp [binOp, Op.intDiv, hb], .int _ _⟩
  case and => cases h; exact ⟨by simp only [binOp, ne_eq, not_true_eq_false, if_false]; rfl, .int _ _⟩
  case or => cases h; exact ⟨by simp only [binOp, ne_eq, not_true_eq_false, if_false]; rfl, .int _ _⟩
  case xor => cases h; exact ⟨by simp only [binOp, ne_eq, not_true_eq_false, if_false]; rfl, .int _ _⟩
  case andNot => cases h; exact ⟨by simp only [binOp, ne_eq, not_true_eq_false, if_false]; rfl, .int _ _⟩
  case add => cases h; exact ⟨by simp [binOp, Op.intArith], .int _ _⟩
  case sub => cases h; exact ⟨by simp [binOp, Op.intArith], .int _ _⟩
  case mul => cases h; exact ⟨by simp [binOp, Op.intArith], .int _ _⟩
  all_goals
    cases h
    exact ⟨by simp [binOp, Op.intCmp], .bool _⟩
theorem cShift_run {op : BinOp} {k k' : IntKind} {a b : Int} {v : Value} (t : TypeId) (hs : op = .shl ∨ op = .shr) (h : cShift op k a b = some v) : (binOp op t (.int k a) (.int k' b)).run P w = .ok v w ∧ VR ρ v v := by
  rcases hs with rfl | rfl
  · simp only [cShift] at h
    split at h
    · cases h
    · cases h; rename_i hb; exact ⟨by simp [binOp, Op.shift, hb], .int _ _⟩
  · simp only [cShift] at h
    split at h
    · cases h
    · cases h; rename_i hb; exact ⟨by simp [binOp, Op.shift, hb], .int _ _⟩
theorem cStr_run {op : BinOp} {a b : ByteArray} {v : Value} (t : TypeId) (h : cStr op a b = some v) : (binOp op t (.string a) (.string b)).run P w = .ok v w ∧ VR ρ v v := by
  cases op <;> simp only [cStr] at h
  case add =>
    split at h
    · cases h
    · cases h; rename_i hb; exact ⟨by simp only [binOp, Op.stringOp, if_neg hb]; rfl, .string _⟩
  all_goals first
    | cases h; done
    | (cases h; exact ⟨by simp [binOp, Op.stringOp], .bool _⟩)
theorem eqGuard_other {op : BinOp} {t : TypeId} (xo yo : Operand) {x y : Value} (hx : x ≠ .nilIface) (ha : ∀ c, x ≠ .agg c) : (eqGuard op t xo yo x y).run P w = .ok () w := by
  cases op <;> cases x <;> cases y <;> first | (exact absurd rfl hx) | (exact absurd rfl (ha _)) | simp [eqGuard]
theorem cEq_agg {d : Nat} {t : TypeId} {c : Array Value} {y : Value} {b : Bool} (h : cEq P d t (.agg c) y = some b) : ∃ e, y = .agg e := by
  cases d with
  | zero => simp [cEq] at h
  | succ d =>
    simp only [cEq] at h
    split at h <;> first | exact ⟨_, rfl⟩ | simp_all
theorem cEq_tuple {d : Nat} {t : TypeId} {c : Array Value} {y : Value} {b : Bool} (h : cEq P d t (.tuple c) y = some b) : False := by
  cases d with
  | zero => simp [cEq] at h
  | succ d =>
    simp only [cEq] at h
    split at h <;> simp_all
theorem cEq_tuple' {d : Nat} {t : TypeId} {c : Array Value} {x : Value} {b : Bool} (h : cEq P d t x (.tuple c) = some b) : False := by
  cases d with
  | zero => simp [cEq] at h
  | succ d =>
    simp only [cEq] at h
    split at h <;> simp_all
theorem cEq_float {d : Nat} {t : TypeId} {k : FloatKind} {n : Nat} {y : Value} {b : Bool} (h : cEq P d t (.float k n) y = some b) : False := by
  cases d with
  | zero => simp [cEq] at h
  | succ d =>
    simp only [cEq] at h
    split at h <;> simp_all
theorem cEqTop_some {t : TypeId} {x y : Value} {b : Bool} (h : cEqTop P t x y = some b) : cEq P eqDepth t x y = some b := by
  unfold cEqTop at h
  cases hg : eqMay P t x with
  | true => rw [hg] at h; exact h
  | false => rw [hg] at h; cases h
theorem cEqTop_run {op : BinOp} {t : TypeId} (xo yo : Operand) {x y x' y' : Value} {b : Bool} (h : cEqTop P t x y = some b) (hx : VR ρ x x') (hy : VR ρ y y') :
    (eqGuard op t xo yo x' y').run P w = .ok () w ∧ (Op.equal t x' y').run P w = .ok b w := by
  unfold cEqTop at h
  cases hg : eqMay P t x with
  | true =>
    rw [hg] at h
    simp only [cond_true] at h
    refine ⟨?_, cEq_run _ t x y x' y' b h hx hy⟩
    cases x with
    | agg c =>
      obtain ⟨c', rfl, _⟩ := hx.agg_inv
      have hm : P.eqGuardType P.depth t = false := by simpa [eqMay] using hg
      obtain ⟨d, rfl⟩ := cEq_agg h
      obtain ⟨d', rfl, _⟩ := hy.agg_inv
      exact run_eqGuard_agg w op t xo yo c' d' hm
    | nilIface => simp [eqMay] at hg
    | tuple c => exact (cEq_tuple h).elim
    | _ => exact eqGuard_other xo yo (by cases hx <;> simp) (by cases hx <;> simp)
  | false => rw [hg] at h; cases h
theorem cBin_run {op : BinOp} {t : TypeId} (xo yo : Operand) {x y x' y' v : Value} (h : cBin P op t x y = some v) (hx : VR ρ x x') (hy : VR ρ y y') :
    ∃ v', (do eqGuard op t xo yo x' y'; binOp op t x' y' : Sem Value).run P w = .ok v' w ∧ VR ρ v v' := by
  unfold cBin at h
  split at h
  · rename_i k a k' b
    rw [hx.int_inv, hy.int_inv]
    have hgd : (eqGuard op t xo yo (.int k a) (.int k' b)).run P w = .ok () w := eqGuard_other xo yo (by simp) (by simp)
    simp only [Sem.run_bind, hgd, Result.andThen_ok]
    split at h
    · exact ⟨v, cShift_run t (.inl rfl) h⟩
    · exact ⟨v, cShift_run t (.inr rfl) h⟩
    · rename_i h1 h2
      split at h
      · rename_i hk; subst hk; exact ⟨v, cInt_run t h1 h2 h⟩
      · cases h
  · rename_i a b
    rw [hx.string_inv, hy.string_inv]
    have hgd : (eqGuard op t xo yo (.string a) (.string b)).run P w = .ok () w := eqGuard_other xo yo (by simp) (by simp)
    simp only [Sem.run_bind, hgd, Result.andThen_ok]
    exact ⟨v, cStr_run t h⟩
  · rename_i h1 h2
    have tup : (∀ c, x ≠ .tuple c) ∧ (∀ c, y ≠ .tuple c) := by
      constructor
      · intro c e; subst e
        split at h
        · simp only [Option.map_eq_some_iff] at h; obtain ⟨b, hb, _⟩ := h; exact cEq_tuple (cEqTop_some hb)
        · simp only [Option.map_eq_some_iff] at h; obtain ⟨b, hb, _⟩ := h; exact cEq_tuple (cEqTop_some hb)
        · cases h
      · intro c e; subst e
        split at h
        · simp only [Option.map_eq_some_iff] at h; obtain ⟨b, hb, _⟩ := h; exact cEq_tuple' (cEqTop_some hb)
        · simp only [Option.map_eq_some_iff] at h; obtain ⟨b, hb, _⟩ := h; exact cEq_tuple' (cEqTop_some hb)
        · cases h
    have nn : ∀ k a k' b, x' = .int k a → y' = .int k' b → False := fun k a k' b e1 e2 => by
      subst e1; subst e2
      cases hx <;> cases hy <;> first | exact h1 _ _ _ _ rfl rfl | exact tup.1 _ rfl | exact tup.2 _ rfl
    have ns : ∀ a b, x' = .string a → y' = .string b → False := fun a b e1 e2 => by
      subst e1; subst e2
      cases hx <;> cases hy <;> first | exact h2 _ _ rfl rfl | exact tup.1 _ rfl | exact tup.2 _ rfl
    split at h
    · simp only [Option.map_eq_some_iff] at h
      obtain ⟨b, hb, rfl⟩ := h
      obtain ⟨r1, r2⟩ := cEqTop_run (op := .eql) (w := w) xo yo hb hx hy
      refine ⟨.bool b, ?_, .bool _⟩
      simp only [Sem.run_bind, r1, Result.andThen_ok]
      have : binOp .eql t x' y' = (do pure (.bool (← Op.equal t x' y')) : Sem Value) := by
        cases hx <;> cases hy <;> first | rfl | (exact absurd rfl (fun e => nn _ _ _ _ e rfl)) | (exact absurd rfl (fun e => ns _ _ e rfl)) | exact absurd rfl (tup.1 _) | exact absurd rfl (tup.2 _) | exact (cEq_float (cEqTop_some hb)).elim
      simp only [this, Sem.run_bind, r2, Result.andThen_ok, Sem.run_pure]
    · simp only [Option.map_eq_some_iff] at h
      obtain ⟨b, hb, rfl⟩ := h
      obtain ⟨r1, r2⟩ := cEqTop_run (op := .neq) (w := w) xo yo hb hx hy
      refine ⟨.bool !b, ?_, .bool _⟩
      simp only [Sem.run_bind, r1, Result.andThen_ok]
      have : binOp .neq t x' y' = (do pure (.bool (!(← Op.equal t x' y'))) : Sem Value) := by
        cases hx <;> cases hy <;> first | rfl | (exact absurd rfl (fun e => nn _ _ _ _ e rfl)) | (exact absurd rfl (fun e => ns _ _ e rfl)) | exact absurd rfl (tup.1 _) | exact absurd rfl (tup.2 _) | exact (cEq_float (cEqTop_some hb)).elim
      simp only [this, Sem.run_bind, r2, Result.andThen_ok, Sem.run_pure]
    · cases h
theorem cUn_run {op : UnOp} {x x' v : Value} (h : cUn op x = some v) (hx : VR ρ x x') : ∃ v', (Op.unary op x').run P w = .ok v' w ∧ VR ρ v v' := by
  unfold cUn at h
  split at h
  · cases h; rw [hx.bool_inv]; exact ⟨_, rfl, .bool _⟩
  · cases h; rw [hx.int_inv]; exact ⟨_, rfl, .int _ _⟩
  · cases h; rw [hx.int_inv]; exact ⟨_, rfl, .int _ _⟩
  · cases h
end
end Go.Cn
