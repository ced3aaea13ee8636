/- An operation hangs on its operands alone. -/
import Derived.Test.YtbajjfdkkffamaaGreatDoorCnH
namespace Go.Cn
set_option linter.unusedVariables false
set_option linter.unusedSimpArgs false
section
variable {P : Program} {O : Orc}
theorem opt_congr {t t' : List Value} (x : Option Operand) (h : ∀ y ∈ x.toArray, ev t y = ev t' y) : x.map (ev t) = x.map (ev t') := by
  cases x with
  | none => rfl
  | some x => simp only [Option.map_some]; rw [h x (by simp)]
theorem parts_congr {t t' : List Value} (ps : Array (Nat × Operand)) (h : ∀ y ∈ (ps.toList.map (·.2)).toArray, ev t y = ev t' y) : (ps.toList.map fun (i, x) => (i, ev t x)) = (ps.toList.map fun (i, x) => (i, ev t' x)) := by
  apply List.map_congr_left
  intro ⟨i, x⟩ hm
  simp only
  rw [h x (by simp; exact ⟨i, by simpa using hm⟩)]
theorem arr_congr {t t' : List Value} (xs : Array Operand) (h : ∀ y ∈ xs, ev t y = ev t' y) : xs.map (ev t) = xs.map (ev t') := Array.map_congr_left h
theorem lst_congr {t t' : List Value} (xs : Array Operand) (h : ∀ y ∈ xs, ev t y = ev t' y) : xs.toList.map (ev t) = xs.toList.map (ev t') := List.map_congr_left fun y hy => h y (by simpa using hy)
theorem getD_congr {t t' : List Value} (xs : Array Operand) (h : ∀ y ∈ xs, ev t y = ev t' y) (i : Nat) : ev t (xs.getD i (.const undef)) = ev t' (xs.getD i (.const undef)) := by
  by_cases hi : i < xs.size
  · have : xs.getD i (.const undef) = xs[i] := by simp [Array.getD, hi]
    rw [this]; exact h _ (by simp)
  · rw [undef_getD xs i (by omega), undef_getD xs i (by omega)]
theorem pureOf_congr {t t' : List Value} (op : Op) (h : ∀ x ∈ op.operands, ev t x = ev t' x) : pureOf P t op = pureOf P t' op := by
  cases op <;> simp only [Op.operands] at h <;> simp only [pureOf]
  case build ty ps => rw [parts_congr ps h]
  case makeFunc fn a c => rw [arr_congr a fun y hy => h y (by simp [hy]), arr_congr c fun y hy => h y (by simp [hy])]
  case slice ty x lo hi mx =>
    rw [h x (by simp), opt_congr lo fun y hy => h y (by simp at hy ⊢; simp [hy]), opt_congr hi fun y hy => h y (by simp at hy ⊢; simp [hy]), opt_congr mx fun y hy => h y (by simp at hy ⊢; simp [hy])]
  case call c =>
    obtain ⟨callee, args, ts⟩ := c
    have ha : ∀ y ∈ args, ev t y = ev t' y := fun y hy => h y (by simp [Call.operands, hy])
    cases callee with
    | builtin b => cases b <;> simp only [getD_congr args ha, lst_congr args ha]
    | _ => rfl
  all_goals (first | rfl | (simp_all; done))
theorem readOf_congr {t t' : List Value} (op : Op) (h : ∀ x ∈ op.operands, ev t x = ev t' x) : readOf P t op = readOf P t' op := by
  cases op <;> simp only [Op.operands] at h <;> simp only [readOf]
  case call c =>
    obtain ⟨callee, args, ts⟩ := c
    have ha : ∀ y ∈ args, ev t y = ev t' y := fun y hy => h y (by simp [Call.operands, hy])
    cases callee with
    | builtin b => cases b <;> simp only [getD_congr args ha]
    | _ => rfl
  all_goals (first | rfl | (simp_all; done))
theorem effOf_congr {t t' : List Value} (op : Op) (H : CH) (h : ∀ x ∈ op.operands, ev t x = ev t' x) : effOf P O t op H = effOf P O t' op H := by
  cases op <;> simp only [Op.operands] at h <;> simp only [effOf]
  case buildSlice ty n ps => rw [parts_congr ps h]
  case call c =>
    obtain ⟨callee, args, ts⟩ := c
    have ha : ∀ y ∈ args, ev t y = ev t' y := fun y hy => h y (by simp [Call.operands, hy])
    cases callee with
    | builtin b => cases b <;> simp only [getD_congr args ha]
    | value f =>
      show callV P O (ev t f) (args.toList.map (ev t)) H = callV P O (ev t' f) (args.toList.map (ev t')) H
      rw [lst_congr args ha, h f (by simp [Call.operands])]
    | _ => rfl
  case makeMap t r => cases r <;> rfl
  all_goals (first | rfl | (simp_all; done))
theorem pureOf_some {t t' : List Value} (op : Op) : (pureOf P t op).isSome = (pureOf P t' op).isSome := by
  cases op <;> simp only [pureOf] <;> try rfl
  case convert s d x => split <;> rfl
  case call c =>
    obtain ⟨callee, args, ts⟩ := c
    cases callee with
    | builtin b =>
      cases b <;> try rfl
      simp only
      split
      · split <;> rfl
      · rfl
    | _ => rfl
theorem readOf_some {t t' : List Value} (op : Op) : (readOf P t op).isSome = (readOf P t' op).isSome := by
  cases op <;> simp only [readOf] <;> try rfl
  case convert s d x => split <;> rfl
  case call c =>
    obtain ⟨callee, args, ts⟩ := c
    cases callee with
    | builtin b =>
      cases b <;> try rfl
      simp only
      split
      · split <;> rfl
      · rfl
    | _ => rfl
def Agree (op : Op) (t t' : List Value) : Prop := ∀ x ∈ op.operands, ev t x = ev t' x
abbrev kk : Value → St → CH → Option (Value × St × CH) := fun v st H => some (v, st, H)
/-- How an operation (not 'defer') hangs on memory. -/
inductive Knd (P : Program) (O : Orc) (c : Ctx) (o : Oper) (ds : List Deferred) (t : List Value) (H H' : CH) (v : Value) : Prop
  | pure (hr : isRead P o.op = false) (he : isEff P o.op = false) (hh : H' = H) (h : ∀ t' G, Agree o.op t t' → iop P O c o ⟨t', ds⟩ G kk = some (v, ⟨t', ds⟩, G))
  | read (hr : isRead P o.op = true) (he : isEff P o.op = false) (hh : H' = H) (f : CH → Option Value) (hf : readOf P t o.op = some f) (hv : f H = some v)
      (h : ∀ t' G, Agree o.op t t' → f G = some v → iop P O c o ⟨t', ds⟩ G kk = some (v, ⟨t', ds⟩, G))
  | eff (hr : isRead P o.op = false) (he : isEff P o.op = true) (h : ∀ t', Agree o.op t t' → iop P O c o ⟨t', ds⟩ H kk = some (v, ⟨t', ds⟩, H'))
theorem iop_split {c : Ctx} {o : Oper} {t : List Value} {ds : List Deferred} {H : CH} {R : Type} {K : Value → St → CH → Option R} {r : R} (hnd : ∀ c, o.op ≠ .defer c) (h : iop P O c o ⟨t, ds⟩ H K = some r) :
    ∃ v H', K v ⟨t, ds⟩ H' = some r ∧ Knd P O c o ds t H H' v := by
  unfold iop at h
  split at h
  · rename_i x p q hop
    simp only [Option.bind_eq_some_iff] at h
    obtain ⟨b, hb, h⟩ := h
    have key : ∀ t' G, Agree o.op t t' → iop P O c o ⟨t', ds⟩ G kk = some (cond b (ev t p) (ev t q), ⟨t', ds⟩, G) := fun t' G ha => by
      rw [hop] at ha
      have h1 := ha x (by simp [Op.operands])
      have h2 := ha p (by simp [Op.operands])
      have h3 := ha q (by simp [Op.operands])
      unfold iop
      simp only [hop]
      rw [← h1, hb, ← h2, ← h3]
      rfl
    exact ⟨_, H, h, .pure (by simp [hop, isRead, readOf]) (by simp [hop, isEff]) rfl key⟩
  · rename_i hop; exact absurd hop (hnd _)
  · rename_i op hp hd
    have hop : ∀ t' (G : CH) (K' : Value → St → CH → Option (Value × St × CH)), iop P O c o ⟨t', ds⟩ G K' = (match pureOf P t' o.op with
        | some x => x.bind fun v => K' v ⟨t', ds⟩ G
        | none => match readOf P t' o.op with
          | some x => (x G).bind fun v => K' v ⟨t', ds⟩ G
          | none => (effOf P O t' o.op G).bind fun r => K' r.1 ⟨t', ds⟩ r.2) := fun t' G K' => by
      unfold iop
      split
      · rename_i a1 a2 a3 e; exact absurd e (hp _ _ _)
      · rename_i e; exact absurd e (hnd _)
      · rfl
    have hpick : ∀ a b c, o.op ≠ .pick a b c := fun a b c e => hp a b c e
    have heff : isEff P o.op = ((pureOf P [] o.op).isNone && (readOf P [] o.op).isNone) := by
      unfold isEff
      split
      · rename_i a b c e; exact absurd e (hpick _ _ _)
      · rfl
    split at h
    · rename_i x hx
      simp only [Option.bind_eq_some_iff] at h
      obtain ⟨v, hv, h⟩ := h
      subst hv
      have hps : (pureOf P [] o.op).isSome = true := by rw [pureOf_some (t' := t), hx]; rfl
      refine ⟨v, H, h, .pure ?_ ?_ rfl fun t' G ha => ?_⟩
      · unfold isRead; cases e : pureOf P [] o.op with
        | none => rw [e] at hps; cases hps
        | some _ => simp
      · rw [heff]; cases e : pureOf P [] o.op with
        | none => rw [e] at hps; cases hps
        | some _ => simp
      · rw [hop, ← pureOf_congr o.op ha, hx]; rfl
    · rename_i hx
      have hps : (pureOf P [] o.op).isNone = true := by
        have : (pureOf P [] o.op).isSome = false := by rw [pureOf_some (t' := t), hx]; rfl
        cases e : pureOf P [] o.op with
        | none => rfl
        | some _ => rw [e] at this; cases this
      split at h
      · rename_i f hf
        simp only [Option.bind_eq_some_iff] at h
        obtain ⟨v, hv, h⟩ := h
        have hrs : (readOf P [] o.op).isSome = true := by rw [readOf_some (t' := t), hf]; rfl
        refine ⟨v, H, h, .read ?_ ?_ rfl f hf hv fun t' G ha hG => ?_⟩
        · unfold isRead; rw [hrs, hps]; rfl
        · rw [heff, hps]; cases e : readOf P [] o.op with
          | none => rw [e] at hrs; cases hrs
          | some _ => simp
        · rw [hop, ← pureOf_congr o.op ha, hx]
          simp only
          rw [← readOf_congr o.op ha, hf]
          simp only [hG]; rfl
      · rename_i hf
        simp only [Option.bind_eq_some_iff] at h
        obtain ⟨⟨v, H'⟩, hv, h⟩ := h
        have hrs : (readOf P [] o.op).isNone = true := by
          have : (readOf P [] o.op).isSome = false := by rw [readOf_some (t' := t), hf]; rfl
          cases e : readOf P [] o.op with
          | none => rfl
          | some _ => rw [e] at this; cases this
        refine ⟨v, H', h, .eff ?_ ?_ fun t' ha => ?_⟩
        · unfold isRead; cases e : readOf P [] o.op with
          | none => simp
          | some _ => rw [e] at hrs; cases hrs
        · rw [heff, hps, hrs]; rfl
        · rw [hop, ← pureOf_congr o.op ha, hx]
          simp only
          rw [← readOf_congr o.op ha, hf]
          simp only
          rw [← effOf_congr o.op H ha, hv]; rfl
end
end Go.Cn
