/- Code, whole. -/
import Derived.Test.YtolbpklaniifhaaLCnK
namespace Go.Cn
set_option linter.unusedVariables false
set_option linter.unusedSimpArgs false
section
variable (P : Program) (w0 : World)
def CodeOK (c : Ctx) (code : Code) (st : St) (H : CH) (e : Nat) (st' : St) (H' : CH) : Prop :=
  ∀ ρ a w F, Here w0 ρ c st H a w → Open F → RR ρ c.round F.round → ∀ (Q : Exit → Act → World → Prop), (∀ ρ' a' w', ρ.le ρ' → Here w0 ρ' c st' H' a' w' → Q (exOf e) a' w') → code.wpIn F 0 P Q a w
def LoopOK (c : Ctx) (body : Code) (vs : List Value) (ds : List Deferred) (H : CH) (e : Nat) (vs' : List Value) (ds' : List Deferred) (H' : CH) : Prop :=
  ∃ m, ∀ ρ a w F, Here w0 ρ c ⟨spread c.n c.keep vs, ds⟩ H a w → Open F → RR ρ c.round F.round → ∀ (Q : Exit → Act → World → Prop), (∀ ρ' a' w', ρ.le ρ' → Here w0 ρ' c ⟨spread c.n c.keep vs', ds'⟩ H' a' w' → Q (exOf e) a' w') → Code.roundsIn F 0 P body Q m a w
variable {P w0} {O : Orc}
theorem CodeOK.seq {c : Ctx} {x y : Code} {st st1 st2 : St} {H H1 H2 : CH} {e : Nat} (h1 : CodeOK P w0 c x st H 0 st1 H1) (h2 : CodeOK P w0 c y st1 H1 e st2 H2) : CodeOK P w0 c (.seq x y) st H e st2 H2 := by
  intro ρ a w F hh hF hr Q hq
  refine wpIn_seq (h1 ρ a w F hh hF hr _ fun ρ' a' w' le hh' => ?_)
  exact h2 ρ' a' w' F hh' hF (hr.mono le) Q fun ρ'' a'' w'' le' => hq ρ'' a'' w'' (Map.le_trans le le')
theorem exOf_then {e : Nat} (he : e ≠ 0) {K : Act → World → Prop} {Q : Exit → Act → World → Prop} {a : Act} {w : World} (h : Q (exOf e) a w) : Exit.then K Q (exOf e) a w := by
  match e with
  | 0 => exact absurd rfl he
  | 1 => exact h
  | n + 2 => exact h
theorem CodeOK.seq' {c : Ctx} {x y : Code} {st st1 : St} {H H1 : CH} {e : Nat} (he : e ≠ 0) (h1 : CodeOK P w0 c x st H e st1 H1) : CodeOK P w0 c (.seq x y) st H e st1 H1 := by
  intro ρ a w F hh hF hr Q hq
  exact wpIn_seq (h1 ρ a w F hh hF hr _ fun ρ' a' w' le hh' => exOf_then he (hq ρ' a' w' le hh'))
theorem CodeOK.cond {c : Ctx} {p : Operand} {x y : Code} {t : Bool} {st st1 : St} {H H1 : CH} {e : Nat} (hp : asB (ev st.t p) = some t) (h1 : CodeOK P w0 c (if t then x else y) st H e st1 H1) : CodeOK P w0 c (.cond p x y) st H e st1 H1 := by
  intro ρ a w F hh hF hr Q hq
  have hv := (ev_rel hh.tmps p).asB hp
  exact wpIn_cond (by exact hv) (h1 ρ a w F hh hF hr Q hq)
theorem CodeOK.spread {c : Ctx} {x : Code} {st st1 : St} {H H1 : CH} {e : Nat} (h1 : CodeOK P w0 c x st H e st1 H1) : CodeOK P w0 c x st H e ⟨spread c.n c.keep (gather c.keep st1.t), st1.ds⟩ H1 :=
  fun ρ a w F hh hF hr Q hq => h1 ρ a w F hh hF hr Q fun ρ' a' w' le hh' => hq ρ' a' w' le hh'.spread
theorem exOf_block {e id : Nat} {Q : Exit → Act → World → Prop} {a : Act} {w : World} (h : Q (exOf (cond (e == id + 2) 0 e)) a w) : Exit.inBlock id Q (exOf e) a w := by
  match e with
  | 0 => exact h
  | 1 =>
    have : (1 == id + 2) = false := by simp
    rw [this] at h; exact h
  | n + 2 =>
    simp only [exOf, Exit.inBlock]
    by_cases he : n = id
    · subst he
      rw [show (n + 2 == n + 2) = true by simp] at h
      simp only [if_true]; exact h
    · have : (n + 2 == id + 2) = false := by simpa using he
      rw [this] at h
      simp only [he, if_false]; exact h
theorem CodeOK.block {c : Ctx} {id : Nat} {x : Code} {st st1 : St} {H H1 : CH} {e : Nat} (h1 : CodeOK P w0 c x st H e st1 H1) : CodeOK P w0 c (.block id x) st H (Bool.rec e 0 (e == id + 2)) st1 H1 := by
  intro ρ a w F hh hF hr Q hq
  refine wpIn_block (h1 ρ a w F hh hF hr _ fun ρ' a' w' le hh' => exOf_block ?_)
  have := hq ρ' a' w' le hh'
  cases hb : (e == id + 2) <;> rw [hb] at this <;> exact this
theorem DsR.append {ρ : Map} {l l' m m' : List Deferred} (h : DsR ρ l l') (t : DsR ρ m m') : DsR ρ (l ++ m) (l' ++ m') := by
  induction h with
  | nil => exact t
  | mark b i a a' h _ ih => exact .mark b i a a' h ih
  | call f c c' a a' hc ha _ ih => exact .call f c c' a a' hc ha ih
theorem icode_ok (hC : ∀ f args H v H', O.call f args H = some (v, H') → CallOK P w0 f args H v H') (hR : ∀ l args H v H', O.round l args H = some (v, H') → RoundOK P w0 l args H v H') (hm : P.follows .mixedOrders = true)
    (c : Ctx) (hL : ∀ body vs ds H e vs' ds' H', O.loop c.fn c.round body vs ds H = some (e, vs', ds', H') → LoopOK P w0 c body vs ds H e vs' ds' H') :
    ∀ (code : Code) (st : St) (H : CH) {R : Type} (K : Nat → St → CH → Option R) (r : R), icode P O c code st H K = some r → ∃ e st' H', K e st' H' = some r ∧ CodeOK P w0 c code st H e st' H' := by
  intro code
  induction code with
  | skip => exact fun st H R K r h => ⟨0, st, H, h, fun ρ a w F hh hF hr Q hq => wpIn_skip (hq ρ a w ρ.le_refl hh)⟩
  | label l => exact fun st H R K r h => ⟨0, st, H, h, fun ρ a w F hh hF hr Q hq => wpIn_label (hq ρ a w ρ.le_refl hh)⟩
  | exit id => exact fun st H R K r h => ⟨id + 2, st, H, h, fun ρ a w F hh hF hr Q hq => wpIn_exit (hq ρ a w ρ.le_refl hh)⟩
  | ret => exact fun st H R K r h => ⟨1, st, H, h, fun ρ a w F hh hF hr Q hq => wpIn_ret (hq ρ a w ρ.le_refl hh)⟩
  | goto l => intro st H R K r h; simp only [icode] at h; cases h
  | refuse f => intro st H R K r h; simp only [icode] at h; cases h
  | scope a iha => intro st H R K r h; simp only [icode] at h; cases h
  | seq a b iha ihb =>
    intro st H R K r h
    simp only [icode] at h
    obtain ⟨e, st1, H1, h1, ok1⟩ := iha st H _ r h
    cases he : (e == 0) with
    | true =>
      rw [he, cond_true] at h1
      obtain ⟨e2, st2, H2, h2, ok2⟩ := ihb st1 H1 _ r h1
      simp only [beq_iff_eq] at he; subst he
      exact ⟨e2, st2, H2, h2, ok1.seq ok2⟩
    | false =>
      rw [he, cond_false] at h1
      exact ⟨e, st1, H1, h1, ok1.seq' (by simpa using he)⟩
  | cond x a b iha ihb =>
    intro st H R K r h
    simp only [icode, Option.bind_eq_some_iff] at h
    obtain ⟨t, ht, h⟩ := h
    cases hj : (ft a && ft b) with
    | true =>
      rw [hj, cond_true] at h
      simp only [Option.bind_eq_some_iff] at h
      obtain ⟨q, hq, h⟩ := h
      cases t with
      | true =>
        obtain ⟨e, st1, H1, h1, ok1⟩ := iha st H _ q hq
        simp only [leaf, Option.some.injEq] at h1
        subst h1
        exact ⟨_, _, _, h, CodeOK.cond ht ok1.spread⟩
      | false =>
        obtain ⟨e, st1, H1, h1, ok1⟩ := ihb st H _ q hq
        simp only [leaf, Option.some.injEq] at h1
        subst h1
        exact ⟨_, _, _, h, CodeOK.cond ht ok1.spread⟩
    | false =>
      rw [hj, cond_false] at h
      cases t with
      | true =>
        obtain ⟨e, st1, H1, h1, ok1⟩ := iha st H _ r h
        exact ⟨e, st1, H1, h1, CodeOK.cond ht ok1⟩
      | false =>
        obtain ⟨e, st1, H1, h1, ok1⟩ := ihb st H _ r h
        exact ⟨e, st1, H1, h1, CodeOK.cond ht ok1⟩
  | block id a iha =>
    intro st H R K r h
    simp only [icode] at h
    cases hj : Nat.ble 2 (waysTo id a + cond (ft a) 1 0) with
    | true =>
      rw [hj, cond_true] at h
      simp only [Option.bind_eq_some_iff] at h
      obtain ⟨q, hq, h⟩ := h
      obtain ⟨e, st1, H1, h1, ok1⟩ := iha st H _ q hq
      simp only [leaf, Option.some.injEq] at h1
      subst h1
      refine ⟨_, _, _, h, ?_⟩
      have := ok1.spread.block (id := id)
      cases hb : (e == id + 2) <;> simp only [hb] at this ⊢ <;> exact this
    | false =>
      rw [hj, cond_false] at h
      obtain ⟨e, st1, H1, h1, ok1⟩ := iha st H _ r h
      refine ⟨_, _, _, h1, ?_⟩
      have := ok1.block (id := id)
      cases hb : (e == id + 2) <;> simp only [hb] at this ⊢ <;> exact this
  | loop a iha =>
    intro st H R K r h
    simp only [icode, Option.bind_eq_some_iff] at h
    obtain ⟨⟨e, vs, ds, H'⟩, hq, h⟩ := h
    obtain ⟨m, ok⟩ := hL _ _ _ _ _ _ _ _ hq
    exact ⟨_, _, _, h, fun ρ a w F hh hF hr Q hq => wpIn_loop_rounds m (ok ρ a w F hh.spread hF hr Q hq)⟩
  | region id ops d =>
    intro st H R K r h
    simp only [icode] at h
    obtain ⟨st', H', h1, ok⟩ := iregionG_ok hC hR hm h
    exact ⟨0, st', H', h1, fun ρ a w F hh hF hr Q hq => ok ρ a w F id hh hF hr Q hq⟩
  | rangeFunc f ps assign body iha ihb =>
    intro st H R K r h
    simp only [icode] at h
    split at h
    · rename_i g fa fc hf
      cases hok : okFn P g with
      | false => rw [hok] at h; cases h
      | true =>
        rw [hok] at h
        simp only [Bool.not_true, Bool.false_eq_true, if_false, Option.bind_eq_some_iff] at h
        obtain ⟨⟨blk, mk, H1⟩, henter, ⟨v, H2⟩, hcall, ⟨e, H3⟩, hend, h⟩ := h
        refine ⟨_, _, _, h, fun ρ a w F hh hF hr Q hq => wpIn_rangeFunc fun fn _ => ?_⟩
        obtain ⟨l, mark, w1, ρ1, i, run1, le1, hi, hl, hds, rel1⟩ := enter_run (P := P) (fn := c.fn) (fn' := fn) (vs := spread c.n c.keep (gather c.keep st.t)) (tmps := a.tmps) (ps := ps) (assign := assign) (body := body) hh.rel hr hh.spread.tmps henter
        have hv := ev_rel hh.tmps f
        rw [hf] at hv
        obtain ⟨a', c', e', r1, r2⟩ := hv.func_inv (by simp)
        subst hl
        have hargs : VRs ρ1 (fa.toList ++ [Value.func (.yield H1.n) #[] #[]] ++ fc.toList) (a' ++ #[Value.func (.yield i.x) #[] #[]] ++ c').toList := by
          have h1 : VRs ρ1 [Value.func (.yield H1.n) #[] #[]] [Value.func (.yield i.x) #[] #[]] := VRs.cons (.yield _ _ hi) (VRs.nil ρ1)
          simpa using ((r1.mono le1).append h1).append (r2.mono le1)
        refine ⟨i.x, mark, w1, { target := .fn (.func g) c', args := a' ++ #[.func (.yield i.x) #[] #[]] }, w1, g, a' ++ #[.func (.yield i.x) #[] #[]] ++ c', w1, run1, ?_, fun _ _ => hF.fn _, ?_, fun hd => ?_, ?_⟩
        · have e2 : a.eval (Operand.const (.func (.yield i.x) #[] #[])) = .func (.yield i.x) #[] #[] := rfl
          simp [resolve, rangeCall, e', Deferred.ofValue, e2]
        · simp only [invoke]; exact run_callFunc hok _ _
        · rw [hF.depth] at hd; cases hd
        · refine (hF.callsIn (hC _ _ _ _ _ hcall ρ1 w1 _ rel1 hargs)).mono fun en w' he => ?_
          obtain ⟨ρ2, v', rfl, le2, rel2, vr⟩ := he
          obtain ⟨jump, w4, run4, rel4, hj⟩ := endLoop_run (P := P) rel2 (le2 _ _ hi) hend
          refine ⟨jump, w4, run4, ?_⟩
          have le : ρ.le ρ2 := Map.le_trans le1 le2
          have hend' : Here w0 ρ2 c ⟨st.t, mk ++ st.ds⟩ H3 { a with defers := mark ++ a.defers } w4 := ⟨rel4, hh.tmps.mono le, DsR.append (hds.mono le2) (hh.ds.mono le), hh.len⟩
          have fin := hq ρ2 _ w4 le hend'
          rcases hj with ⟨rfl, rfl⟩ | ⟨rfl, rfl⟩ | ⟨id, rfl, rfl⟩
          · exact fin
          · exact wpIn_ret fin
          · exact wpIn_exit fin
    · cases h
end
end Go.Cn
