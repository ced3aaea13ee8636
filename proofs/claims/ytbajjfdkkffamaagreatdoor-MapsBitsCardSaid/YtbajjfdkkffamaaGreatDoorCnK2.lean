/- Code, whole. -/
import Derived.Test.YtbajjfdkkffamaaGreatDoorCnK
namespace Go.Cn
set_option linter.unusedVariables false
set_option linter.unusedSimpArgs false
section
variable (P : Program) (w0 : Base)
def CodeOK (c : Ctx) (code : Code) (st : St) (H : CH) (e : Nat) (st' : St) (H' : CH) : Prop :=
  ∀ ρ a w F, Here w0 ρ c st H a w → Open F → RR ρ c.round F.round → ∀ (Q : Exit → Act → World → Prop), (∀ ρ' a' w', ρ.le ρ' → Here w0 ρ' c st' H' a' w' → Sm (wrC code) a a' → Q (exOf e) a' w') → code.wpIn F 0 P Q a w
def LoopOK (c : Ctx) (body : Code) (vs : List Value) (ds : List Deferred) (H : CH) (e : Nat) (vs' : List Value) (ds' : List Deferred) (H' : CH) : Prop :=
  ∃ m t', vs' = gather (kpW c.keep (wrC body)) t' ∧ ∀ ρ a w F, Here w0 ρ c ⟨spread c.n (kpL c.keep body) vs, ds⟩ H a w → Open F → RR ρ c.round F.round → ∀ (Q : Exit → Act → World → Prop),
    (∀ ρ' a' w', ρ.le ρ' → Here w0 ρ' c ⟨t', ds'⟩ H' a' w' → Sm (wrC body) a a' → Q (exOf e) a' w') → Code.roundsIn F 0 P body Q m a w
variable {P w0} {O : Orc}
theorem CodeOK.seq {c : Ctx} {x y : Code} {st st1 st2 : St} {H H1 H2 : CH} {e : Nat} (h1 : CodeOK P w0 c x st H 0 st1 H1) (h2 : CodeOK P w0 c y st1 H1 e st2 H2) : CodeOK P w0 c (.seq x y) st H e st2 H2 := by
  intro ρ a w F hh hF hr Q hq
  refine wpIn_seq (h1 ρ a w F hh hF hr _ fun ρ' a' w' le hh' sm => ?_)
  exact h2 ρ' a' w' F hh' hF (hr.mono le) Q fun ρ'' a'' w'' le' hh'' sm' => hq ρ'' a'' w'' (Map.le_trans le le') hh'' ((sm.mono fun x hx => by simp only [wrC, List.mem_append]; exact .inl hx).trans (sm'.mono fun x hx => by simp only [wrC, List.mem_append]; exact .inr hx))
theorem exOf_then {e : Nat} (he : e ≠ 0) {K : Act → World → Prop} {Q : Exit → Act → World → Prop} {a : Act} {w : World} (h : Q (exOf e) a w) : Exit.then K Q (exOf e) a w := by
  match e with
  | 0 => exact absurd rfl he
  | 1 => exact h
  | n + 2 => exact h
theorem CodeOK.seq' {c : Ctx} {x y : Code} {st st1 : St} {H H1 : CH} {e : Nat} (he : e ≠ 0) (h1 : CodeOK P w0 c x st H e st1 H1) : CodeOK P w0 c (.seq x y) st H e st1 H1 := by
  intro ρ a w F hh hF hr Q hq
  exact wpIn_seq (h1 ρ a w F hh hF hr _ fun ρ' a' w' le hh' sm => exOf_then he (hq ρ' a' w' le hh' (sm.mono fun x hx => by simp only [wrC, List.mem_append]; exact .inl hx)))
theorem CodeOK.cond {c : Ctx} {p : Operand} {x y : Code} {t : Bool} {st st1 : St} {H H1 : CH} {e : Nat} (hp : asB (ev st.t p) = some t) (h1 : CodeOK P w0 c (if t then x else y) st H e st1 H1) : CodeOK P w0 c (.cond p x y) st H e st1 H1 := by
  intro ρ a w F hh hF hr Q hq
  have hv := (ev_rel hh.rel.glob hh.tmps p).asB hp
  exact wpIn_cond (by exact hv) (h1 ρ a w F hh hF hr Q fun ρ' a' w' le hh' sm => hq ρ' a' w' le hh' (sm.mono fun x hx => by simp only [wrC, List.mem_append]; cases t with | false => exact .inr hx | true => exact .inl hx))
/-- Behind a joint. -/
theorem CodeOK.join {c : Ctx} {x : Code} {st st1 : St} {H H1 : CH} {e : Nat} (h1 : CodeOK P w0 c x st H e st1 H1) : CodeOK P w0 c x st H e ⟨slotsJ c.keep st.t (wrC x) (gather (kpW c.keep (wrC x)) st1.t), st1.ds⟩ H1 :=
  fun ρ a w F hh hF hr Q hq => h1 ρ a w F hh hF hr Q fun ρ' a' w' le hh' sm => hq ρ' a' w' le (hh.join le hh' sm) sm
theorem exOf_block {e id : Nat} {Q : Exit → Act → World → Prop} {a : Act} {w : World} (h : Q (exOf (cond (e == id + 2) 0 e)) a w) : Exit.inBlock id Q (exOf e) a w := by
  match e with
  | 0 => exact h
  | 1 =>
    have : (1 == id + 2) = false := by simp
    rw [this] at h; exact h
  | n + 2 =>
    simp only [exOf, Exit.inBlock]
    by_cases he : n = id
    · subst he
      rw [show (n + 2 == n + 2) = true by simp] at h
      simp only [if_true]; exact h
    · have : (n + 2 == id + 2) = false := by simpa using he
      rw [this] at h
      simp only [he, if_false]; exact h
/-- Behind the joint of two ways. -/
theorem CodeOK.joinC {c : Ctx} {p : Operand} {x y : Code} {t : Bool} {st st1 : St} {H H1 : CH} {e : Nat} (hp : asB (ev st.t p) = some t) (h1 : CodeOK P w0 c (if t then x else y) st H e st1 H1) :
    CodeOK P w0 c (.cond p x y) st H e ⟨slotsJ c.keep st.t (wrC x ++ wrC y) (gather (kpW c.keep (wrC x ++ wrC y)) st1.t), st1.ds⟩ H1 := (CodeOK.cond hp h1).join
theorem CodeOK.block {c : Ctx} {id : Nat} {x : Code} {st st1 : St} {H H1 : CH} {e : Nat} (h1 : CodeOK P w0 c x st H e st1 H1) : CodeOK P w0 c (.block id x) st H (Bool.rec e 0 (e == id + 2)) st1 H1 := by
  intro ρ a w F hh hF hr Q hq
  refine wpIn_block (h1 ρ a w F hh hF hr _ fun ρ' a' w' le hh' sm => exOf_block ?_)
  have := hq ρ' a' w' le hh' sm
  cases hb : (e == id + 2) <;> rw [hb] at this <;> exact this
theorem DsR.append {ρ : Map} {l l' m m' : List Deferred} (h : DsR ρ l l') (t : DsR ρ m m') : DsR ρ (l ++ m) (l' ++ m') := by
  induction h with
  | nil => exact t
  | mark b i a a' h _ ih => exact .mark b i a a' h ih
  | call f c c' a a' hc ha _ ih => exact .call f c c' a a' hc ha ih
/-! ### Joints -/
theorem withL_some {R : Type} : ∀ {n : Nat} {vs : List Value} {k : List Value → Option R} {r : R}, withL n vs k = some r → n ≤ vs.length ∧ k (vs.take n) = some r
  | 0, _, _, _, h => ⟨Nat.zero_le _, by simpa [withL] using h⟩
  | n + 1, vs, k, r, h => by
    unfold withL w1 at h
    split at h
    · cases h
    · rename_i v l
      obtain ⟨h1, h2⟩ := withL_some h
      exact ⟨by simpa using h1, by simpa using h2⟩
theorem dsK_some {R : Type} {nod : Bool} {ds : List Deferred} {k : List Deferred → Option R} {r : R} (h : dsK nod ds k = some r) : k ds = some r := by
  unfold dsK at h
  cases nod with
  | true =>
    simp only [cond_true, nilD] at h
    split at h
    · exact h
    · cases h
  | false => exact h
theorem disp_some {R : Type} {k : Nat → Option R} {x : Nat} {r : R} : ∀ {es : List Nat}, disp es x k = some r → k x = some r
  | [], h => by cases h
  | e :: es, h => by
    unfold disp at h
    cases he : (x == e) with
    | true =>
      rw [he, cond_true] at h
      have := beq_iff_eq.1 he
      rw [this]; exact h
    | false => rw [he, cond_false] at h; exact disp_some h
theorem joinK_some {c : Ctx} {W es : List Nat} {f : Nat → Nat} {t0 t : List Value} {R : Type} {K : Nat → St → CH → Option R} {e : Nat} {ds : List Deferred} {H : CH} {r : R} (h : joinK c W es f t0 K (e, gather (kpW c.keep W) t, ds, H) = some r) :
    K (f e) ⟨slotsJ c.keep t0 W (gather (kpW c.keep W) t), ds⟩ H = some r := by
  unfold joinK at h
  obtain ⟨_, h⟩ := withL_some h
  have h := dsK_some h
  rw [plainL_eq] at h
  have h := disp_some h
  have e : (gather (kpW c.keep W) t).take (kpW c.keep W).length = gather (kpW c.keep W) t := by rw [List.take_of_length_le (by simp [gather])]
  simpa only [e] using h
theorem stepR_scope {b : Frame} {a : Act} {k : List Item} {cs : List Frame} {w : World} {x : Code} : step P (lone (b.atR a (.code (.scope x) :: k)) cs w) = .next (lone (b.atR a (.code x :: .inScope x :: k)) cs w) :=
  step_lone_go (by simp [stepG, stepG.exec, Frame.atR])
theorem stepR_inScope {b : Frame} {a : Act} {k : List Item} {cs : List Frame} {w : World} {x : Code} : step P (lone (b.atR a (.inScope x :: k)) cs w) = .next (lone (b.atR a k) cs w) :=
  step_lone_go (by simp [stepG, stepG.exec, Frame.atR])
/-- A scope that is not left by a jump. -/
theorem wpIn_scope {F : Fence} {n : Nat} {Q : Exit → Act → World → Prop} {a : Act} {w : World} {x : Code} (h : x.wpIn F n P (fun e a w => Q e a w ∧ ∀ l, e ≠ .goto l) a w) : (Code.scope x).wpIn F n P Q a w := by
  intro b k cs hro hb hr
  have h0 : (lone (b.atR a (.code (.scope x) :: k)) cs w).fenced P F := fenced_calm hb hr rfl
  obtain ⟨e, a₁, w₁, ⟨hq, hng⟩, harr⟩ := h b (.inScope x :: k) cs hro hb hr
  cases e with
  | normal => exact ⟨.normal, a₁, w₁, hq, .head h0 stepR_scope (StepsIn.trans harr (.one (fenced_calm hb hr rfl) stepR_inScope))⟩
  | exit id =>
    have hx : exitTo id (.inScope x :: k) = exitTo id k := by simp [exitTo]
    exact ⟨_, a₁, w₁, hq, fun k' hk => .head h0 stepR_scope (harr.1 k' (by rw [hx]; exact hk)),
      fun hr' hk => let ⟨k₁, h1, h2⟩ := harr.2 hr' (by rw [hx]; exact hk); ⟨k₁, h1, .head h0 stepR_scope h2⟩⟩
  | goto l => exact absurd rfl (hng l)
  | ret => exact ⟨_, a₁, w₁, hq, .of_steps (.one h0 stepR_scope) harr⟩
  | panic ch => exact ⟨_, a₁, w₁, hq, .of_steps (.one h0 stepR_scope) harr⟩
  | outgrown => exact ⟨_, a₁, w₁, hq, .of_steps (.one h0 stepR_scope) harr⟩
theorem exOf_goto (e l : Nat) : exOf e ≠ .goto l := by
  match e with
  | 0 => simp [exOf]
  | 1 => simp [exOf]
  | n + 2 => simp [exOf]
theorem icode_ok (hC : ∀ U f args H v H', O.call f args H = some (v, H') → CallOK P ⟨w0.w, U⟩ f args H v H') (hR : ∀ U l args H v H', O.round l args H = some (v, H') → RoundOK P ⟨w0.w, U⟩ l args H v H') (hm : P.follows .mixedOrders = true)
    (c : Ctx) (hL : ∀ body vs ds H e vs' ds' H', O.loop c.fn c.round body vs ds H = some (e, vs', ds', H') → LoopOK P w0 c body vs ds H e vs' ds' H') :
    ∀ (code : Code) (st : St) (H : CH) {R : Type} (K : Nat → St → CH → Option R) (r : R), icode P O c code st H K = some r → ∃ e st' H', K e st' H' = some r ∧ CodeOK P w0 c code st H e st' H' := by
  intro code
  induction code with
  | skip => exact fun st H R K r h => ⟨0, st, H, h, fun ρ a w F hh hF hr Q hq => wpIn_skip (hq ρ a w ρ.le_refl hh (Sm.refl _ _))⟩
  | label l => exact fun st H R K r h => ⟨0, st, H, h, fun ρ a w F hh hF hr Q hq => wpIn_label (hq ρ a w ρ.le_refl hh (Sm.refl _ _))⟩
  | exit id => exact fun st H R K r h => ⟨id + 2, st, H, h, fun ρ a w F hh hF hr Q hq => wpIn_exit (hq ρ a w ρ.le_refl hh (Sm.refl _ _))⟩
  | ret => exact fun st H R K r h => ⟨1, st, H, h, fun ρ a w F hh hF hr Q hq => wpIn_ret (hq ρ a w ρ.le_refl hh (Sm.refl _ _))⟩
  | goto l => intro st H R K r h; simp only [icode] at h; cases h
  | refuse f => intro st H R K r h; simp only [icode] at h; cases h
  | scope a iha =>
    intro st H R K r h
    simp only [icode] at h
    obtain ⟨e, st1, H1, h1, ok1⟩ := iha st H _ r h
    exact ⟨e, st1, H1, h1, fun ρ a w F hh hF hr Q hq => wpIn_scope (ok1 ρ a w F hh hF hr _ fun ρ' a' w' le hh' sm => ⟨hq ρ' a' w' le hh' sm, exOf_goto e⟩)⟩
  | seq a b iha ihb =>
    intro st H R K r h
    simp only [icode] at h
    obtain ⟨e, st1, H1, h1, ok1⟩ := iha st H _ r h
    cases he : (e == 0) with
    | true =>
      rw [he, cond_true] at h1
      obtain ⟨e2, st2, H2, h2, ok2⟩ := ihb st1 H1 _ r h1
      simp only [beq_iff_eq] at he; subst he
      exact ⟨e2, st2, H2, h2, ok1.seq ok2⟩
    | false =>
      rw [he, cond_false] at h1
      exact ⟨e, st1, H1, h1, ok1.seq' (by simpa using he)⟩
  | cond x a b iha ihb =>
    intro st H R K r h
    simp only [icode, Option.bind_eq_some_iff] at h
    obtain ⟨t, ht, h⟩ := h
    cases hj : (ft a && ft b) with
    | true =>
      rw [hj, cond_true] at h
      simp only [Option.bind_eq_some_iff] at h
      obtain ⟨q, hq, h⟩ := h
      cases t with
      | true =>
        obtain ⟨e, st1, H1, h1, ok1⟩ := iha st H _ q hq
        simp only [leaf, Option.some.injEq] at h1
        subst h1
        exact ⟨_, _, _, joinK_some h, CodeOK.joinC ht ok1⟩
      | false =>
        obtain ⟨e, st1, H1, h1, ok1⟩ := ihb st H _ q hq
        simp only [leaf, Option.some.injEq] at h1
        subst h1
        exact ⟨_, _, _, joinK_some h, CodeOK.joinC ht ok1⟩
    | false =>
      rw [hj, cond_false] at h
      cases t with
      | true =>
        obtain ⟨e, st1, H1, h1, ok1⟩ := iha st H _ r h
        exact ⟨e, st1, H1, h1, CodeOK.cond ht ok1⟩
      | false =>
        obtain ⟨e, st1, H1, h1, ok1⟩ := ihb st H _ r h
        exact ⟨e, st1, H1, h1, CodeOK.cond ht ok1⟩
  | block id a iha =>
    intro st H R K r h
    simp only [icode] at h
    cases hj : Nat.ble 2 (waysTo id a + cond (ft a) 1 0) with
    | true =>
      rw [hj, cond_true] at h
      simp only [Option.bind_eq_some_iff] at h
      obtain ⟨q, hq, h⟩ := h
      obtain ⟨e, st1, H1, h1, ok1⟩ := iha st H _ q hq
      simp only [leaf, Option.some.injEq] at h1
      subst h1
      refine ⟨_, _, _, joinK_some h, ?_⟩
      have := ok1.join.block (id := id)
      cases hb : (e == id + 2) <;> simp only [hb] at this ⊢ <;> exact this
    | false =>
      rw [hj, cond_false] at h
      obtain ⟨e, st1, H1, h1, ok1⟩ := iha st H _ r h
      refine ⟨_, _, _, h1, ?_⟩
      have := ok1.block (id := id)
      cases hb : (e == id + 2) <;> simp only [hb] at this ⊢ <;> exact this
  | loop a iha =>
    intro st H R K r h
    simp only [icode, Option.bind_eq_some_iff] at h
    obtain ⟨⟨e, vs, ds, H'⟩, hq, h⟩ := h
    obtain ⟨m, t', rfl, ok⟩ := hL _ _ _ _ _ _ _ _ hq
    exact ⟨_, _, _, joinK_some h, fun ρ a w F hh hF hr Q hq => wpIn_loop_rounds m (ok ρ a w F (hh.spreadL _) hF hr Q fun ρ' a' w' le hh' sm => hq ρ' a' w' le (hh.join le hh' sm) sm)⟩
  | region id ops d =>
    intro st H R K r h
    simp only [icode] at h
    obtain ⟨st', H', h1, _, _, ok⟩ := iregion_ok hC hR hm h
    exact ⟨0, st', H', h1, fun ρ a w F hh hF hr Q hq => ok ρ a w F id hh hF hr Q hq⟩
  | rangeFunc f ps assign body iha ihb =>
    intro st H R K r h
    simp only [icode, rangeK] at h
    split at h
    · rename_i g fa fc hf
      cases hok : okFn P g with
      | false => rw [hok] at h; cases h
      | true =>
        rw [hok] at h
        simp only [Bool.not_true, Bool.false_eq_true, if_false, Option.bind_eq_some_iff] at h
        obtain ⟨⟨blk, mk, H1⟩, henter, ⟨v, H2⟩, hcall, ⟨e, H3⟩, hend, h⟩ := h
        refine ⟨_, _, _, disp_some h, fun ρ a w F hh hF hr Q hq => wpIn_rangeFunc fun fn _ => ?_⟩
        obtain ⟨l, mark, w1, ρ1, i, run1, le1, hi, hl, hds, rel1⟩ := enter_run (P := P) (fn := c.fn) (fn' := fn) (vs := spread c.n c.keep (gather c.keep st.t)) (tmps := a.tmps) (ps := ps) (assign := assign) (body := body) hh.rel hr hh.spread.tmps henter
        have hv := ev_rel hh.rel.glob hh.tmps f
        rw [hf] at hv
        obtain ⟨a', c', e', r1, r2⟩ := hv.func_inv (by simp)
        subst hl
        have hargs : VRs ρ1 (fa.toList ++ [Value.func (.yield H1.n) #[] #[]] ++ fc.toList) (a' ++ #[Value.func (.yield i.x) #[] #[]] ++ c').toList := by
          have h1 : VRs ρ1 [Value.func (.yield H1.n) #[] #[]] [Value.func (.yield i.x) #[] #[]] := VRs.cons (.yield _ _ hi) (VRs.nil ρ1)
          simpa using ((r1.mono le1).append h1).append (r2.mono le1)
        refine ⟨i.x, mark, w1, { target := .fn (.func g) c', args := a' ++ #[.func (.yield i.x) #[] #[]] }, w1, g, a' ++ #[.func (.yield i.x) #[] #[]] ++ c', w1, run1, ?_, fun _ _ => hF.fn _, ?_, fun hd => ?_, ?_⟩
        · have e2 : a.eval (Operand.const (.func (.yield i.x) #[] #[])) = .func (.yield i.x) #[] #[] := rfl
          simp [resolve, rangeCall, e', Deferred.ofValue, e2]
        · simp only [invoke]; exact run_callFunc hok _ _
        · rw [hF.depth] at hd; cases hd
        · refine (hF.callsIn (hC _ _ _ _ _ _ hcall ρ1 w1 _ rel1 hargs)).mono fun en w' he => ?_
          obtain ⟨ρ2, v', rfl, le2, rel2, vr⟩ := he
          obtain ⟨jump, w4, run4, rel4, hj⟩ := endLoop_run (P := P) rel2 (le2 _ _ hi) hend
          refine ⟨jump, w4, run4, ?_⟩
          have le : ρ.le ρ2 := Map.le_trans le1 le2
          have hend' : Here w0 ρ2 c ⟨st.t, mk ++ st.ds⟩ H3 { a with defers := mark ++ a.defers } w4 := ⟨rel4, hh.tmps.mono le, DsR.append (hds.mono le2) (hh.ds.mono le), hh.len⟩
          have fin := hq ρ2 _ w4 le hend' (Sm.of_eq rfl)
          rcases hj with ⟨rfl, rfl⟩ | ⟨rfl, rfl⟩ | ⟨id, rfl, rfl⟩
          · exact fin
          · exact wpIn_ret fin
          · exact wpIn_exit fin
    · cases h
end
end Go.Cn
