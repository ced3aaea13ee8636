/- Code. -/
import Derived.Test.YtbajjfdkkffamaaGreatDoorCnJ4
import Derived.RangeFuncLeaves
import Derived.LoopNIn
namespace Go.Cn
set_option linter.unusedVariables false
set_option linter.unusedSimpArgs false
section
variable {P : Program} {O : Orc} {w0 : Base}
def exOf : Nat → Exit
  | 0 => .normal
  | 1 => .ret
  | n + 2 => .exit n
theorem spread_get (x n : Nat) (t : List Value) : ∀ (keep : List Nat) (u : List Value), u.length = n → (∀ y, u.getD y undef = undef ∨ u.getD y undef = t.getD y undef) →
    ((keep.zip (gather keep t)).foldl (fun t (i, v) => t.set i v) u).length = n ∧ (((keep.zip (gather keep t)).foldl (fun t (i, v) => t.set i v) u).getD x undef = undef ∨ ((keep.zip (gather keep t)).foldl (fun t (i, v) => t.set i v) u).getD x undef = t.getD x undef)
  | [], u, hl, h => ⟨hl, h x⟩
  | i :: keep, u, hl, h => by
    simp only [gather, List.map_cons, List.zip_cons_cons, List.foldl_cons]
    refine spread_get x n t keep (u.set i (t.getD i undef)) (by simpa using hl) fun y => ?_
    rw [getD_set]
    split
    · rename_i e; right; rw [e.1]
    · exact h y
theorem Here.spreadL {ρ : Map} {c : Ctx} {st : St} {H : CH} {a : Act} {w : World} (h : Here w0 ρ c st H a w) (L : List Nat) : Here w0 ρ c ⟨spread c.n L (gather L st.t), st.ds⟩ H a w := by
  have hg := fun x => spread_get x c.n st.t L (List.replicate c.n undef) (by simp) fun y => .inl (by
    simp only [List.getD_eq_getElem?_getD, List.getElem?_replicate]
    split <;> rfl)
  refine h.weak ?_ rfl fun x => (hg x).2
  rw [h.len]; exact (hg 0).1
theorem Here.spread {ρ : Map} {c : Ctx} {st : St} {H : CH} {a : Act} {w : World} (h : Here w0 ρ c st H a w) : Here w0 ρ c ⟨spread c.n c.keep (gather c.keep st.t), st.ds⟩ H a w := h.spreadL c.keep
/-! ### The slots behind a joint -/
theorem clearAll_get (x : Nat) : ∀ (W : List Nat) (t : List Value), (clearAll t W).length = t.length ∧ ((clearAll t W).getD x undef = undef ∨ (x ∉ W ∧ (clearAll t W).getD x undef = t.getD x undef))
  | [], t => ⟨rfl, .inr ⟨by simp, rfl⟩⟩
  | d :: W, t => by
    obtain ⟨h1, h2⟩ := clearAll_get x W (t.set d undef)
    refine ⟨by simpa [clearAll] using h1, ?_⟩
    simp only [clearAll]
    rcases h2 with h | ⟨h3, h4⟩
    · exact .inl h
    · rw [getD_set] at h4
      split at h4
      · exact .inl h4
      · rename_i hn
        by_cases e : d = x
        · left
          subst e
          rw [h4]
          have : ¬ d < t.length := fun h => hn ⟨rfl, h⟩
          simp [List.getD_eq_getElem?_getD, List.getElem?_eq_none (Nat.le_of_not_lt this)]
        · exact .inr ⟨fun hm => (List.mem_cons.1 hm).elim (fun e' => e e'.symm) h3, h4⟩
theorem setAll_get (x : Nat) (u : List Value) : ∀ (L : List Nat) (t : List Value), (setAll t L (gather L u)).length = t.length ∧ ((setAll t L (gather L u)).getD x undef = t.getD x undef ∨ (setAll t L (gather L u)).getD x undef = u.getD x undef)
  | [], t => ⟨rfl, .inl rfl⟩
  | d :: L, t => by
    obtain ⟨h1, h2⟩ := setAll_get x u L (t.set d (u.getD d undef))
    simp only [gather, List.map_cons, setAll] at h1 h2 ⊢
    refine ⟨by simpa using h1, ?_⟩
    rcases h2 with h | h
    · rw [getD_set] at h
      split at h
      · rename_i e; right; rw [h, e.1]
      · exact .inl h
    · exact .inr h
/-- Behind a code that writes W: of the slots of before and of those of now. -/
theorem Here.join {ρ ρ0 : Map} {c : Ctx} {st0 st : St} {H0 H : CH} {a0 a : Act} {w0' w : World} {W : List Nat} (h0 : Here w0 ρ0 c st0 H0 a0 w0') (le : ρ0.le ρ) (h : Here w0 ρ c st H a w) (sm : Sm W a0 a) : Here w0 ρ c ⟨slotsJ c.keep st0.t W (gather (kpW c.keep W) st.t), st.ds⟩ H a w := by
  have hl : (slotsJ c.keep st0.t W (gather (kpW c.keep W) st.t)).length = c.n := by
    unfold slotsJ
    rw [(setAll_get 0 st.t _ _).1, (clearAll_get 0 W st0.t).1, h0.len]
  refine ⟨h.rel, ⟨?_, fun k hk => ?_⟩, h.ds, hl⟩
  · have := h.tmps.1
    simp only
    rw [hl, ← h.len, this]
  · simp only [slotsJ]
    rcases (setAll_get k st.t (kpW c.keep W) (clearAll st0.t W)).2 with e | e
    · rw [e]
      rcases (clearAll_get k W st0.t).2 with e' | ⟨hn, e'⟩
      · rw [e']; exact .any _
      · rw [e']
        have h1 := (h0.tmps.get k).mono le
        have h2 := sm k hn
        rw [arr_getD, arr_getD] at h2
        rw [h2]; exact h1
    · rw [e]; exact h.tmps.get k

/-! ### Loops' records -/
theorem ownLp_some {H : CH} {l : Nat} {L : Loop} (h : ownLp H l = some L) : H.get l = some (.loop L) ∧ H.lim ≤ l := by
  unfold ownLp at h
  split at h
  · rename_i L' hg
    cases hb : Nat.ble H.lim l with
    | false => rw [hb] at h; cases h
    | true => rw [hb] at h; simp at h; subst h; exact ⟨hg, Nat.le_of_ble_eq_true hb⟩
  · cases h
theorem Rel.lp {ρ : Map} {H : CH} {w : World} (h : Rel w0 ρ H w) {l : Nat} {L : Loop} (hm : ∃ i, ρ l = some i) (hg : H.get l = some (.loop L)) : ∃ i L', ρ l = some i ∧ w.heap[i.x]? = some (.loop L') ∧ LR ρ L L' := by
  obtain ⟨i, h1, L', h2, h3⟩ := h.obj l _ hg hm
  exact ⟨i, L', h1, h2, h3⟩
theorem getLoop_run {r : Nat} {L : Loop} {w : World} (h : w.heap[r]? = some (.loop L)) : (Instr.getLoop r).run P w = .ok L w := by
  simp only [Instr.getLoop, Sem.run_bind, getObj_run h (by simp), Result.andThen_ok, Sem.run_pure]
theorem Rel.writeLp {ρ : Map} {H : CH} {w : World} (h : Rel w0 ρ H w) {l : Nat} {L : Loop} {i : Img} (hg : H.get l = some (.loop L)) (hl : H.lim ≤ l) (hi : ρ l = some i) (M M' : Loop) (hr : LR ρ M M') :
    Rel w0 ρ (H.put l (some (.loop M))) { w with heap := w.heap.setIfInBounds i.x (.loop M') } :=
  h.write (y := .loop M) hg hl hi (.loop M') ⟨M', rfl, hr⟩ rfl rfl rfl rfl
theorem endLoop_run {ρ : Map} {H H' : CH} {w : World} {l e : Nat} {i : Img} (h : Rel w0 ρ H w) (hi : ρ l = some i) (he : endLp H l = some (e, H')) :
    ∃ jump w', (Instr.endLoop i.x).run P w = .ok jump w' ∧ Rel w0 ρ H' w' ∧ ((jump = none ∧ e = 0) ∨ (jump = some .ret ∧ e = 1) ∨ ∃ id, jump = some (.exit id) ∧ e = id + 2) := by
  unfold endLp at he
  simp only [Option.bind_eq_some_iff] at he
  obtain ⟨L, hL, he⟩ := he
  obtain ⟨hg, hlim⟩ := ownLp_some hL
  obtain ⟨i', L', hi', hw, hr⟩ := h.lp ⟨_, hi⟩ hg
  rw [hi] at hi'; simp only [Option.some.injEq] at hi'; subst hi'
  cases hb : (L.state == LoopState.busy) with
  | true => rw [hb] at he; cases he
  | false =>
    rw [hb, cond_false] at he
    have hrun : (Instr.endLoop i.x).run P w = .ok L'.pending { w with heap := w.heap.setIfInBounds i.x (.loop { L' with state := .exhausted }) } := by
      simp only [Instr.endLoop, Sem.run_bind, getLoop_run hw, Result.andThen_ok, hr.state, hb, Bool.false_eq_true, if_false, Sem.run_pure, setObj_run hw (by simp)]
    have hrel : Rel w0 ρ (H.put l (some (.loop { L with state := .exhausted }))) { w with heap := w.heap.setIfInBounds i.x (.loop { L' with state := .exhausted }) } :=
      h.writeLp hg hlim hi _ _ ⟨rfl, hr.pending, hr.tmps, hr.params, hr.assign, hr.body, hr.defers⟩
    refine ⟨_, _, hrun, ?_⟩
    have hpe := hr.pending
    split at he
    · rename_i hp; simp at he; obtain ⟨rfl, rfl⟩ := he; exact ⟨hrel, .inl ⟨hpe.trans hp, rfl⟩⟩
    · rename_i hp; simp at he; obtain ⟨rfl, rfl⟩ := he; exact ⟨hrel, .inr (.inl ⟨hpe.trans hp, rfl⟩)⟩
    · rename_i id hp; simp at he; obtain ⟨rfl, rfl⟩ := he; exact ⟨hrel, .inr (.inr ⟨id, hpe.trans hp, rfl⟩)⟩
    · cases he
theorem beginRound_run {ρ : Map} {H H' : CH} {w : World} {l : Nat} {i : Img} (h : Rel w0 ρ H w) (hi : ρ l = some i) (he : begRound l H = some H') : ∃ w', (Instr.beginRound i.x).run P w = .ok () w' ∧ Rel w0 ρ H' w' := by
  unfold begRound at he
  simp only [Option.bind_eq_some_iff] at he
  obtain ⟨L, hL, he⟩ := he
  obtain ⟨hg, hlim⟩ := ownLp_some hL
  obtain ⟨i', L', hi', hw, hr⟩ := h.lp ⟨_, hi⟩ hg
  rw [hi] at hi'; simp only [Option.some.injEq] at hi'; subst hi'
  cases hb : (L.state == LoopState.ready) with
  | false => rw [hb] at he; cases he
  | true =>
    rw [hb] at he; simp at he; subst he
    have hst : L'.state = .ready := by rw [hr.state]; simpa using hb
    refine ⟨{ w with heap := w.heap.setIfInBounds i.x (.loop { L' with state := .busy }) }, ?_, h.writeLp hg hlim hi _ _ ⟨rfl, hr.pending, hr.tmps, hr.params, hr.assign, hr.body, hr.defers⟩⟩
    simp only [Instr.beginRound, Sem.run_bind, getLoop_run hw, Result.andThen_ok, setObj_run hw (by simp), hst, Sem.run_pure]
def jumpOf : Nat → Option Code
  | 0 => none
  | 1 => some .ret
  | n + 2 => some (.exit n)
theorem endRound_run {ρ : Map} {H H' : CH} {w : World} {l e : Nat} {i : Img} {v : Value} (h : Rel w0 ρ H w) (hi : ρ l = some i) (he : endRound l e H = some (v, H')) : ∃ w', (Instr.endRound i.x (jumpOf e)).run P w = .ok v w' ∧ Rel w0 ρ H' w' ∧ VR ρ v v := by
  unfold endRound at he
  simp only [Option.bind_eq_some_iff] at he
  obtain ⟨L, hL, he⟩ := he
  obtain ⟨hg, hlim⟩ := ownLp_some hL
  obtain ⟨i', L', hi', hw, hr⟩ := h.lp ⟨_, hi⟩ hg
  rw [hi] at hi'; simp only [Option.some.injEq] at hi'; subst hi'
  simp only [Option.some.injEq, Prod.mk.injEq] at he
  obtain ⟨rfl, rfl⟩ := he
  refine ⟨{ w with heap := w.heap.setIfInBounds i.x (.loop { L' with state := if (jumpOf e).isNone then .ready else .done, pending := jumpOf e }) }, ?_, ?_, .bool _⟩
  · have : (jumpOf e).isNone = (e == 0) := by
      match e with
      | 0 => rfl
      | 1 => rfl
      | n + 2 => rfl
    simp only [Instr.endRound, Sem.run_bind, getLoop_run hw, Result.andThen_ok, setObj_run hw (by simp), Sem.run_pure, this]
  · refine h.writeLp hg hlim hi _ _ ⟨?_, ?_, hr.tmps, hr.params, hr.assign, hr.body, hr.defers⟩
    · match e with
      | 0 => rfl
      | 1 => rfl
      | n + 2 => rfl
    · match e with
      | 0 => rfl
      | 1 => rfl
      | n + 2 => rfl
theorem Rel.lim_eq {ρ : Map} {H : CH} {w : World} (h : Rel w0 ρ H w) : H.lim ≤ H.n := h.lim
/-- Entering. -/
theorem enter_run {ρ : Map} {H H1 : CH} {w : World} {rnd rnd' : Option Nat} {blk : Nat} {mk : List Deferred} {fn fn' : FuncId} {vs : List Value} {tmps : Array Value} {ps : Array Tmp} {assign body : Code} (h : Rel w0 ρ H w) (hr : RR ρ rnd rnd') (ht : VRs ρ vs tmps.toList)
    (he : enterLp rnd H = some (blk, mk, H1)) : ∃ l mark w1 ρ' i, (Instr.enterLoop fn' tmps ps assign body rnd').run P w = .ok (l, mark) w1 ∧ ρ.le ρ' ∧ ρ' H1.n = some i ∧ l = i.x ∧ DsR ρ' mk mark ∧
      Rel w0 ρ' (H1.new (.loop { state := .ready, pending := none, fn := fn, tmps := ⟨vs⟩, params := ps, assign, body, defers := blk })) w1 := by
  unfold enterLp at he
  split at he
  · simp only [Option.some.injEq, Prod.mk.injEq] at he
    obtain ⟨rfl, rfl, rfl⟩ := he
    have hrn : rnd' = none := by cases rnd' with | none => rfl | some _ => exact hr.elim
    subst hrn
    obtain ⟨r1, le1, e1⟩ := h.new (.defs true) (.deferred (some [])) 0 rfl
    obtain ⟨r2, le2, e2⟩ := r1.new (.loop { state := .ready, pending := none, fn := fn, tmps := ⟨vs⟩, params := ps, assign, body, defers := H.n }) (.loop { state := .ready, pending := none, fn := fn', tmps := tmps, params := ps, assign, body, defers := w.heap.size }) 0
      ⟨{ state := .ready, pending := none, fn := fn', tmps := tmps, params := ps, assign, body, defers := w.heap.size }, rfl, ⟨rfl, rfl, ht.mono le1, rfl, rfl, rfl, ⟨_, e1, rfl⟩⟩⟩
    refine ⟨_, [{ target := .collected w.heap.size, args := #[] }], _, _, _, ?_, Map.le_trans le1 le2, e2, rfl, .mark _ _ _ _ (le2 _ _ e1) .nil, r2⟩
    simp only [Instr.enterLoop, Sem.run_bind, run_newObj, Result.andThen_ok, Sem.run_pure]
    rfl
  · rename_i l
    split at he
    · rename_i L hg
      simp only [Option.some.injEq, Prod.mk.injEq] at he
      obtain ⟨rfl, rfl, rfl⟩ := he
      obtain ⟨l', hrn, j, hj, hl'⟩ : ∃ l', rnd' = some l' ∧ ∃ j, ρ l = some j ∧ l' = j.x := by cases rnd' with | none => exact hr.elim | some l' => exact ⟨l', rfl, hr⟩
      subst hrn; subst hl'
      obtain ⟨j', L', hj', hw, hlr⟩ := h.lp ⟨_, hj⟩ hg
      rw [hj] at hj'; simp only [Option.some.injEq] at hj'; subst hj'
      obtain ⟨d, hd1, hd2⟩ := hlr.defers
      have hle : ρ.le (ρ.ext H.n ⟨w.heap.size, 0, 0⟩) := Map.le_ext (h.out _ (Nat.le_refl _))
      obtain ⟨r2, le2, e2⟩ := h.new (.loop { state := .ready, pending := none, fn := fn, tmps := ⟨vs⟩, params := ps, assign, body, defers := L.defers }) (.loop { state := .ready, pending := none, fn := fn', tmps := tmps, params := ps, assign, body, defers := L'.defers }) 0
        ⟨{ state := .ready, pending := none, fn := fn', tmps := tmps, params := ps, assign, body, defers := L'.defers }, rfl, ⟨rfl, rfl, ht, rfl, rfl, rfl, ⟨d, hd1, hd2⟩⟩⟩
      refine ⟨_, [], _, _, _, ?_, le2, e2, rfl, .nil, r2⟩
      simp only [Instr.enterLoop, Sem.run_bind, getLoop_run hw, run_newObj, Result.andThen_ok, Sem.run_pure]
      rfl
    · cases he
end
end Go.Cn
