/- Functions, loops, rounds: all the way down. -/
import Derived.Test.YtbajjfdkkffamaaGreatDoorCnK2
namespace Go.Cn
set_option linter.unusedVariables false
set_option linter.unusedSimpArgs false
section
variable {P : Program} {w0 : Base} {O : Orc} {keep : FuncId → List Nat}
/-- What the oracle must keep. -/
structure OrcOK (P : Program) (W : World) (keep : FuncId → List Nat) (O : Orc) : Prop where
  call : ∀ U f args H v H', O.call f args H = some (v, H') → CallOK P ⟨W, U⟩ f args H v H'
  round : ∀ U l args H v H', O.round l args H = some (v, H') → RoundOK P ⟨W, U⟩ l args H v H'
  loop : ∀ U f fn rnd, P.funcs[f]? = some fn → ∀ body vs ds H e vs' ds' H', O.loop f rnd body vs ds H = some (e, vs', ds', H') → LoopOK P ⟨W, U⟩ (ctxOf keep f fn rnd) body vs ds H e vs' ds' H'
theorem takeDeferred_run {r : Nat} {w : World} (h : w.heap[r]? = some (.deferred (some []))) : (Instr.takeDeferred r).run P w = .ok [] { w with heap := w.heap.setIfInBounds r (.deferred none) } := by
  simp only [Instr.takeDeferred, Sem.run_bind, getObj_run h (by simp), Result.andThen_ok, Sem.run_pure, setObj_run h (by simp)]
def resOp (tmps : Array Value) : ResultVar → Sem Value
  | .tmp t => pure (tmps.getD t undef)
  | .cell a t => do loadVar t (← asAddr (tmps.getD a undef))
theorem loadVar_asAddr {ρ : Map} {H : CH} {w : World} (h : Rel w0 ρ H w) {ty : TypeId} {x x' v : Value} (hx : VR ρ x x') (hl : loadV P ty x H = some v) : ∃ v', (do loadVar ty (← asAddr x') : Sem Value).run P w = .ok v' w ∧ VR ρ v v' := by
  obtain ⟨v', r1, vr⟩ := loadV_run (P := P) h hx hl
  refine ⟨v', ?_, vr⟩
  cases x' with
  | pointer a =>
    cases a with
    | some a => simpa [Instr.loadAt, Instr.sureAddr, asAddr] using r1
    | none => simp [Instr.loadAt, Instr.sureAddr, stuck] at r1
  | _ => simp [Instr.loadAt, Instr.sureAddr, stuck] at r1
theorem results_run {ρ : Map} {H : CH} {w : World} (h : Rel w0 ρ H w) {t : List Value} {tmps : Array Value} (ht : VRs ρ t tmps.toList) : ∀ (rs : List ResultVar) (vs : List Value), resultsOf P t H rs = some vs →
    ∃ vs', (rs.mapM (resOp tmps)).run P w = .ok vs' w ∧ VRs ρ vs vs'
  | [], vs, hv => by
    simp only [resultsOf, Option.some.injEq] at hv; subst hv
    exact ⟨[], by simp, VRs.nil ρ⟩
  | .tmp i :: rs, vs, hv => by
    simp only [resultsOf, Option.map_eq_some_iff] at hv
    obtain ⟨us, h1, rfl⟩ := hv
    obtain ⟨us', h2, h3⟩ := results_run h ht rs us h1
    refine ⟨tmps.getD i undef :: us', ?_, VRs.cons ?_ h3⟩
    · simp only [List.mapM_cons, Sem.run_bind, Sem.run_pure, Result.andThen_ok, h2, resOp]
    · have := ht.get i
      simpa [List.getD_eq_getElem?_getD] using this
  | .cell a ty :: rs, vs, hv => by
    simp only [resultsOf, Option.bind_eq_some_iff, Option.map_eq_some_iff] at hv
    obtain ⟨v, hl, us, h1, rfl⟩ := hv
    obtain ⟨us', h2, h3⟩ := results_run h ht rs us h1
    have hx : VR ρ (t.getD a undef) (tmps.getD a undef) := by
      have := ht.get a
      simpa [List.getD_eq_getElem?_getD] using this
    obtain ⟨v', r1, vr⟩ := loadVar_asAddr h hx hl
    refine ⟨v' :: us', ?_, VRs.cons vr h3⟩
    rw [List.mapM_cons]
    simp only [Sem.run_bind, resOp] at r1 ⊢
    rw [r1]
    simp only [Sem.run_bind, Sem.run_pure, Result.andThen_ok, h2]
theorem one_rel {ρ : Map} {vs : List Value} {vs' : List Value} (h : VRs ρ vs vs') : VR ρ (one vs) (if h : vs'.toArray.size = 1 then vs'.toArray[0] else .tuple vs'.toArray) := by
  have hl := h.1
  match vs, vs', hl with
  | [], [], _ => exact .any _
  | [v], [v'], _ => simpa [one] using h.2 0 (by simp)
  | v :: u :: l, v' :: u' :: l', _ =>
    simp only [one]
    have : ¬ (v' :: u' :: l').toArray.size = 1 := by simp
    rw [dif_neg this]
    exact VR.tuple' (by simpa using h)
theorem results_all {ρ : Map} {H : CH} {w : World} (h : Rel w0 ρ H w) {fn : Func} {t : List Value} {tmps : Array Value} (ht : VRs ρ t tmps.toList) {vs : List Value} (hvs : resultsOf P t H fn.results.toList = some vs) :
    ∃ v', (results fn tmps).run P w = .ok v' w ∧ VR ρ (one vs) v' := by
  obtain ⟨vs', r1, r2⟩ := results_run h ht _ vs hvs
  refine ⟨if h : vs'.toArray.size = 1 then vs'.toArray[0] else .tuple vs'.toArray, ?_, one_rel r2⟩
  have hres : results fn tmps = (do let vs ← fn.results.mapM (resOp tmps); pure (if h : vs.size = 1 then vs[0] else .tuple vs)) := by
    unfold results resOp
    rfl
  rw [hres, Array.mapM_eq_mapM_toList]
  simp only [Sem.run_bind, Sem.run_map, r1, Result.andThen_ok, Sem.run_pure]
theorem defs_run (hO : OrcOK P w0.w keep O) (hm : P.follows .mixedOrders = true) {fn : Func} {tmps : Array Value} {R : Ending → World → Prop} {S : Type} {K : CH → Option S} {s : S} : ∀ (ds ds' : List Deferred) (ρ : Map) (H : CH) (w : World), DsR ρ ds ds' → Rel w0 ρ H w → runDefs P O keep ds H K = some s →
    (∀ ρ' H' w', ρ.le ρ' → K H' = some s → Rel w0 ρ' H' w' → ∃ v, (results fn tmps).run P w' = .ok v w' ∧ R (.returned v) w') → LeavesInM Fence.wide 0 P fn tmps R ds' .returning w
  | [], _, ρ, H, w, .nil, hr, h, fin => fin ρ H w ρ.le_refl h hr
  | _, _, ρ, H, w, .mark b i a a' (l := l) hb hd, hr, h, fin => by
    simp only [runDefs] at h
    split at h
    · rename_i hg
      cases hl : Nat.ble H.lim b with
      | false => rw [hl] at h; cases h
      | true =>
        rw [hl, cond_true] at h
        obtain ⟨i', hi', hw⟩ := hr.obj b _ hg ⟨_, hb⟩
        rw [hb] at hi'; simp only [Option.some.injEq] at hi'; subst hi'
        refine ⟨by simp, .inl ⟨i.x, _, rfl, takeDeferred_run hw, defs_run hO hm _ _ ρ _ _ hd (hr.write (y := .defs false) hg (Nat.le_of_ble_eq_true hl) hb (.deferred none) rfl rfl rfl rfl rfl) h fin⟩⟩
    · cases h
  | _, _, ρ, H, w, .call f c c' a a' (l := l) (l' := l') hc ha hd, hr, h, fin => by
    simp only [runDefs] at h
    split at h
    · rename_i hok
      unfold idef at h
      simp only [Option.bind_eq_some_iff] at h
      obtain ⟨fd, hf, cd, hb, h⟩ := h
      split at h
      · rename_i hle
        rw [plainL_eq] at h
        obtain ⟨e, st', H1, hk, ok⟩ := icode_ok hO.call hO.round hm (ctxOf keep f fd none) (hO.loop w0.U f fd none hf) cd _ H _ _ h
        refine ⟨by simp, .inr ⟨fun hh => by simp [Fence.wide] at hh, _, _, f, a' ++ c', rfl, by simpa [invoke] using run_callFunc hok (a' ++ c') w, fun _ _ => trivial, ?_⟩⟩
        have hac : VRs ρ (a.toList ++ c.toList) (a' ++ c').toList := by simpa using ha.append hc
        have hlen : (a' ++ c').size = (a.toList ++ c.toList).length := by have := hac.1; simpa using this.symm
        have main : CallsDIn Fence.wide (0 - 1) P f (a' ++ c') .returning w fun e u' w' => u' = .returning ∧ ∃ v, e = .returned v ∧ LeavesInM Fence.wide 0 P fn tmps R l' .returning w' := by
          refine callsDIn_of_wp hf hb trivial ?_
          refine ok ρ _ w Fence.wide ⟨hr, ?_, .nil, ?_⟩ open_wide trivial _ fun ρ' aa w' le hh _ => ?_
          · simp only [Array.toList_append, Array.toList_replicate]
            have e2 : (a' ++ c').size = (a.toList ++ c.toList).length := hlen
            rw [e2]
            have hac2 := hac
            simp only [Array.toList_append] at hac2
            exact hac2.append (VRs.replicate_undef ρ _ _ (by simp))
          · simp [ctxOf]; simp at hle; omega
          · cases he : Nat.ble e 1 with
            | false => rw [he] at hk; cases hk
            | true =>
              rw [he, cond_true] at hk
              cases hds : st'.ds.isEmpty with
              | false => rw [hds] at hk; cases hk
              | true =>
                rw [hds, cond_true] at hk
                simp only [Option.bind_eq_some_iff] at hk
                obtain ⟨vs, hvs, hk⟩ := hk
                obtain ⟨v', r1, r2⟩ := results_all hh.rel hh.tmps hvs
                have hd0 : aa.defers = [] := by
                  have h0 : st'.ds = [] := by simpa using hds
                  have nil : ∀ x : List Deferred, DsR ρ' [] x → x = [] := fun x hx => by cases hx; rfl
                  exact nil _ (by rw [← h0]; exact hh.ds)
                have rest := defs_run hO hm l l' ρ' H1 w' (hd.mono le) hh.rel hk (fun ρ2 H2 w2 le2 hk2 hr2 => fin ρ2 H2 w2 (Map.le_trans le le2) hk2 hr2)
                match e, Nat.le_of_ble_eq_true he with
                | 0, _ => exact ⟨hd0, v', r1, v', rfl, rest⟩
                | 1, _ => exact ⟨hd0, v', r1, v', rfl, rest⟩
        refine main.mono fun e u' w' ⟨hu, v, he, hl⟩ => ?_
        subst hu he
        exact hl
      · cases h
    · cases h
theorem icall_ok (hO : OrcOK P w0.w keep O) (hm : P.follows .mixedOrders = true) {f : FuncId} {args : List Value} {H : CH} {v : Value} {H' : CH} (h : icall P O keep f args H = some (v, H')) : CallOK P w0 f args H v H' := by
  unfold icall at h
  simp only [Option.bind_eq_some_iff] at h
  obtain ⟨fn, hf, c, hb, h⟩ := h
  split at h
  · rename_i hle
    rw [plainL_eq] at h
    obtain ⟨e, st', H1, hk, ok⟩ := icode_ok hO.call hO.round hm (ctxOf keep f fn none) (hO.loop w0.U f fn none hf) c _ H _ _ h
    intro ρ w args' hr ha
    refine callsIn_of_wp_marks hf hb trivial ?_
    have hlen : args'.size = args.length := by have := ha.1; simpa using this.symm
    refine ok ρ _ w Fence.wide ⟨hr, ?_, .nil, ?_⟩ open_wide trivial _ fun ρ' a' w' le hh _ => ?_
    · simp only [Array.toList_append, Array.toList_replicate]
      rw [hlen]
      exact ha.append (VRs.replicate_undef ρ _ _ (by simp))
    · simp [ctxOf]; omega
    · cases he : Nat.ble e 1 with
      | false => rw [he] at hk; cases hk
      | true =>
        rw [he, cond_true] at hk
        have he1 : e ≤ 1 := Nat.le_of_ble_eq_true he
        have main : LeavesInM Fence.wide 0 P fn a'.tmps (Ret w0 ρ v H') a'.defers .returning w' := by
          refine defs_run hO hm _ _ ρ' H1 w' hh.ds hh.rel hk fun ρ2 H2 w2 le2 hk2 hr2 => ?_
          simp only [Option.bind_eq_some_iff, Option.some.injEq, Prod.mk.injEq] at hk2
          obtain ⟨vs, hvs, rfl, rfl⟩ := hk2
          obtain ⟨v', r1, r2⟩ := results_all hr2 (hh.tmps.mono le2) hvs
          exact ⟨v', r1, ρ2, v', rfl, Map.le_trans le le2, hr2, r2⟩
        match e, he1 with
        | 0, _ => exact main
        | 1, _ => exact main
  · cases h
theorem iloop_ok (hO : OrcOK P w0.w keep O) (hm : P.follows .mixedOrders = true) {f : FuncId} {fn : Func} {rnd : Option Nat} (hf : P.funcs[f]? = some fn) {body : Code} {vs : List Value} {ds : List Deferred} {H : CH} {e : Nat} {vs' : List Value} {ds' : List Deferred} {H' : CH}
    (h : iloop P O keep f rnd body vs ds H = some (e, vs', ds', H')) : LoopOK P w0 (ctxOf keep f fn rnd) body vs ds H e vs' ds' H' := by
  unfold iloop at h
  rw [hf, Option.bind_some, plainL_eq] at h
  obtain ⟨e1, st1, H1, hk, ok⟩ := icode_ok hO.call hO.round hm (ctxOf keep f fn rnd) (hO.loop w0.U f fn rnd hf) body _ H _ _ h
  cases he : (e1 == 0) with
  | true =>
    rw [he, cond_true] at hk
    simp only [beq_iff_eq] at he; subst he
    obtain ⟨m, t', ht', okm⟩ := hO.loop w0.U f fn rnd hf _ _ _ _ _ _ _ _ hk
    refine ⟨m + 1, t', ht', fun ρ a w F hh hF hr Q hq => ?_⟩
    rw [roundsIn_succ]
    refine ok ρ a w F hh hF hr _ fun ρ' a' w' le hh' sm => ?_
    exact okm ρ' a' w' F (hh'.spreadL _) hF (hr.mono le) Q fun ρ'' a'' w'' le' hh'' sm' => hq ρ'' a'' w'' (Map.le_trans le le') hh'' (sm.trans sm')
  | false =>
    rw [he, cond_false] at hk
    simp only [Option.some.injEq, Prod.mk.injEq] at hk
    obtain ⟨rfl, rfl, rfl, rfl⟩ := hk
    refine ⟨1, st1.t, rfl, fun ρ a w F hh hF hr Q hq => ?_⟩
    rw [roundsIn_succ]
    exact ok ρ a w F hh hF hr _ fun ρ' a' w' le hh' sm => exOf_then (by simpa using he) (hq ρ' a' w' le hh' sm)
theorem yield_tmps {ρ : Map} : ∀ (ps : List Nat) (as as' : List Value) (t : List Value) (tmps : Array Value), VRs ρ as as' → VRs ρ t tmps.toList →
    VRs ρ ((ps.zip as).foldl (fun t (p, a) => t.set p a) t) ((ps.zip as').foldl (fun tmps (t, a) => tmps.setIfInBounds t a) tmps).toList
  | [], _, _, _, _, _, h => h
  | p :: ps, [], [], _, _, _, h => h
  | p :: ps, [], x :: l, _, _, ha, _ => by have := ha.1; simp at this
  | p :: ps, x :: l, [], _, _, ha, _ => by have := ha.1; simp at this
  | p :: ps, x :: as, x' :: as', t, tmps, ha, h => by
    simp only [List.zip_cons_cons, List.foldl_cons]
    have h0 : VR ρ x x' := by simpa using ha.2 0 (by simp)
    have ht : VRs ρ as as' := ⟨by have := ha.1; simpa using this, fun k hk => by have := ha.2 (k + 1) (by simpa using hk); simpa using this⟩
    exact yield_tmps ps as as' _ _ ht (by simpa using h.set p h0)
theorem iround_ok (hO : OrcOK P w0.w keep O) (hm : P.follows .mixedOrders = true) {l : Nat} {args : List Value} {H : CH} {v : Value} {H' : CH} (h : iround P O keep l args H = some (v, H')) : RoundOK P w0 l args H v H' := by
  unfold iround at h
  split at h
  · rename_i L hg
    simp only [Option.bind_eq_some_iff] at h
    obtain ⟨fn, hf, h⟩ := h
    split at h
    · rename_i hsz
      obtain ⟨e1, st1, H1, hk, ok1⟩ := icode_ok hO.call hO.round hm (ctxOf keep L.fn fn (some l)) (hO.loop w0.U L.fn fn (some l) hf) L.assign _ H _ _ h
      cases he : (e1 == 0) with
      | false => rw [he] at hk; cases hk
      | true =>
        rw [he, cond_true] at hk
        simp only [beq_iff_eq] at he; subst he
        simp only [Option.bind_eq_some_iff] at hk
        obtain ⟨H2, hbeg, hk⟩ := hk
        obtain ⟨e3, st3, H3, hk3, ok3⟩ := icode_ok hO.call hO.round hm (ctxOf keep L.fn fn (some l)) (hO.loop w0.U L.fn fn (some l) hf) L.body _ H2 _ _ hk
        cases hds : st3.ds.isEmpty with
        | false => rw [hds] at hk3; cases hk3
        | true =>
          rw [hds, cond_true] at hk3
          intro ρ w i args' hr ha hi
          obtain ⟨i', L', hi', hw, hlr⟩ := hr.lp ⟨_, hi⟩ hg
          rw [hi] at hi'; simp only [Option.some.injEq] at hi'; subst hi'
          have hargs : args'.size = L'.params.size := by
            have := ha.1
            rw [hlr.params, ← hsz.1]; simpa using this.symm
          refine ⟨L'.fn, (L'.params.zip args').foldl (fun tmps (t, a) => tmps.setIfInBounds t a) L'.tmps, L'.assign, L'.body, ?_, ?_⟩
          · simp only [Instr.yield, Sem.run_bind, getLoop_run hw, Result.andThen_ok, hargs, ne_eq, not_true_eq_false, if_false, Sem.run_pure]
          · refine roundIn_of_wpIn trivial ?_
            have hopen : Open (Fence.wide.inRound i.x) := open_wide.round i.x
            have hrr : ∀ ρ', ρ.le ρ' → RR ρ' (some l) (Fence.wide.inRound i.x).round := fun ρ' le => ⟨i, le _ _ hi, rfl⟩
            rw [hlr.assign, hlr.body]
            refine ok1 ρ _ w _ ⟨hr, ?_, .nil, ?_⟩ hopen (hrr ρ ρ.le_refl) _ fun ρ1 a1 w1 le1 hh1 _ => ?_
            · simp only
              rw [← Array.foldl_toList, Array.toList_zip, hlr.params]
              exact yield_tmps _ _ _ _ _ ha hlr.tmps
            · simp only [ctxOf]
              have : ∀ (ps : List (Nat × Value)) (t : List Value), (ps.foldl (fun t (p, a) => t.set p a) t).length = t.length := fun ps => by
                induction ps with
                | nil => intro t; rfl
                | cons p ps ih => intro t; rw [List.foldl_cons, ih]; simp
              rw [this]; simpa using hsz.2
            · obtain ⟨w2, hb2, rel2⟩ := beginRound_run (P := P) hh1.rel (le1 _ _ hi) hbeg
              refine ⟨w2, hb2, ok3 ρ1 a1 w2 _ ⟨rel2, hh1.tmps, hh1.ds, hh1.len⟩ hopen (hrr ρ1 le1) _ fun ρ3 a3 w3 le3 hh3 _ => ?_⟩
              have le : ρ.le ρ3 := Map.le_trans le1 le3
              obtain ⟨w4, hend, rel4, vr⟩ := endRound_run (P := P) hh3.rel (le _ _ hi) hk3
              have fin : ∃ v' w', (Instr.endRound i.x (jumpOf e3)).run P w3 = .ok v' w' ∧ Ret w0 ρ v H' (.returned v') w' := ⟨v, w4, hend, ρ3, v, rfl, le, rel4, vr⟩
              match e3 with
              | 0 => exact fin
              | 1 => exact fin
              | n + 2 => exact fin
    · cases h
  · cases h
theorem orc_ok (hm : P.follows .mixedOrders = true) (W : World) : ∀ k, OrcOK P W keep (orc P keep k)
  | 0 => ⟨fun _ _ _ _ _ _ h => (by cases h), fun _ _ _ _ _ _ h => (by cases h), fun _ _ _ _ _ _ _ _ _ _ _ _ _ h => (by cases h)⟩
  | k + 1 =>
    have ih := orc_ok hm W k
    ⟨fun U _ _ _ _ _ h => icall_ok (w0 := ⟨W, U⟩) ih hm h, fun U _ _ _ _ _ h => iround_ok (w0 := ⟨W, U⟩) ih hm h, fun U _ _ _ hf _ _ _ _ _ _ _ _ h => iloop_ok (w0 := ⟨W, U⟩) ih hm hf h⟩
end
end Go.Cn
