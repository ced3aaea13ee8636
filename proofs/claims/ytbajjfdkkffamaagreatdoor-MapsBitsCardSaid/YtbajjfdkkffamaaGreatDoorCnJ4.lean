/- Regions, whole. -/
import Derived.Test.YtbajjfdkkffamaaGreatDoorCnJ3
namespace Go.Cn
set_option linter.unusedVariables false
set_option linter.unusedSimpArgs false
section
variable {P : Program} {O : Orc} {w0 : Base}
section
variable {c : Ctx} {ops : Array Oper} {ds : List Deferred} {t : List Value} {H : CH} {S : List Stp} {acc : Acc} {al : List (Nat × Nat × List Value)}
abbrev lst (listed : Array Bool) : Nat → Bool := fun j => listed.getD j false
theorem cvL_all {L : Nat → Bool} (h : ∀ k, k < S.length → L k = true) : ∀ (S' : List Stp) (i : Nat) (t : List Value), S'.length + i ≤ S.length → cvL L i S' t = cvL (fun _ => true) i S' t
  | [], _, _, _ => rfl
  | s :: S', i, t, hl => by
    simp only [List.length_cons] at hl
    simp only [cvL, h i (by omega)]
    exact cvL_all h S' (i + 1) _ (by omega)
theorem lst_set {listed : Array Bool} {i : Nat} (hi : i < listed.size) : lst (listed.setIfInBounds i true) = addL (lst listed) i := by
  funext j
  simp only [lst, addL]
  by_cases e : i = j
  · subst e; simp [hi]
  · rw [getD_set_ne false e]
    have : (j == i) = false := by simp; omega
    simp [this]
theorem ready_nil (hr : RegF P al ops) {listed : Array Bool} (hsz : listed.size = ops.size) (h : Region.ready .any ops listed = []) : ∀ j, j < ops.size → lst listed j = true := by
  intro j
  induction j using Nat.strongRecOn with
  | _ j ih =>
    intro hj
    refine bit_of fun hb => ?_
    have : j ∈ Region.ready .any ops listed := mem_ready.2 ⟨by
        have hj' : j < listed.size := by omega
        simp only [lst, Array.getD, hj', dif_pos] at hb ⊢; exact hb, ops[j], by simp [hj], fun e he hbd => by
        have hlt := hr.back j ops[j] (by simp [hj]) e he hbd
        exact ih e.on hlt (by omega)⟩
    rw [h] at this; cases this
/-! ### Reserved blocks -/
def Base.with (w0 : Base) (al : List (Nat × Nat × List Value)) (L : Nat → Bool) : Base := ⟨w0.w, fun b => w0.U b ∨ ∃ x ∈ al, x.2.1 = b ∧ L x.1 = false⟩
structure AlOK (P : Program) (ops : Array Oper) (al : List (Nat × Nat × List Value)) (H : CH) : Prop where
  get : ∀ x ∈ al, ∃ e, H.get x.2.1 = some (.cells x.2.2 e)
  op : ∀ x ∈ al, ∃ o e, ops[x.1]? = some o ∧ o.op = .alloc e ∧ zeroOf P e = some x.2.2
  inj : ∀ x ∈ al, ∀ y ∈ al, x.2.1 = y.2.1 → x = y
  idx : ∀ x ∈ al, ∀ y ∈ al, x.1 = y.1 → x = y
theorem alAt_some {al : List (Nat × Nat × List Value)} {i b : Nat} (h : alAt al i = some b) : ∃ x ∈ al, x.1 = i ∧ x.2.1 = b := by
  unfold alAt at h
  rw [Option.map_eq_some_iff] at h
  obtain ⟨x, hx, hb⟩ := h
  exact ⟨x, List.mem_of_find?_eq_some hx, by have := List.find?_some hx; simpa using this, hb⟩
theorem alAt_none {al : List (Nat × Nat × List Value)} {i : Nat} (h : alAt al i = none) : ∀ x ∈ al, x.1 ≠ i := by
  unfold alAt at h
  rw [Option.map_eq_none_iff, List.find?_eq_none] at h
  intro x hx e
  exact h x hx (by simpa using e)
theorem alOk_at {al : List (Nat × Nat × List Value)} {pre : Nat} {H : CH} (h : alOk al pre H = true) {x : Nat × Nat × List Value} (hx : x ∈ al) (hb : pre.testBit x.1 = false) : ∃ e, H.get x.2.1 = some (.cells x.2.2 e) := by
  unfold alOk at h
  rw [List.all_eq_true] at h
  have := h x hx
  rw [hb, Bool.false_or] at this
  split at this
  · rename_i c e hg
    rw [eqLs_eq (eqV_eq 1) _ _ this] at hg
    exact ⟨e, hg⟩
  · cases this
theorem al_state (tr : TrOK P O c ops ds (Region.before ops) al 0 acc t H ops.toList S) (ha : AlOK P ops al H) {L : Nat → Bool} (hL : Closed ops L) {x : Nat × Nat × List Value} (hx : x ∈ al) (hi : L x.1 = false) :
    ∃ e, (hvL P L 0 S H).get x.2.1 = some (.cells x.2.2 e) := by
  by_cases h : ∃ m, L m = true ∧ ∃ s, S[m]? = some s ∧ s.e P = true
  · obtain ⟨m0, hm0⟩ := h
    obtain ⟨m, ⟨hLm, s, hs, he⟩, hmax⟩ := greatest (p := fun m => L m = true ∧ ∃ s, S[m]? = some s ∧ s.e P = true) (b := S.length) (fun k ⟨_, s', hk, _⟩ => (List.getElem?_eq_some_iff.1 hk).1) _ m0 (Nat.le_refl _) hm0
    have e : hvL P L 0 S H = s.H' := hvL_last hs he (by simpa using hLm) fun k s' hk he' hlt => by
      simp only [Nat.zero_add]
      cases hLk : L k with
      | false => rfl
      | true => exact absurd ⟨hLk, s', hk, he'⟩ (hmax k hlt)
    rw [e]
    have := tr.keeps m s hs he
    rw [Nat.zero_add] at this
    refine alOk_at this hx ?_
    cases hb : ((Region.before ops).getD m 0).testBit x.1 with
    | false => rfl
    | true => have := before_spec hL m x.1 (hL m hLm) hb; rw [hi] at this; cases this
  · have e : hvL P L 0 S H = H := hvL_none fun k s hk he => by
      simp only [Nat.zero_add]
      cases hLk : L k with
      | false => rfl
      | true => exact absurd ⟨k, hLk, s, hk, he⟩ h
    rw [e]; exact ha.get x hx
theorem reserve_spec : ∀ (l : List Oper) (i : Nat) (H : CH) (al : List (Nat × Nat × List Value)) (H' : CH), reserve P i l H = some (al, H') →
    H.n ≤ H'.n ∧ (∀ b, b < H.n → H'.get b = H.get b) ∧ (∀ x ∈ al, i ≤ x.1 ∧ H.n ≤ x.2.1 ∧ x.2.1 < H'.n ∧ (∃ e, H'.get x.2.1 = some (.cells x.2.2 e)) ∧ ∃ o e, l[x.1 - i]? = some o ∧ o.op = .alloc e ∧ zeroOf P e = some x.2.2) ∧
    (∀ x ∈ al, ∀ y ∈ al, x.2.1 = y.2.1 → x = y) ∧ (∀ x ∈ al, ∀ y ∈ al, x.1 = y.1 → x = y) ∧ (∀ k o, l[k]? = some o → isAl o.op = true → ∃ x ∈ al, x.1 = i + k) ∧
    ∀ {w0 : Base} {ρ : Map} {w : World}, Rel w0 ρ H w → Rel ⟨w0.w, fun b => w0.U b ∨ ∃ x ∈ al, x.2.1 = b⟩ ρ H' w
  | [], i, H, al, H', h => by
    simp only [reserve, Option.some.injEq, Prod.mk.injEq] at h
    obtain ⟨rfl, rfl⟩ := h
    refine ⟨Nat.le_refl _, fun _ _ => rfl, fun x hx => (by cases hx), fun x hx => (by cases hx), fun x hx => (by cases hx), fun k o h => by simp at h, fun hr => hr.lessU fun b hb => ?_⟩
    rcases hb with hb | ⟨x, hx, _⟩
    · exact hb
    · cases hx
  | o :: l, i, H, al, H', h => by
    simp only [reserve] at h
    split at h
    · rename_i e hop
      simp only [Option.bind_eq_some_iff, Option.map_eq_some_iff] at h
      obtain ⟨z, hz, ⟨al1, H1⟩, h1, h2⟩ := h
      simp only [Prod.mk.injEq] at h2
      obtain ⟨rfl, rfl⟩ := h2
      obtain ⟨q1, q2, q3, q4, q5, q6, q7⟩ := reserve_spec l (i + 1) _ _ _ h1
      simp only [CH.new_n] at q1 q2 q3
      refine ⟨by omega, fun b hb => ?_, fun x hx => ?_, fun x hx y hy exy => ?_, fun x hx y hy exy => ?_, fun k p hk hp => ?_, fun hr => ?_⟩
      · rw [q2 b (by omega)]; exact CH.get_new_ne _ _ _ (by omega)
      · rcases List.mem_cons.1 hx with rfl | hx
        · exact ⟨Nat.le_refl _, Nat.le_refl _, by simp only; omega, ⟨e, by rw [q2 _ (by simp only; omega)]; exact CH.get_new _ _⟩, o, e, by simp, hop, hz⟩
        · obtain ⟨a1, a2, a3, a4, p, e', a5, a6⟩ := q3 x hx
          refine ⟨by omega, by omega, a3, a4, p, e', ?_, a6⟩
          rw [show x.1 - i = (x.1 - (i + 1)) + 1 by omega]; simpa using a5
      · rcases List.mem_cons.1 hx with rfl | hx <;> rcases List.mem_cons.1 hy with rfl | hy
        · rfl
        · have := q3 y hy; simp only at exy; omega
        · have := q3 x hx; simp only at exy; omega
        · exact q4 x hx y hy exy
      · rcases List.mem_cons.1 hx with rfl | hx <;> rcases List.mem_cons.1 hy with rfl | hy
        · rfl
        · have := q3 y hy; simp only at exy; omega
        · have := q3 x hx; simp only at exy; omega
        · exact q5 x hx y hy exy
      · cases k with
        | zero => exact ⟨_, List.mem_cons_self, rfl⟩
        | succ k =>
          obtain ⟨x, hx, ex⟩ := q6 k p (by simpa using hk) hp
          exact ⟨x, List.mem_cons_of_mem _ hx, by omega⟩
      · refine (q7 (hr.aside _)).lessU fun b hb => ?_
        rcases hb with hb | ⟨x, hx, ex⟩
        · exact .inl (.inl hb)
        · rcases List.mem_cons.1 hx with rfl | hx
          · exact .inl (.inr ex.symm)
          · exact .inr ⟨x, hx, ex⟩
    · rename_i hna
      obtain ⟨q1, q2, q3, q4, q5, q6, q7⟩ := reserve_spec l (i + 1) _ _ _ h
      refine ⟨q1, q2, fun x hx => ?_, q4, q5, fun k p hk hp => ?_, q7⟩
      · obtain ⟨a1, a2, a3, a4, p, e', a5, a6⟩ := q3 x hx
        refine ⟨by omega, a2, a3, a4, p, e', ?_, a6⟩
        rw [show x.1 - i = (x.1 - (i + 1)) + 1 by omega]; simpa using a5
      · cases k with
        | zero =>
          simp at hk; subst hk
          unfold isAl at hp
          split at hp
          · rename_i e he; exact absurd he (hna e)
          · cases hp
        | succ k =>
          obtain ⟨x, hx, ex⟩ := q6 k p (by simpa using hk) hp
          exact ⟨x, hx, by omega⟩
theorem Here.toBase {w1 : Base} {ρ : Map} {c : Ctx} {st : St} {H : CH} {a : Act} {w : World} (h : Here w0 ρ c st H a w) (hr : Rel w1 ρ H w) : Here w1 ρ c st H a w := ⟨hr, h.tmps, h.ds, h.len⟩
theorem alloc_run {e : TypeId} {zv : Value} {w : World} (h1 : (P.info? e).bind (·.zero) = some zv) :
    (do pure (.value (← Instr.alloc e true (.tuple #[]))) : Sem Next).run P w = .ok (.value (.pointer (some ⟨w.heap.size, 0, none⟩))) (w.alloc (.cells zv.cells e (0, 0))) := by
  simp only [Instr.alloc, Sem.run_bind, run_zer h1, Result.andThen_ok, newVar, newRow, run_newObj, Sem.run_pure]
  rfl
theorem gate_wanted {ρ : Map} {c : Ctx} {st : St} {H : CH} {a : Act} {w : World} {o : Oper} {run : Bool} (hg : Gate ops o st.t run) (hh : Here w0 ρ c st H a w) : Region.wanted o (yielded ops a.tmps) = run := by
  rcases hg with ⟨hg, hrun⟩ | ⟨j, want, d, b, hg, hd, hb, hrun⟩
  · subst hrun; simp [Region.wanted, hg]
  · obtain ⟨h1, _⟩ := hh.fix hb
    have hy : yielded ops a.tmps j = some b := by simp [yielded, hd, h1]
    rw [hrun]; simp [Region.wanted, hg, hy]
theorem any_ok (hC : ∀ U f args H v H', O.call f args H = some (v, H') → CallOK P ⟨w0.w, U⟩ f args H v H') (hR : ∀ U l args H v H', O.round l args H = some (v, H') → RoundOK P ⟨w0.w, U⟩ l args H v H')
    (hr : RegF P al ops) (ha : AlOK P ops al H) (hnu : ∀ x ∈ al, ¬ w0.U x.2.1) (tr : TrOK P O c ops ds (Region.before ops) al 0 acc t H ops.toList S) : ∀ (fuel : Nat) (listed : Array Bool) (ρ : Map) (a0 a : Act) (w : World) (F : Fence) (Q : Exit → Act → World → Prop), Sm (dsts ops.toList) a0 a →
      listed.size = ops.size → Closed ops (lst listed) → ((List.range ops.size).filter fun j => !listed.getD j true).length ≤ fuel → Here (w0.with al (lst listed)) ρ c ⟨cvL (lst listed) 0 S t, ds⟩ (hvL P (lst listed) 0 S H) a w → Open F → RR ρ c.round F.round →
      (∀ ρ' a' w', ρ.le ρ' → Here w0 ρ' c ⟨cvL (fun _ => true) 0 S t, ds⟩ (hvL P (fun _ => true) 0 S H) a' w' → Sm (dsts ops.toList) a0 a' → Q .normal a' w') → wpAnyIn F 0 P .any ops Q fuel listed a w := by
  have hlen : S.length = ops.size := by have := congrArg List.length tr.os; simpa using this
  have fin : ∀ (listed : Array Bool) (ρ : Map) (a0 a : Act) (w : World) (Q : Exit → Act → World → Prop), Sm (dsts ops.toList) a0 a → listed.size = ops.size → Here (w0.with al (lst listed)) ρ c ⟨cvL (lst listed) 0 S t, ds⟩ (hvL P (lst listed) 0 S H) a w →
      (∀ ρ' a' w', ρ.le ρ' → Here w0 ρ' c ⟨cvL (fun _ => true) 0 S t, ds⟩ (hvL P (fun _ => true) 0 S H) a' w' → Sm (dsts ops.toList) a0 a' → Q .normal a' w') → Region.ready .any ops listed = [] → Q .normal a w := by
    intro listed ρ a0 a w Q sm0 hsz hh hq hn
    have all := ready_nil hr hsz hn
    refine hq ρ a w ρ.le_refl ?_ sm0
    rw [← cvL_all (S := S) (L := lst listed) (fun k hk => all k (by omega)) S 0 t (by omega)]
    have : hvL P (fun _ => true) 0 S H = hvL P (lst listed) 0 S H := hvL_congr fun k s hk _ => by
      have : k < S.length := (List.getElem?_eq_some_iff.1 hk).1
      rw [Nat.zero_add]; exact (all k (by omega)).symm
    rw [this]; exact hh.toBase (hh.rel.lessU fun b hb => .inl hb)
  intro fuel
  induction fuel with
  | zero =>
    intro listed ρ a0 a w F Q sm0 hsz hcl hcnt hh hF hrr hq
    have hn : Region.ready .any ops listed = [] := by
      apply List.eq_nil_iff_forall_not_mem.2
      intro i hi
      obtain ⟨h0, o, ho, _⟩ := mem_ready.1 hi
      have : i ∈ (List.range ops.size).filter fun j => !listed.getD j true := List.mem_filter.2 ⟨List.mem_range.2 (Array.getElem?_eq_some_iff.1 ho).1, by rw [h0]; rfl⟩
      rw [List.length_eq_zero_iff.1 (Nat.le_zero.1 hcnt)] at this
      cases this
    exact ⟨hn, fin listed ρ a0 a w Q sm0 hsz hh hq hn⟩
  | succ fuel ih =>
    intro listed ρ a0 a w F Q sm0 hsz hcl hcnt hh hF hrr hq
    refine ⟨fun hn => fin listed ρ a0 a w Q sm0 hsz hh hq hn, fun i hi => ?_⟩
    obtain ⟨h0, o, ho, hdir⟩ := mem_ready.1 hi
    have hlt : i < ops.size := (Array.getElem?_eq_some_iff.1 ho).1
    have hL0 : lst listed i = false := by
      have : i < listed.size := by omega
      simp only [lst, Array.getD, this, dif_pos] at h0 ⊢; exact h0
    have hd : Direct ops (lst listed) i := fun o' ho' => by
      rw [ho] at ho'; simp only [Option.some.injEq] at ho'; subst ho'; exact hdir
    obtain ⟨s, hs⟩ : ∃ s, S[i]? = some s := ⟨S[i], by simp [hlen, hlt]⟩
    have hso : s.o = o := by have := tr.at' hs; rw [ho] at this; simpa using this.symm
    obtain ⟨h1, h2⟩ := op_at hr tr hcl hs hL0 hd
    have hset := lst_set (listed := listed) (i := i) (by omega)
    have next : ∀ (ρ' : Map) (v' : Value) (a1 : Act) (w' : World), ρ.le ρ' → VR ρ' s.v v' → Here (w0.with al (addL (lst listed) i)) ρ' c ⟨cvL (lst listed) 0 S t, ds⟩ (hvL P (addL (lst listed) i) 0 S H) a1 w' → a1.tmps = a.tmps → wpAnyIn F 0 P .any ops Q fuel (listed.setIfInBounds i true) (a1.put s.o.dst v') w' := fun ρ' v' a1 w' le vr hh1 htm => by
      refine ih _ ρ' a0 _ w' F Q (sm0.trans ((Sm.of_eq htm).trans (Sm.put a1 s.o.dst v' fun x e => by unfold dsts; rw [List.mem_filterMap]; exact ⟨s.o, by have := tr.at' hs; simpa using Array.mem_of_getElem? this, e⟩))) (by simpa using hsz) ?_ ?_ ?_ hF (hrr.mono le) fun ρ'' a' w'' le' => hq ρ'' a' w'' (Map.le_trans le le')
      · rw [hset]
        intro k hk o' ho' e he hb
        have : lst listed e.on = true := by
          simp only [addL, Bool.or_eq_true, beq_iff_eq] at hk
          rcases hk with hk | rfl
          · exact hcl k hk o' ho' e he hb
          · exact hd o' ho' e he hb
        simp [addL, this]
      · have hmem : i ∈ (List.range ops.size).filter fun j => !listed.getD j true := List.mem_filter.2 ⟨List.mem_range.2 hlt, by rw [h0]; rfl⟩
        have hsub : ((List.range ops.size).filter fun j => !(listed.setIfInBounds i true).getD j true) = ((List.range ops.size).filter fun j => !listed.getD j true).filter fun j => !(listed.setIfInBounds i true).getD j true := by
          rw [List.filter_filter]
          apply List.filter_congr
          intro j hj
          by_cases e : i = j
          · subst e
            have : i < listed.size := by omega
            simp [this]
          · rw [getD_set_ne true e]; simp
        rw [hsub]
        have := (List.length_filter_lt_length_iff_exists (l := (List.range ops.size).filter fun j => !listed.getD j true) (p := fun j => !(listed.setIfInBounds i true).getD j true)).2 ⟨i, hmem, by
          have : i < listed.size := by omega
          simp [this]⟩
        omega
      · have hp := hh1.put s.o.dst vr
        rw [St.put_eq, h2] at hp
        rw [hset]
        first | exact hp | (rw [hso] at hp; exact hp)
    have hless : ∀ b, (w0.with al (addL (lst listed) i)).U b → (w0.with al (lst listed)).U b := fun b hb => by
      rcases hb with hb | ⟨x, hx, e1, e2⟩
      · exact .inl hb
      · exact .inr ⟨x, hx, e1, by simp only [addL, Bool.or_eq_false_iff] at e2; exact e2.1⟩
    cases hal : s.al with
    | none =>
      obtain ⟨v, st', H', e, ht, ok⟩ := iguard_ok (hC (w0.with al (lst listed)).U) (hR (w0.with al (lst listed)).U) (h1 hal)
      simp only [kk, Option.some.injEq, Prod.mk.injEq] at e
      obtain ⟨rfl, rfl, rfl⟩ := e
      refine ok ρ a w F i hh hF hrr (by rw [hso]; exact ho) _ Q fun ρ' v' a1 w' le vr hh1 htm => next ρ' v' a1 w' le vr (hh1.toBase (hh1.rel.lessU hless)) htm
    | some b =>
      have hal' : alAt al i = some b := by have := tr.als i s hs; rw [Nat.zero_add, hal] at this; exact this.symm
      obtain ⟨x, hx, hx1, hx2⟩ := alAt_some hal'
      have hstep := tr.step i s hs
      have hn := fun {x : Tmp} (hx : x ∈ namesOf ops s.o) => names_at hr tr hcl hs hL0 hd hx
      have hgate : Gate ops s.o (cvL (lst listed) 0 S t) s.run := by
        rcases hstep.gate with ⟨hg, hrun⟩ | ⟨j, want, d, b', hg, hdst, hb, hrun⟩
        · exact .inl ⟨hg, hrun⟩
        · refine .inr ⟨j, want, d, b', hg, hdst, ?_, hrun⟩
          have hxd : d ∈ namesOf ops s.o := by
            unfold namesOf
            rw [hg]
            simp only [List.mem_append]
            exact .inr (by rw [hdst]; simp)
          rw [hn hxd]; exact hb
      have hwant := gate_wanted hgate hh
      have hstill : hvL P (addL (lst listed) i) 0 S H = hvL P (lst listed) 0 S H := heap_still hs (by simp [Stp.e, hal])
      unfold wpOpIn
      have hops : ops[i]? = some s.o := by rw [hso]; exact ho
      simp only [hops, hwant]
      cases hrun : s.run with
      | false =>
        simp only [Bool.false_eq_true, if_false]
        refine ⟨fun f _ => hF.fn f, next ρ undef a w ρ.le_refl (by rw [(hstep.no hrun).1]; exact .any _) ?_ rfl⟩
        rw [hstill]; exact hh.toBase (hh.rel.lessU hless)
      | true =>
        simp only [if_true]
        obtain ⟨hv, _⟩ := hstep.made hrun b hal
        obtain ⟨o', e', ho', hop', hz⟩ := ha.op x hx
        have hoo : o' = s.o := by rw [hx1, hops] at ho'; simpa using ho'.symm
        subst hoo
        obtain ⟨te, hget⟩ := al_state tr ha hcl hx (by rw [hx1]; exact hL0)
        obtain ⟨zv, z1, z2, z3⟩ := zeroOf_some hz
        obtain ⟨r1, r2, r3⟩ := hh.rel.fill (b := b) (x := .cells x.2.2 te) (U := (w0.with al (addL (lst listed) i)).U) (.inr ⟨x, hx, hx2, by rw [hx1]; exact hL0⟩) (by rw [← hx2]; exact hget) (.cells zv.cells e' (0, 0)) zv.cells.size
          ⟨zv.cells, e', (0, 0), rfl, rfl, by rw [← z2]; simp, fun k hk => by
            have hk' : k < zv.cells.toList.length := by rw [z2]; exact hk
            rw [arr_getD, z2, Nat.zero_add]
            exact (VRs.clean z3).2 k hk, fun _ k _ => by omega⟩ (fun c' hc' => ⟨hless c' hc', fun ec => by
              subst ec
              rcases hc' with hc' | ⟨y, hy, e1, e2⟩
              · exact hnu x hx (by rw [hx2]; exact hc')
              · have := ha.inj x hx y hy (by rw [hx2, e1])
                subst this
                simp [addL, hx1] at e2⟩)
        have hrunA : (execOp a.eval s.o).run P w = .ok (.value (.pointer (some ⟨w.heap.size, 0, none⟩))) (w.alloc (.cells zv.cells e' (0, 0))) := by
          have := (alloc_run (P := P) (w := w) z1)
          generalize s.o = oo at hop'
          obtain ⟨dst, op, type, pos, after, guard⟩ := oo
          simp only at hop'; subst hop'
          exact this
        refine wpIn_of_run hF (fun c e => by rw [hop'] at e; cases e) hrunA (.inl rfl) (next _ _ a _ r2 (by rw [hv]; exact .ptr b 0 _ r3) ?_ rfl)
        rw [hstill]
        exact ⟨r1, hh.tmps.mono r2, hh.ds.mono r2, hh.len⟩
end
/-- A region. -/
def RegOK (P : Program) (w0 : Base) (c : Ctx) (ops : Array Oper) (draw : Bool) (st : St) (H : CH) (st' : St) (H' : CH) : Prop :=
  ∀ ρ a w F (id : Nat), Here w0 ρ c st H a w → Open F → RR ρ c.round F.round → ∀ (Q : Exit → Act → World → Prop),
    (∀ ρ' a' w', ρ.le ρ' → Here w0 ρ' c st' H' a' w' → Sm (dsts ops.toList) a a' → Q .normal a' w') → (Code.region id ops draw).wpIn F 0 P Q a w
theorem iregion_ok (hC : ∀ U f args H v H', O.call f args H = some (v, H') → CallOK P ⟨w0.w, U⟩ f args H v H') (hR : ∀ U l args H v H', O.round l args H = some (v, H') → RoundOK P ⟨w0.w, U⟩ l args H v H') (hm : P.follows .mixedOrders = true)
    {c : Ctx} {ops : Array Oper} {draw : Bool} {st : St} {H : CH} {R : Type} {K : St → CH → Option R} {r : R} (h : iregion P O c ops draw st H K = some r) :
    ∃ st' H', K st' H' = some r ∧ (∀ x, x ∉ dsts ops.toList → st'.t.getD x undef = st.t.getD x undef) ∧ st'.t.length = st.t.length ∧ RegOK P w0 c ops draw st H st' H' := by
  unfold iregion at h
  cases draw with
  | true =>
    simp only [cond_true] at h
    have hf : lst (Array.replicate ops.size false) = fun _ => false := by
      funext j
      simp only [lst, Array.getD]
      split <;> simp
    -- the run from reserved blocks on
    have main : ∀ (al : List (Nat × Nat × List Value)) (G : CH), RegF P al ops → AlOK P ops al G → (∀ {w0 : Base} {ρ : Map} {w : World}, Rel w0 ρ H w → (∀ x ∈ al, ¬ w0.U x.2.1) ∧ Rel ⟨w0.w, fun b => w0.U b ∨ ∃ x ∈ al, x.2.1 = b⟩ ρ G w) →
        iopsD P O c ops (Region.before ops) al 0 ops.toList ⟨[], []⟩ st G K = some r →
        ∃ st' H', K st' H' = some r ∧ (∀ x, x ∉ dsts ops.toList → st'.t.getD x undef = st.t.getD x undef) ∧ st'.t.length = st.t.length ∧ RegOK P w0 c ops true st H st' H' := by
      intro al G hr ha hres h
      obtain ⟨t, ds⟩ := st
      obtain ⟨S, tr, hk⟩ := iopsD_trace ops.toList 0 _ t G hr.nod h
      refine ⟨_, _, hk, fun x hx => ?_, by simp [cvL_length], fun ρ a w F id hh hF hrr Q hq => ?_⟩
      · have := cvL_get (L := fun _ => true) (L' := fun _ => false) (x := x) (S := S) (i := 0) (t := t) (t' := t) (fun k s hs he => by
          exfalso; apply hx
          have := tr.at' hs
          unfold dsts
          rw [List.mem_filterMap]
          exact ⟨s.o, by simpa using Array.mem_of_getElem? this, he⟩) rfl rfl
        rw [cvL_none (L := fun _ => false) (fun _ _ => rfl)] at this
        exact this
      · refine wpIn_region_any hm ?_
        obtain ⟨hnu, hrel⟩ := hres hh.rel.drew
        refine any_ok (w0 := w0) hC hR hr ha hnu tr ops.size _ ρ a a _ F Q (Sm.refl _ _) (by simp) ?_ ?_ ?_ hF hrr hq
        · rw [hf]; intro k hk; cases hk
        · exact Nat.le_trans (List.length_filter_le _ _) (by simp)
        · rw [hf, cvL_none (L := fun _ => false) (fun _ _ => rfl), hvL_none (L := fun _ => false) (fun _ _ _ _ => rfl)]
          refine ⟨hrel.lessU fun b hb => ?_, hh.tmps, hh.ds, hh.len⟩
          rcases hb with hb | ⟨x, hx, e, _⟩
          · exact .inl hb
          · exact .inr ⟨x, hx, e⟩
    cases hok : regOk P false ops with
    | true =>
      rw [hok, cond_true] at h
      refine main [] H (regOk_spec hok (fun e => by cases e)) ⟨fun x hx => (by cases hx), fun x hx => (by cases hx), fun x hx => (by cases hx), fun x hx => by cases hx⟩ (fun hr => ⟨fun x hx => (by cases hx), hr.lessU fun b hb => ?_⟩) h
      rcases hb with hb | ⟨x, hx, _⟩
      · exact hb
      · cases hx
    | false =>
      rw [hok, cond_false] at h
      cases hok2 : regOk P true ops with
      | false => rw [hok2] at h; cases h
      | true =>
        rw [hok2, cond_true] at h
        simp only [Option.bind_eq_some_iff] at h
        obtain ⟨⟨al, G⟩, hq, h⟩ := h
        obtain ⟨q1, q2, q3, q4, q5, q6, q7⟩ := reserve_spec _ _ _ _ _ hq
        refine main al G (regOk_spec hok2 fun _ i o ho hp hn => ?_) ⟨fun x hx => (q3 x hx).2.2.2.1, fun x hx => ?_, q4, q5⟩ (fun hr => ⟨fun x hx hu => ?_, q7 hr⟩) h
        · obtain ⟨x, hx, ex⟩ := q6 i o (by simpa using ho) hp
          exact alAt_none hn x hx (by omega)
        · obtain ⟨o, e, h1, h2, h3⟩ := (q3 x hx).2.2.2.2
          exact ⟨o, e, by simpa using h1, h2, h3⟩
        · have := (hr.un _ hu).2.1
          have := (q3 x hx).2.1
          omega
  | false =>
    simp only [cond_false] at h
    obtain ⟨st', H', hk, sl, ln, ok⟩ := iops_ok (hC w0.U) (hR w0.U) _ _ _ _ _ h
    refine ⟨st', H', hk, sl, ln, fun ρ a w F id hh hF hrr Q hq => ?_⟩
    refine wpIn_region ?_
    have := ok ρ a w F 0 hh hF hrr (fun j o ho => by simpa using ho) Q hq
    simpa using this

theorem getD_set (t : List Value) (d x : Nat) (v : Value) : (t.set d v).getD x undef = if d = x ∧ x < t.length then v else t.getD x undef := by
  simp only [List.getD_eq_getElem?_getD, List.getElem?_set]
  by_cases e : d = x
  · subst e
    by_cases h : d < t.length
    · simp [h]
    · simp [h]
  · simp [e]
/-- A frame of which less is told. -/
theorem Here.weak {ρ : Map} {c : Ctx} {st st' : St} {H : CH} {a : Act} {w : World} (h : Here w0 ρ c st H a w) (hl : st'.t.length = st.t.length) (hd : st'.ds = st.ds) (hx : ∀ x, st'.t.getD x undef = undef ∨ st'.t.getD x undef = st.t.getD x undef) : Here w0 ρ c st' H a w := by
  refine ⟨h.rel, ⟨by rw [hl]; exact h.tmps.1, fun k hk => ?_⟩, by rw [hd]; exact h.ds, by rw [hl]; exact h.len⟩
  rcases hx k with e | e
  · rw [e]; exact .any _
  · rw [e]; exact h.tmps.get k
end
end Go.Cn
