/- Regions, whole. -/
import Derived.Test.YtolbpklaniifhaaLCnJ3
namespace Go.Cn
set_option linter.unusedVariables false
set_option linter.unusedSimpArgs false
section
variable {P : Program} {O : Orc} {w0 : World}
section
variable {c : Ctx} {ops : Array Oper} {ds : List Deferred} {t : List Value} {H : CH} {S : List Stp} {acc : Acc}
abbrev lst (listed : Array Bool) : Nat → Bool := fun j => listed.getD j false
theorem cvL_all {L : Nat → Bool} (h : ∀ k, k < S.length → L k = true) : ∀ (S' : List Stp) (i : Nat) (t : List Value), S'.length + i ≤ S.length → cvL L i S' t = cvL (fun _ => true) i S' t
  | [], _, _, _ => rfl
  | s :: S', i, t, hl => by
    simp only [List.length_cons] at hl
    simp only [cvL, h i (by omega)]
    exact cvL_all h S' (i + 1) _ (by omega)
theorem lst_set {listed : Array Bool} {i : Nat} (hi : i < listed.size) : lst (listed.setIfInBounds i true) = addL (lst listed) i := by
  funext j
  simp only [lst, addL]
  by_cases e : i = j
  · subst e; simp [hi]
  · rw [getD_set_ne false e]
    have : (j == i) = false := by simp; omega
    simp [this]
theorem ready_nil (hr : RegF P ops) {listed : Array Bool} (hsz : listed.size = ops.size) (h : Region.ready .any ops listed = []) : ∀ j, j < ops.size → lst listed j = true := by
  intro j
  induction j using Nat.strongRecOn with
  | _ j ih =>
    intro hj
    refine bit_of fun hb => ?_
    have : j ∈ Region.ready .any ops listed := mem_ready.2 ⟨by
        have hj' : j < listed.size := by omega
        simp only [lst, Array.getD, hj', dif_pos] at hb ⊢; exact hb, ops[j], by simp [hj], fun e he hbd => by
        have hlt := hr.back j ops[j] (by simp [hj]) e he hbd
        exact ih e.on hlt (by omega)⟩
    rw [h] at this; cases this
theorem any_ok (hC : ∀ f args H v H', O.call f args H = some (v, H') → CallOK P w0 f args H v H') (hR : ∀ l args H v H', O.round l args H = some (v, H') → RoundOK P w0 l args H v H')
    (hr : RegF P ops) (tr : TrOK P O c ops ds (Region.before ops) 0 acc t H ops.toList S) : ∀ (fuel : Nat) (listed : Array Bool) (ρ : Map) (a : Act) (w : World) (F : Fence) (Q : Exit → Act → World → Prop),
      listed.size = ops.size → Closed ops (lst listed) → ((List.range ops.size).filter fun j => !listed.getD j true).length ≤ fuel → Here w0 ρ c ⟨cvL (lst listed) 0 S t, ds⟩ (hvL P (lst listed) 0 S H) a w → Open F → RR ρ c.round F.round →
      (∀ ρ' a' w', ρ.le ρ' → Here w0 ρ' c ⟨cvL (fun _ => true) 0 S t, ds⟩ (hvL P (fun _ => true) 0 S H) a' w' → Q .normal a' w') → wpAnyIn F 0 P .any ops Q fuel listed a w := by
  have hlen : S.length = ops.size := by have := congrArg List.length tr.os; simpa using this
  have fin : ∀ (listed : Array Bool) (ρ : Map) (a : Act) (w : World) (Q : Exit → Act → World → Prop), listed.size = ops.size → Here w0 ρ c ⟨cvL (lst listed) 0 S t, ds⟩ (hvL P (lst listed) 0 S H) a w →
      (∀ ρ' a' w', ρ.le ρ' → Here w0 ρ' c ⟨cvL (fun _ => true) 0 S t, ds⟩ (hvL P (fun _ => true) 0 S H) a' w' → Q .normal a' w') → Region.ready .any ops listed = [] → Q .normal a w := by
    intro listed ρ a w Q hsz hh hq hn
    have all := ready_nil hr hsz hn
    refine hq ρ a w ρ.le_refl ?_
    rw [← cvL_all (S := S) (L := lst listed) (fun k hk => all k (by omega)) S 0 t (by omega)]
    have : hvL P (fun _ => true) 0 S H = hvL P (lst listed) 0 S H := hvL_congr fun k s hk _ => by
      have : k < S.length := (List.getElem?_eq_some_iff.1 hk).1
      rw [Nat.zero_add]; exact (all k (by omega)).symm
    rw [this]; exact hh
  intro fuel
  induction fuel with
  | zero =>
    intro listed ρ a w F Q hsz hcl hcnt hh hF hrr hq
    have hn : Region.ready .any ops listed = [] := by
      apply List.eq_nil_iff_forall_not_mem.2
      intro i hi
      obtain ⟨h0, o, ho, _⟩ := mem_ready.1 hi
      have : i ∈ (List.range ops.size).filter fun j => !listed.getD j true := List.mem_filter.2 ⟨List.mem_range.2 (Array.getElem?_eq_some_iff.1 ho).1, by rw [h0]; rfl⟩
      rw [List.length_eq_zero_iff.1 (Nat.le_zero.1 hcnt)] at this
      cases this
    exact ⟨hn, fin listed ρ a w Q hsz hh hq hn⟩
  | succ fuel ih =>
    intro listed ρ a w F Q hsz hcl hcnt hh hF hrr hq
    refine ⟨fun hn => fin listed ρ a w Q hsz hh hq hn, fun i hi => ?_⟩
    obtain ⟨h0, o, ho, hdir⟩ := mem_ready.1 hi
    have hlt : i < ops.size := (Array.getElem?_eq_some_iff.1 ho).1
    have hL0 : lst listed i = false := by
      have : i < listed.size := by omega
      simp only [lst, Array.getD, this, dif_pos] at h0 ⊢; exact h0
    have hd : Direct ops (lst listed) i := fun o' ho' => by
      rw [ho] at ho'; simp only [Option.some.injEq] at ho'; subst ho'; exact hdir
    obtain ⟨s, hs⟩ : ∃ s, S[i]? = some s := ⟨S[i], by simp [hlen, hlt]⟩
    have hso : s.o = o := by have := tr.at' hs; rw [ho] at this; simpa using this.symm
    obtain ⟨h1, h2⟩ := op_at hr tr hcl hs hL0 hd
    obtain ⟨v, st', H', e, ht, ok⟩ := iguard_ok hC hR h1
    simp only [kk, Option.some.injEq, Prod.mk.injEq] at e
    obtain ⟨rfl, rfl, rfl⟩ := e
    refine ok ρ a w F i hh hF hrr (by rw [hso]; exact ho) _ Q fun ρ' v' a1 w' le vr hh1 _ => ?_
    have hset := lst_set (listed := listed) (i := i) (by omega)
    refine ih _ ρ' _ w' F Q (by simpa using hsz) ?_ ?_ ?_ hF (hrr.mono le) fun ρ'' a' w'' le' => hq ρ'' a' w'' (Map.le_trans le le')
    · rw [hset]
      intro k hk o' ho' e he hb
      have : lst listed e.on = true := by
        simp only [addL, Bool.or_eq_true, beq_iff_eq] at hk
        rcases hk with hk | rfl
        · exact hcl k hk o' ho' e he hb
        · exact hd o' ho' e he hb
      simp [addL, this]
    · have hmem : i ∈ (List.range ops.size).filter fun j => !listed.getD j true := List.mem_filter.2 ⟨List.mem_range.2 hlt, by rw [h0]; rfl⟩
      have hsub : ((List.range ops.size).filter fun j => !(listed.setIfInBounds i true).getD j true) = ((List.range ops.size).filter fun j => !listed.getD j true).filter fun j => !(listed.setIfInBounds i true).getD j true := by
        rw [List.filter_filter]
        apply List.filter_congr
        intro j hj
        by_cases e : i = j
        · subst e
          have : i < listed.size := by omega
          simp [this]
        · rw [getD_set_ne true e]; simp
      rw [hsub]
      have := (List.length_filter_lt_length_iff_exists (l := (List.range ops.size).filter fun j => !listed.getD j true) (p := fun j => !(listed.setIfInBounds i true).getD j true)).2 ⟨i, hmem, by
        have : i < listed.size := by omega
        simp [this]⟩
      omega
    · have hp := hh1.put s.o.dst vr
      rw [St.put_eq, h2] at hp
      rw [hset]
      first | exact hp | (rw [hso] at hp; exact hp)
end
/-- A region. -/
def RegOK (P : Program) (w0 : World) (c : Ctx) (ops : Array Oper) (draw : Bool) (st : St) (H : CH) (st' : St) (H' : CH) : Prop :=
  ∀ ρ a w F (id : Nat), Here w0 ρ c st H a w → Open F → RR ρ c.round F.round → ∀ (Q : Exit → Act → World → Prop),
    (∀ ρ' a' w', ρ.le ρ' → Here w0 ρ' c st' H' a' w' → Q .normal a' w') → (Code.region id ops draw).wpIn F 0 P Q a w
theorem iregion_ok (hC : ∀ f args H v H', O.call f args H = some (v, H') → CallOK P w0 f args H v H') (hR : ∀ l args H v H', O.round l args H = some (v, H') → RoundOK P w0 l args H v H') (hm : P.follows .mixedOrders = true)
    {c : Ctx} {ops : Array Oper} {draw : Bool} {st : St} {H : CH} {R : Type} {K : St → CH → Option R} {r : R} (h : iregion P O c ops draw st H K = some r) :
    ∃ st' H', K st' H' = some r ∧ (∀ x, x ∉ dsts ops.toList → st'.t.getD x undef = st.t.getD x undef) ∧ st'.t.length = st.t.length ∧ RegOK P w0 c ops draw st H st' H' := by
  unfold iregion at h
  cases draw with
  | true =>
    simp only [cond_true] at h
    cases hok : regOk P ops with
    | false => rw [hok] at h; cases h
    | true =>
      rw [hok, cond_true] at h
      have hr := regOk_spec hok
      obtain ⟨t, ds⟩ := st
      obtain ⟨S, tr, hk⟩ := iopsD_trace ops.toList 0 _ t H hr.nod h
      refine ⟨_, _, hk, fun x hx => ?_, by simp [cvL_length], fun ρ a w F id hh hF hrr Q hq => ?_⟩
      · have := cvL_get (L := fun _ => true) (L' := fun _ => false) (x := x) (S := S) (i := 0) (t := t) (t' := t) (fun k s hs he => by
          exfalso; apply hx
          have := tr.at' hs
          unfold dsts
          rw [List.mem_filterMap]
          exact ⟨s.o, by simpa using Array.mem_of_getElem? this, he⟩) rfl rfl
        rw [cvL_none (L := fun _ => false) (fun _ _ => rfl)] at this
        exact this
      · refine wpIn_region_any hm ?_
        have hf : lst (Array.replicate ops.size false) = fun _ => false := by
          funext j
          simp only [lst, Array.getD]
          split <;> simp
        refine any_ok hC hR hr tr ops.size _ ρ a _ F Q (by simp) ?_ ?_ ?_ hF hrr hq
        · rw [hf]; intro k hk; cases hk
        · exact Nat.le_trans (List.length_filter_le _ _) (by simp)
        · rw [hf, cvL_none (L := fun _ => false) (fun _ _ => rfl), hvL_none (L := fun _ => false) (fun _ _ _ _ => rfl)]
          exact ⟨hh.rel.drew, hh.tmps, hh.ds, hh.len⟩
  | false =>
    simp only [cond_false] at h
    obtain ⟨st', H', hk, sl, ln, ok⟩ := iops_ok hC hR _ _ _ _ _ h
    refine ⟨st', H', hk, sl, ln, fun ρ a w F id hh hF hrr Q hq => ?_⟩
    refine wpIn_region ?_
    have := ok ρ a w F 0 hh hF hrr (fun j o ho => by simpa using ho) Q hq
    simpa using this

theorem getD_set (t : List Value) (d x : Nat) (v : Value) : (t.set d v).getD x undef = if d = x ∧ x < t.length then v else t.getD x undef := by
  simp only [List.getD_eq_getElem?_getD, List.getElem?_set]
  by_cases e : d = x
  · subst e
    by_cases h : d < t.length
    · simp [h]
    · simp [h]
  · simp [e]
theorem clearAll_get (x : Nat) : ∀ (l : List Tmp) (t : List Value), (clearAll t l).length = t.length ∧ ((clearAll t l).getD x undef = undef ∨ (x ∉ l ∧ (clearAll t l).getD x undef = t.getD x undef))
  | [], t => ⟨rfl, .inr ⟨by simp, rfl⟩⟩
  | d :: l, t => by
    have := clearAll_get x l (t.set d undef)
    unfold clearAll at this ⊢
    rw [List.foldl_cons]
    refine ⟨by simpa using this.1, ?_⟩
    rcases this.2 with h | ⟨h1, h2⟩
    · exact .inl h
    · rw [getD_set] at h2
      split at h2
      · exact .inl h2
      · rename_i hn
        by_cases e : d = x
        · left
          subst e
          rw [h2]
          have : ¬ d < t.length := fun h => hn ⟨rfl, h⟩
          simp [List.getD_eq_getElem?_getD, List.getElem?_eq_none (Nat.le_of_not_lt this)]
        · exact .inr ⟨fun hm => (List.mem_cons.1 hm).elim (fun e' => e e'.symm) h1, h2⟩
theorem setAll_get (x : Nat) (t' : List Value) : ∀ (l : List Tmp) (t : List Value), (setAll t l (gather l t')).length = t.length ∧ ((setAll t l (gather l t')).getD x undef = t'.getD x undef ∨ (setAll t l (gather l t')).getD x undef = t.getD x undef)
  | [], t => ⟨rfl, .inr rfl⟩
  | d :: l, t => by
    have := setAll_get x t' l (t.set d (t'.getD d undef))
    simp only [gather, List.map_cons, setAll] at this ⊢
    refine ⟨by simpa using this.1, ?_⟩
    rcases this.2 with h | h
    · exact .inl h
    · rw [h, getD_set]
      split
      · rename_i e; left; rw [e.1]
      · exact .inr rfl
/-- A frame of which less is told. -/
theorem Here.weak {ρ : Map} {c : Ctx} {st st' : St} {H : CH} {a : Act} {w : World} (h : Here w0 ρ c st H a w) (hl : st'.t.length = st.t.length) (hd : st'.ds = st.ds) (hx : ∀ x, st'.t.getD x undef = undef ∨ st'.t.getD x undef = st.t.getD x undef) : Here w0 ρ c st' H a w := by
  refine ⟨h.rel, ⟨by rw [hl]; exact h.tmps.1, fun k hk => ?_⟩, by rw [hd]; exact h.ds, by rw [hl]; exact h.len⟩
  rcases hx k with e | e
  · rw [e]; exact .any _
  · rw [e]; exact h.tmps.get k
theorem iregionG_ok (hC : ∀ f args H v H', O.call f args H = some (v, H') → CallOK P w0 f args H v H') (hR : ∀ l args H v H', O.round l args H = some (v, H') → RoundOK P w0 l args H v H') (hm : P.follows .mixedOrders = true)
    {c : Ctx} {ops : Array Oper} {draw : Bool} {st : St} {H : CH} {R : Type} {K : St → CH → Option R} {r : R} (h : iregionG P O c ops draw st H K = some r) :
    ∃ st' H', K st' H' = some r ∧ RegOK P w0 c ops draw st H st' H' := by
  unfold iregionG at h
  cases hg : ops.toList.any (·.guard.isSome) with
  | false =>
    rw [hg] at h
    obtain ⟨st', H', hk, _, _, ok⟩ := iregion_ok hC hR hm h
    exact ⟨st', H', hk, ok⟩
  | true =>
    rw [hg, cond_true] at h
    simp only [Option.bind_eq_some_iff] at h
    obtain ⟨r1, h1, h2⟩ := h
    obtain ⟨st', H', hk, sl, ln, ok⟩ := iregion_ok hC hR hm h1
    simp only [Option.some.injEq] at hk
    subst hk
    refine ⟨_, _, h2, fun ρ a w F id hh hF hrr Q hq => ok ρ a w F id hh hF hrr Q fun ρ' a' w' le hh' => hq ρ' a' w' le (hh'.weak ?_ rfl fun x => ?_)⟩
    · simp only
      rw [(setAll_get 0 st'.t _ _).1, (clearAll_get 0 _ _).1, ln]
    · rcases (setAll_get x st'.t (sinks ops ops.toList) (clearAll st.t (dsts ops.toList))).2 with e | e
      · exact .inr e
      · rcases (clearAll_get x (dsts ops.toList) st.t).2 with e' | ⟨hn, e'⟩
        · left; exact e.trans e'
        · right; exact (e.trans e').trans (sl x hn).symm
end
end Go.Cn
