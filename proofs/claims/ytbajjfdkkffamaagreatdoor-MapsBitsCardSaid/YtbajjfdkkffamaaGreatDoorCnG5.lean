/- Maps written; what turns memory, all; calls. -/
import Derived.Test.YtbajjfdkkffamaaGreatDoorCnG4
namespace Go.Cn
set_option linter.unusedVariables false
set_option linter.unusedSimpArgs false
section
variable {P : Program} {w0 : Base} {w : World} {ρ : Map} {H : CH}
theorem setObj_run {r : Nat} {o q : Obj} (h : w.heap[r]? = some o) (hc : ∀ c e f, o ≠ .cells c e f) : (setObj r q).run P w = .ok () { w with heap := w.heap.setIfInBounds r q } := by
  simp only [setObj, Sem.run, h]
theorem ERs.setAt {es es' : List MapEntry} (h : ERs ρ es es') (i : Nat) {k k' v v' : Value} (hk : VR ρ k k') (hv : VR ρ v v') :
    ERs ρ (Cn.setAt es i k v) (es'.modify i fun e => { e with key := k', val := v' }) := by
  unfold Cn.setAt
  refine ⟨by simp [h.1], fun j hj => ?_⟩
  have hj' : j < es.length := by simpa using hj
  have hj2 : j < es'.length := by rw [← h.1]; exact hj'
  have := h.2 j hj'
  simp only [List.getD_eq_getElem?_getD, List.getElem?_eq_getElem hj', List.getElem?_eq_getElem hj2, Option.getD_some] at this
  simp only [List.getD_eq_getElem?_getD, List.getElem?_modify, List.getElem?_eq_getElem hj', List.getElem?_eq_getElem hj2]
  by_cases hij : i = j
  · simpa [hij] using ⟨hk, hv, this.2.2⟩
  · simpa [hij] using this
theorem ERs.push {es es' : List MapEntry} (h : ERs ρ es es') {k k' v v' : Value} {b : Nat} (hk : VR ρ k k') (hv : VR ρ v v') :
    ERs ρ (es ++ [{ key := k, val := v, born := b }]) (es' ++ [{ key := k', val := v', born := b }]) := by
  refine ⟨by simp [h.1], fun j hj => ?_⟩
  simp only [List.getD_eq_getElem?_getD]
  by_cases hj' : j < es.length
  · rw [List.getElem?_append_left hj', List.getElem?_append_left (by rw [← h.1]; exact hj')]
    simpa only [List.getD_eq_getElem?_getD] using h.2 j hj'
  · have : j = es.length := by simp at hj; omega
    subst this
    rw [List.getElem?_append_right (Nat.le_refl _), List.getElem?_append_right (by rw [← h.1]; exact Nat.le_refl _), ← h.1]
    simpa using ⟨hk, hv⟩
theorem sameBits_key {d : TypeDesc} {k e : Value} (h : Instr.sameNow d k e = some true) (n : Nat) : Instr.sameBits n e k = true := by
  unfold Instr.sameNow at h
  split at h
  · split at h
    · rename_i hk; subst hk; simp at h; subst h; cases n <;> simp [Instr.sameBits]
    · cases h
  · rename_i a b
    have h' : (a == b) = true := by injection h
    rw [beq_toListBytes] at h'
    have h2 : (b == a) = true := by rw [beq_toListBytes]; simp at h' ⊢; exact h'.symm
    cases n <;> simp [Instr.sameBits, h2]
  · simp at h; subst h; cases n <;> simp [Instr.sameBits]
  · cases h
theorem mapSet_done (h : Rel w0 ρ H w) {t : TypeId} {m k v m' k' v' : Value} {H' : CH} (hm : VR ρ m m') (hk : VR ρ k k') (hv : VR ρ v v') (hs : cMapSet P t m k v H = some H') : DoneU P w0 ρ (Instr.mapUpdate t m' k' v') w H' := by
  unfold cMapSet at hs
  split at hs
  · rename_i kt et hu
    simp only [Option.bind_eq_some_iff] at hs
    obtain ⟨d, hd, hs⟩ := hs
    simp only [mapSet, Option.bind_eq_some_iff] at hs
    obtain ⟨r0, hr0, r, hr, hs⟩ := hs
    subst hr
    obtain ⟨i, hi, rfl⟩ := asM_inv hm hr0
    split at hs
    · cases hs
    · rename_i hc
      have hkey : isKey d k = true := by
        cases e : isKey d k
        · simp [e] at hc
        · rfl
      have hlim : H.lim ≤ r := by
        rcases Nat.lt_or_ge r H.lim with h' | h'
        · simp [h'] at hc
        · exact h'
      have hk' : k' = k := hk.of_clean (isKey_clean hkey)
      subst hk'
      split at hs
      · rename_i es cl hg
        simp only [Option.bind_eq_some_iff] at hs
        obtain ⟨q, hq, hs⟩ := hs
        obtain ⟨es', hh, hE⟩ := h.mapAt hi hg
        obtain ⟨q', r1, mm⟩ := findE_run es es'.toList 0 q hE hq
        have hfk : (Instr.findKey kt k' es'.toList).run P w = .ok q' w := by simp [Instr.findKey, run_und hd, r1]
        have hget := getObj_run (P := P) hh (by simp)
        cases q with
        | none =>
          cases q' with
          | some y => exact mm.elim
          | none =>
            cases hs
            refine ⟨{ w with heap := w.heap.setIfInBounds i.x (.map (es'.push { key := k', val := v', born := cl }) (cl + 1)) }, ρ, ?_, ρ.le_refl, ?_⟩
            · simp only [Instr.mapUpdate, Sem.run_bind, run_und hu, Result.andThen_ok, hget, checkKey_run hd hkey, hfk, setObj_run hh (by simp)]
            · exact h.write (y := .map _ _) hg hlim hi _ ⟨_, rfl, by simpa using hE.push hk hv⟩ rfl rfl rfl rfl
        | some x =>
          cases q' with
          | none => exact mm.elim
          | some y =>
            obtain ⟨j, u⟩ := x
            obtain ⟨j', u'⟩ := y
            obtain ⟨rfl, m2, m3, m4, e2, m5, m6, m7⟩ := mm
            cases hs
            have hjl : j < es.length := by simpa using m4
            have hjl' : j < es'.size := by have := hE.1; simp at this; omega
            have hkey2 : (((es'[j]?).map (·.key)).getD k') = e2.key := by
              have := (hE.2 j hjl).1
              simp only [Nat.sub_zero] at m5
              simp only [List.getD_eq_getElem?_getD, m5, Option.getD_some] at this
              rw [List.getElem?_eq_getElem (by simpa using hjl')] at this
              simp only [Option.getD_some] at this
              simp only [Array.getElem?_eq_getElem hjl', Option.map_some, Option.getD_some]
              exact this.of_clean m6
            have hstay : (Instr.keyThatStays (((es'[j]?).map (·.key)).getD k') k').run P w = .ok k' w := by
              rw [hkey2]
              simp [Instr.keyThatStays, sameBits_key m7]
            refine ⟨{ w with heap := w.heap.setIfInBounds i.x (.map (es'.modify j fun e => { e with key := k', val := v' }) cl) }, ρ, ?_, ρ.le_refl, ?_⟩
            · simp only [Instr.mapUpdate, Sem.run_bind, run_und hu, Result.andThen_ok, hget, checkKey_run hd hkey, hfk, hstay, setObj_run hh (by simp)]
            · exact h.write (y := .map _ _) hg hlim hi _ ⟨_, rfl, by simpa using hE.setAt j hk hv⟩ rfl rfl rfl rfl
      · cases hs
  · cases hs

/-! ### All that turns memory -/
/-- Is it a call of a function? -/
def isCall : Op → Bool
  | .call { callee := .value _, .. } => true
  | _ => false
theorem eff_run {O : Orc} (h : Rel w0 ρ H w) {ts : List Value} {a : Act} (hv : VRs ρ ts a.tmps.toList) (o : Oper) {v : Value} {H' : CH} (hnc : isCall o.op = false) (he : effOf P O ts o.op H = some (v, H')) :
    Done P w0 ρ (execOp a.eval o) w v H' := by
  have hG := h.glob
  obtain ⟨dst, op, type, pos, after, guard⟩ := o
  cases op
  case alloc e =>
    simp only [effOf, Option.bind_eq_some_iff] at he
    obtain ⟨z, hz, he⟩ := he
    have e1 : (newV H e z).1 = v ∧ (newV H e z).2 = H' := by cases he; exact ⟨rfl, rfl⟩
    rw [← e1.1, ← e1.2]
    exact (alloc_done h hz).done
  case box e x =>
    simp only [effOf, Option.bind_eq_some_iff] at he
    obtain ⟨l, hl, he⟩ := he
    have e1 : (newV H e l).1 = v ∧ (newV H e l).2 = H' := by cases he; exact ⟨rfl, rfl⟩
    rw [← e1.1, ← e1.2]
    exact (box_done h (ev_rel hG hv x) hl).done
  case buildSlice t n ps =>
    simp only [effOf] at he
    obtain ⟨hl, hp⟩ := parts_rel hG hv ps.toList
    have := (buildSlice_done h hl hp he).done
    have e : (ps.map fun (i, x) => (i, a.eval x)) = (ps.toList.map fun (i, x) => (i, a.eval x)).toArray := by
      apply Array.toList_inj.1; simp
    simp only [execOp]
    rw [e]; exact this
  case store t x y =>
    simp only [effOf, Option.map_eq_some_iff] at he
    obtain ⟨H2, hs, he⟩ := he
    cases he
    exact (store_done h (ev_rel hG hv x) (ev_rel hG hv y) hs).done
  case convert s d x =>
    simp only [effOf] at he
    exact (toBytes_done h (ev_rel hG hv x) he).done
  case makeMap t r =>
    cases r with
    | none =>
      simp only [effOf] at he
      cases he
      exact (makeMap_done h t).done
    | some r => simp only [effOf] at he; cases he
  case makeSlice t l c =>
    simp only [effOf] at he
    exact (makeSlice_done h (ev_rel hG hv l) (ev_rel hG hv c) he).done
  case mapUpdate t m k x =>
    simp only [effOf, Option.map_eq_some_iff] at he
    obtain ⟨H2, hs, he⟩ := he
    cases he
    exact (mapSet_done h (ev_rel hG hv m) (ev_rel hG hv k) (ev_rel hG hv x) hs).done
  case insert t m k x =>
    simp only [effOf, Option.map_eq_some_iff] at he
    obtain ⟨H2, hs, he⟩ := he
    cases he
    exact (mapSet_done h (ev_rel hG hv m) (ev_rel hG hv k) (ev_rel hG hv x) hs).done
  case call c =>
    obtain ⟨callee, args, argTypes⟩ := c
    have hcall : ∀ b, callee = .builtin b → (execOp a.eval { dst, op := .call { callee, args, argTypes }, type, pos, after, guard }) =
        builtin b argTypes type (args.map fun | .const _ => true | _ => false) (args.map a.eval) := fun b e => by subst e; rfl
    cases callee with
    | value f => simp [isCall] at hnc
    | invoke r m => simp only [effOf] at he; cases he
    | builtin b =>
      rw [hcall b rfl]
      have fin : ∀ (F : Array TypeId → TypeId → Array Value → Sem Value), (∀ ts ty (as bs : Array Value), as[0]? = bs[0]? → as[1]? = bs[1]? → F ts ty as = F ts ty bs) →
          (∀ x y, VR ρ (ev ts (args.getD 0 (.const undef))) x → VR ρ (ev ts (args.getD 1 (.const undef))) y → DoneV P w0 ρ (F argTypes type #[x, y]) w v H') → 2 ≤ args.size →
          DoneV P w0 ρ (F argTypes type (args.map a.eval)) w v H' := fun F hF hD hsz => by
        have g0 : 0 < args.size := by omega
        have g1 : 1 < args.size := by omega
        have e0 : args.getD 0 (.const undef) = args[0]'g0 := by simp [Array.getD, g0]
        have e1 : args.getD 1 (.const undef) = args[1]'g1 := by simp [Array.getD, g1]
        have := hD (a.eval (args[0]'g0)) (a.eval (args[1]'g1)) (by rw [e0]; exact ev_rel hG hv _) (by rw [e1]; exact ev_rel hG hv _)
        rw [hF argTypes type (args.map a.eval) #[a.eval (args[0]'g0), a.eval (args[1]'g1)] (by simp [g0]) (by simp [g1])]
        exact this
      have size2 : (ev ts (args.getD 1 (.const undef))) ≠ undef → 2 ≤ args.size := fun hne => by
        rcases Nat.lt_or_ge 1 args.size with h' | h'
        · exact h'
        · exact absurd (undef_getD args 1 h') hne
      cases b with
      | append =>
        simp only [effOf] at he
        refine (fin Builtin.append_ (fun ts ty as bs h0 h1 => ?_) (fun x y hx hy => append_done h hx hy he) (size2 ?_)).done
        · simp only [Builtin.append_, h0, h1]
        · intro e
          rw [e] at he
          simp only [cAppend, Option.bind_eq_some_iff] at he
          obtain ⟨d0, _, he⟩ := he
          split at he
          · simp only [Option.bind_eq_some_iff] at he
            obtain ⟨xt, _, he⟩ := he
            split at he
            · simp only [Option.bind_eq_some_iff, appendN, srcCells, undef] at he
              obtain ⟨_, _, _, hh, _⟩ := he
              cases hh
            · split at he
              · simp only [Option.bind_eq_some_iff, appendZ, undef] at he
                obtain ⟨_, _, _, _, hh⟩ := he
                cases hh
              · cases he
          · cases he
      | copy =>
        simp only [effOf] at he
        refine (fin Builtin.copy_ (fun ts ty as bs h0 h1 => ?_) (fun x y hx hy => copy_done h hx hy he) (size2 ?_)).done
        · simp only [Builtin.copy_, h0, h1]
        · intro e
          rw [e] at he
          unfold cCopy at he
          split at he
          · simp only [Option.bind_eq_some_iff, copyN, srcCells, undef] at he
            obtain ⟨_, _, _, hh, _⟩ := he
            cases hh
          · cases he
      | _ => simp only [effOf] at he; cases he
  all_goals (simp only [effOf] at he; cases he)
end
end Go.Cn
