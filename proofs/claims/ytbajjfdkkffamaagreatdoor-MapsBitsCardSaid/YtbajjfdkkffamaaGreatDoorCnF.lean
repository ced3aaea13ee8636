/- The looks into memory. -/
import Derived.Test.YtbajjfdkkffamaaGreatDoorCnE5
namespace Go.Cn
set_option linter.unusedVariables false
set_option linter.unusedSimpArgs false
section
variable {P : Program} {w0 : Base} {w : World} {ρ : Map} {H : CH}
/-- The cells behind a related address. -/
theorem Rel.cellsAt (h : Rel w0 ρ H w) {b o n : Nat} {vs : List Value} (hm : ∃ i, ρ b = some i) (hl : H.loadN ⟨b, o, none⟩ n = some vs) : ∃ i c' e' fz, ρ b = some i ∧ w.heap[i.x]? = some (.cells c' e' fz) ∧ c'.size = i.N ∧
    o + i.d + n ≤ c'.size ∧ vs.length = n ∧ VRs ρ vs ((c'.toList.drop (o + i.d)).take n) ∧ (H.lim ≤ b → ∀ k, k < c'.size → ¬ (fz.1 ≤ k ∧ k < fz.2)) := by
  unfold CH.loadN at hl
  split at hl
  · rename_i c e hb
    split at hl
    · rename_i hc
      cases hl
      simp only [true_and] at hc
      obtain ⟨i, hi, c', e', fz, h1, h2, h3, h4, h5⟩ := h.obj b _ hb hm
      refine ⟨i, c', e', fz, hi, h1, h2, by omega, by simp; omega, ⟨by simp; omega, fun k hk => ?_⟩, h5⟩
      have hk' : k < n := by simp at hk; omega
      have := h4 (o + k) (by omega)
      simp only [List.getD_eq_getElem?_getD, List.getElem?_take_of_lt hk', List.getElem?_drop] at this ⊢
      rw [arr_getD, List.getD_eq_getElem?_getD] at this
      rw [show o + i.d + k = i.d + (o + k) by omega]
      exact this
    · cases hl
  · cases hl
theorem run_loadAt {x o n : Nat} {c' : Array Value} {e' : TypeId} {fz : Nat × Nat} (hh : w.heap[x]? = some (.cells c' e' fz)) (hle : o + n ≤ c'.size) :
    (loadCells ⟨x, o, none⟩ n).run P w = .ok ((c'.toList.drop o).take n).toArray w := by
  have hcell : ∀ j, j < n → w.cell? ((⟨x, o, none⟩ : Addr).add j) = some (((c'.toList.drop o).take n).getD j undef) := fun j hj => by
    rw [addr_add]
    simp only [World.cell?, hh, Option.isSome_none, Bool.false_eq_true, if_false]
    have hlt : o + j < c'.size := by omega
    simp only [List.getD_eq_getElem?_getD, List.getElem?_take_of_lt hj, List.getElem?_drop]
    simp [hlt]
  rw [run_loadCells w ⟨x, o, none⟩ n _ hcell]
  congr 2
  apply List.ext_getElem?
  intro m
  by_cases hm : m < n
  · have hlt : m < ((c'.toList.drop o).take n).length := by simp; omega
    simp only [List.getElem?_map, List.getElem?_range hm, Option.map_some]
    rw [List.getD_eq_getElem?_getD, List.getElem?_eq_getElem hlt]
    simp
  · rw [List.getElem?_eq_none (by simp; omega), List.getElem?_eq_none (by simp; omega)]
theorem Rel.loadN (h : Rel w0 ρ H w) {a : Addr} {i : Img} {n : Nat} {vs : List Value} (hi : ρ a.block = some i) (hs : a.spot = none) (hl : H.loadN a n = some vs) :
    ∃ vs', (loadCells ⟨i.x, a.off + i.d, none⟩ n).run P w = .ok vs' w ∧ VRs ρ vs vs'.toList := by
  obtain ⟨b, o, s⟩ := a
  simp only at hs; subst hs
  obtain ⟨i', c', e', fz, h1, h2, h3, h4, h5, h6, _⟩ := h.cellsAt ⟨_, hi⟩ hl
  simp only at hi
  rw [hi] at h1; cases h1
  exact ⟨_, run_loadAt h2 h4, by simpa using h6⟩
theorem loadV_run (h : Rel w0 ρ H w) {t : TypeId} {x x' v : Value} (hx : VR ρ x x') (hl : loadV P t x H = some v) : ∃ v', (Instr.loadAt t x').run P w = .ok v' w ∧ VR ρ v v' := by
  simp only [loadV, Option.bind_eq_some_iff] at hl
  obtain ⟨⟨g, n⟩, hlay, hl⟩ := hl
  obtain ⟨hg, hn⟩ := lay_some hlay
  cases g with
  | true =>
    simp only [if_true, ldN, Option.bind_eq_some_iff, Option.map_eq_some_iff] at hl
    obtain ⟨a, ea, l, hl, rfl⟩ := hl
    obtain ⟨i, hi, hs, rfl⟩ := hx.asP ea
    obtain ⟨vs', r, vr⟩ := h.loadN (P := P) hi hs hl
    exact ⟨.agg vs', by simp [Instr.loadAt, Instr.sureAddr, loadVar, run_agg hg, run_siz hn, r], VR.agg' vr⟩
  | false =>
    simp only [Bool.false_eq_true, if_false, ld1, Option.bind_eq_some_iff] at hl
    obtain ⟨a, ea, l, hl, hv⟩ := hl
    obtain ⟨i, hi, hs, rfl⟩ := hx.asP ea
    obtain ⟨b, o, s⟩ := a
    simp only at hs; subst hs
    obtain ⟨i', c', e', fz, h1, h2, h3, h4, h5, h6, _⟩ := h.cellsAt ⟨_, hi⟩ hl
    simp only at hi
    rw [hi] at h1; cases h1
    have hlt : o + i.d < c'.size := by omega
    refine ⟨c'[o + i.d], ?_, ?_⟩
    · simp [Instr.loadAt, Instr.sureAddr, loadVar, run_agg hg, World.cell?, h2, hlt]
    · have := h6.2 0 (by omega)
      rw [List.getD_eq_getElem?_getD, List.getD_eq_getElem?_getD, List.getElem?_take_of_lt (by omega), List.getElem?_drop] at this
      cases l with
      | nil => simp at h5
      | cons u l =>
        simp only [List.head?_cons, Option.some.injEq] at hv
        subst hv
        simpa [hlt] using this
/-! ### Maps -/
theorem getObj_run {r : Nat} {o : Obj} (h : w.heap[r]? = some o) (hc : ∀ c e f, o ≠ .cells c e f) : (getObj r).run P w = .ok o w := by
  simp only [getObj, Sem.run, h]
theorem Rel.mapAt (h : Rel w0 ρ H w) {r : Nat} {i : Img} {es : List MapEntry} {cl : Nat} (hi : ρ r = some i) (hm : H.get r = some (.map es cl)) : ∃ es', w.heap[i.x]? = some (.map es' cl) ∧ ERs ρ es es'.toList := by
  obtain ⟨i', hi', es', h1, h2⟩ := h.obj r _ hm ⟨_, hi⟩
  rw [hi] at hi'; cases hi'
  exact ⟨es', h1, h2⟩
theorem keyEq_some {d : TypeDesc} {k e : Value} {b : Bool} (h : keyEq d k e = some b) : Instr.sameNow d k e = some b ∧ clean k = true ∧ clean e = true := by
  unfold keyEq at h
  split at h
  · split at h
    · cases h; rename_i hk; subst hk; exact ⟨by simp [Instr.sameNow], rfl, rfl⟩
    · cases h
  · cases h; exact ⟨rfl, rfl, rfl⟩
  · cases h; exact ⟨rfl, rfl, rfl⟩
  · cases h
theorem VR.of_clean {v v' : Value} (h : VR ρ v v') (hc : Cn.clean v = true) : v' = v := by
  cases h <;> first | rfl | (simp [Cn.clean] at hc; done) | skip
  · rename_i c
    unfold Cn.clean at hc
    cases c with
    | zero => rfl
    | succ c => simp at hc
theorem findE_run {d : TypeDesc} {k : Value} : ∀ (es es' : List MapEntry) (i : Nat) (q : Option (Nat × Value)), ERs ρ es es' → findE d k es i = some q →
    ∃ q', Instr.findNow d k es' i = some q' ∧ (match q, q' with
      | none, none => True
      | some (j, v), some (j', v') => j = j' ∧ VR ρ v v' ∧ i ≤ j ∧ j - i < es.length ∧ (∃ e, es[j - i]? = some e ∧ clean e.key = true ∧ Instr.sameNow d k e.key = some true)
      | _, _ => False)
  | [], es', i, q, hes, h => by
    cases h
    have : es' = [] := by have := hes.1; cases es' with | nil => rfl | cons a b => simp at this
    subst this
    exact ⟨none, rfl, trivial⟩
  | e :: es, es', i, q, hes, h => by
    cases es' with
    | nil => have := hes.1; simp at this
    | cons e' es' =>
      have h0 := hes.2 0 (by simp)
      simp only [List.getD_cons_zero] at h0
      simp only [findE, Option.bind_eq_some_iff] at h
      obtain ⟨b, hb, h⟩ := h
      obtain ⟨s1, c1, c2⟩ := keyEq_some hb
      have hk : e'.key = e.key := h0.1.of_clean c2
      have hrest : ERs ρ es es' := ⟨by have := hes.1; simpa using this, fun k hk => by simpa using hes.2 (k + 1) (by simp; omega)⟩
      cases b with
      | true =>
        simp only [if_true] at h
        cases h
        refine ⟨some (i, e'.val), by simp [Instr.findNow, hk, s1], rfl, h0.2.1, Nat.le_refl _, by simp, e, by simp, c2, s1⟩
      | false =>
        simp only [Bool.false_eq_true, if_false] at h
        obtain ⟨q', r, m⟩ := findE_run es es' (i + 1) q hrest h
        refine ⟨q', by simp [Instr.findNow, hk, s1, r], ?_⟩
        cases q with
        | none => cases q' with | none => trivial | some y => exact m.elim
        | some x =>
          cases q' with
          | none => exact m.elim
          | some y =>
            obtain ⟨j, v⟩ := x
            obtain ⟨j', v'⟩ := y
            obtain ⟨m1, m2, m3, m4, e2, m5, m6, m7⟩ := m
            refine ⟨m1, m2, by omega, by simp; omega, e2, ?_, m6, m7⟩
            rw [show j - i = (j - (i + 1)) + 1 by omega]
            simpa using m5
theorem isKey_clean {d : TypeDesc} {k : Value} (h : isKey d k = true) : clean k = true := by
  unfold isKey at h
  split at h <;> first | rfl | cases h
theorem checkKey_run {d : TypeDesc} {kt : TypeId} {k : Value} {em : Bool} (hu : P.underlying kt = some d) (h : isKey d k = true) : (Instr.checkKey em 10000 kt k).run P w = .ok () w := by
  have key : ∀ n, (Instr.checkKey em (n + 1) kt k).run P w = .ok () w := fun n => by
    unfold isKey at h
    split at h
    · simp [Instr.checkKey, run_und hu]
    · simp [Instr.checkKey, run_und hu]
    · simp [Instr.checkKey, run_und hu]
    · cases h
  exact key 9999
theorem zeroV_some {t : TypeId} {z : Value} (h : zeroV P t = some z) : (P.info? t).bind (·.zero) = some z ∧ VR ρ z z := by
  unfold zeroV at h
  rw [Option.bind_eq_some_iff] at h
  obtain ⟨zv, hz, h⟩ := h
  by_cases hc : zv.cells.toList.all clean = true ∧ notTuple zv = true
  · rw [if_pos hc] at h
    cases h
    refine ⟨by simpa [Option.bind_eq_some_iff] using hz, ?_⟩
    obtain ⟨h1, h2⟩ := hc
    cases z with
    | agg c => exact VR.agg' (VRs.clean h1)
    | tuple c => simp [notTuple] at h2
    | _ => exact VR.clean (by simpa [Value.cells] using h1)
  · rw [if_neg hc] at h; cases h
theorem asM_inv {v v' : Value} {r : Option Nat} (hx : VR ρ v v') (e : asM v = some r) : match r with
    | none => v' = .map none
    | some r => ∃ i, ρ r = some i ∧ v' = .map (some i.x) := by
  unfold asM at e
  split at e
  · cases e
    cases r with
    | none => exact hx.nilMap_inv
    | some r => exact hx.map_inv
  · cases e
def lkTail (kt et : TypeId) (k : Value) (ok : Bool) (es : Array MapEntry) : Sem Value := do
  Instr.checkKey es.isEmpty 10000 kt k
  let (v, ok') ← match ← Instr.findKey kt k es.toList with
    | some (_, v) => pure (v, true)
    | none => pure (← zeroValue et, false)
  pure (if ok then .tuple #[v, .bool ok'] else v)
theorem cLookup_run (h : Rel w0 ρ H w) {t : TypeId} {x k x' k' v : Value} {ok : Bool} (hx : VR ρ x x') (hk : VR ρ k k') (hl : cLookup P t x k ok H = some v) :
    ∃ v', (Instr.lookup t x' k' ok).run P w = .ok v' w ∧ VR ρ v v' := by
  unfold cLookup at hl
  split at hl
  · rename_i kt et hu
    simp only [Option.bind_eq_some_iff] at hl
    obtain ⟨d, hd, z, hz, hl⟩ := hl
    obtain ⟨hz1, hz2⟩ := zeroV_some (ρ := ρ) hz
    unfold lookupM at hl
    split at hl
    · cases hl
    · rename_i hkey
      have hkey : isKey d k = true := by simpa using hkey
      have hk' : k' = k := hk.of_clean (isKey_clean hkey)
      subst hk'
      simp only [Option.bind_eq_some_iff] at hl
      obtain ⟨r, hr, es, hes, q, hq, hl⟩ := hl
      have okvr : ∀ (v u : Value) (b : Bool), VR ρ v u → VR ρ (okV ok v b) (if ok then .tuple #[u, .bool b] else u) := fun v u b hv => by
        unfold okV
        cases ok with
        | true => simp only [if_true]; exact VR.tuple' (VRs.cons hv (VRs.cons (.bool b) (VRs.nil ρ)))
        | false => exact hv
      have fin : ∀ (es' : Array MapEntry), ERs ρ es es'.toList → ∃ v', (lkTail kt et k' ok es').run P w = .ok v' w ∧ VR ρ v v' := fun es' hE => by
        obtain ⟨q', r1, m⟩ := findE_run es es'.toList 0 q hE hq
        have hfk : (Instr.findKey kt k' es'.toList).run P w = .ok q' w := by simp [Instr.findKey, run_und hd, r1]
        simp only [lkTail, Sem.run_bind, checkKey_run hd hkey, Result.andThen_ok, hfk]
        cases q with
        | none =>
          cases q' with
          | none => cases hl; exact ⟨_, by simp only [Sem.run_bind, run_zer hz1, Result.andThen_ok, Sem.run_pure], okvr z z false hz2⟩
          | some y => exact m.elim
        | some xx =>
          cases q' with
          | none => exact m.elim
          | some y =>
            obtain ⟨jj, vv⟩ := xx
            obtain ⟨j, u⟩ := y
            simp only [Option.some.injEq] at hl
            subst hl
            exact ⟨_, rfl, okvr vv u true m.2.1⟩
      have hm := asM_inv hx hr
      cases r with
      | none =>
        simp only at hm; subst hm
        cases hes
        have hE : ERs ρ [] (#[] : Array MapEntry).toList := ⟨rfl, fun k hk => by simp at hk⟩
        obtain ⟨v', e1, e2⟩ := fin #[] hE
        refine ⟨v', ?_, e2⟩
        rw [← e1]
        simp only [Instr.lookup, lkTail, Sem.run_bind, run_und hu, Result.andThen_ok, Sem.run_pure]
        rfl
      | some r =>
        obtain ⟨i, hi, rfl⟩ := hm
        simp only [mapEs] at hes
        split at hes
        · rename_i es2 cl hg
          cases hes
          obtain ⟨es', hh, hE⟩ := h.mapAt hi hg
          obtain ⟨v', e1, e2⟩ := fin es' hE
          refine ⟨v', ?_, e2⟩
          rw [← e1]
          simp only [Instr.lookup, lkTail, Sem.run_bind, run_und hu, Result.andThen_ok, Sem.run_pure, getObj_run hh (by simp)]
          rfl
        · cases hes
  · cases hl
end
end Go.Cn
