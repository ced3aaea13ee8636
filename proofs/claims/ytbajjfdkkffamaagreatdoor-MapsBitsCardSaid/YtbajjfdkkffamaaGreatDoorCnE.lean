/- The pure operations and the looks into memory: the machine comes to what the canonical run comes to. -/
import Derived.Test.YtbajjfdkkffamaaGreatDoorCnB
import Derived.Test.YtbajjfdkkffamaaGreatDoorCnD
import Derived.Laws.Cells
import Derived.Laws.Entries
import Derived.Laws.StructEq
namespace Go.Cn
set_option linter.unusedVariables false
set_option linter.unusedSimpArgs false
section base
variable {P : Program} {w : World} {t : TypeId}
theorem run_und {d : TypeDesc} (h : P.underlying t = some d) : (underlying t).run P w = .ok d w := run_underlying h w
theorem run_tinfo {i : TypeInfo} (h : P.info? t = some i) : (typeInfo t).run P w = .ok i w := by simp [typeInfo, h]
theorem run_siz {n : Nat} (h : szOf P t = some n) : (sizeOf t).run P w = .ok n w := by
  simp only [szOf, Option.map_eq_some_iff] at h
  obtain ⟨i, hi, rfl⟩ := h
  simp [sizeOf, run_tinfo hi]
theorem run_agg {g : Bool} (h : aggOf P t = some g) : (isAgg t).run P w = .ok g w := by
  simp only [aggOf, Option.map_eq_some_iff] at h
  obtain ⟨d, hd, rfl⟩ := h
  simp only [isAgg, Sem.run_bind, run_und hd, Result.andThen_ok]
  cases d <;> rfl
theorem run_zer {z : Value} (h : (P.info? t).bind (·.zero) = some z) : (zeroValue t).run P w = .ok z w := by
  simp only [Option.bind_eq_some_iff] at h
  obtain ⟨i, hi, hz⟩ := h
  simp [zeroValue, run_tinfo hi, hz]
theorem lay_some {g : Bool} {n : Nat} (h : lay P t = some (g, n)) : aggOf P t = some g ∧ szOf P t = some n := by
  simp only [lay, Option.bind_eq_some_iff, Option.map_eq_some_iff] at h
  obtain ⟨g', h1, n', h2, h3⟩ := h
  simp at h3
  obtain ⟨rfl, rfl⟩ := h3
  exact ⟨h1, h2⟩
end base

/-! ### Values -/
section vals
variable {ρ : Map}
theorem VR.clean {v : Value} (h : clean v = true) : VR ρ v v := by
  unfold Cn.clean at h
  split at h <;> first
    | exact .bool _
    | exact .int _ _
    | exact .float _ _
    | exact .string _
    | exact .nilPtr
    | exact .nilSlice _
    | exact .nilMap
    | exact .nilFunc
    | exact .nilIface
    | cases h
theorem VRs.clean {l : List Value} (h : l.all clean = true) : VRs ρ l l := by
  induction l with
  | nil => exact VRs.nil ρ
  | cons v l ih =>
    simp only [List.all_cons, Bool.and_eq_true] at h
    exact VRs.cons (VR.clean h.1) (ih h.2)
theorem ev_rel (hG : GlobOK ρ) {ts : List Value} {a : Act} (h : VRs ρ ts a.tmps.toList) (x : Operand) : VR ρ (ev ts x) (a.eval x) := by
  cases x with
  | tmp i =>
    have := h.get i
    simp only [ev, Act.eval]
    rw [arr_getD]; exact this
  | const v =>
    simp only [ev, Act.eval]
    split
    · exact VR.clean ‹_›
    · exact .any _
  | global g =>
    simp only [ev, Act.eval]
    cases hg : Nat.blt g gN with
    | true =>
      obtain ⟨N, e⟩ := hG g (by simpa [Nat.blt_eq] using hg)
      have := VR.ptr (ρ := ρ) g 0 ⟨g, 0, N⟩ e
      simpa using this
    | false => exact .any _
  | func f => exact VR.func' (fun l => by simp) (VRs.nil ρ) (VRs.nil ρ)
theorem VR.asB {v v' : Value} {b : Bool} (h : VR ρ v v') (e : asB v = some b) : v' = .bool b := by
  unfold Cn.asB at e
  split at e
  · cases e; exact h.bool_inv
  · cases e
theorem VR.asP {v v' : Value} {a : Addr} (h : VR ρ v v') (e : asP v = some a) : ∃ i, ρ a.block = some i ∧ a.spot = none ∧ v' = .pointer (some ⟨i.x, a.off + i.d, none⟩) := by
  unfold Cn.asP at e
  split at e
  · cases e; exact h.ptr_inv
  · cases e
theorem VR.asI {v v' : Value} {n : Int} (h : VR ρ v v') (e : asI v = some n) : ∃ k, v' = .int k n := by
  unfold Cn.asI at e
  split at e
  · cases e; exact ⟨_, h.int_inv⟩
  · cases e
theorem VR.cellsOf {v v' : Value} {l : List Value} (h : VR ρ v v') (e : cellsOf v = some l) : VRs ρ l v'.cells.toList := by
  unfold Cn.cellsOf at e
  split at e
  · cases e
    obtain ⟨c', rfl, hc⟩ := h.agg_inv
    exact hc
  · cases e
  · rename_i h1 h2
    cases e
    have : v'.cells = #[v'] := by
      cases h <;> first | rfl | (exact absurd rfl (h2 _)) | (exact absurd rfl (h1 _))
    rw [this]
    exact VRs.cons h (VRs.nil ρ)
theorem VR.isCell {v v' : Value} (h : VR ρ v v') (e : isCell v = true) : v'.oneCell' = true := by
  cases h <;> first | rfl | (simp [Cn.isCell] at e)
theorem VR.mkAgg {l : List Value} {c' : Array Value} (h : VRs ρ l c'.toList) : VR ρ (.agg ⟨l⟩) (.agg c') := VR.agg' h
/-- A part of cells. -/
theorem run_part {P : Program} {w : World} {t : TypeId} {g : Bool} {n off : Nat} {l : List Value} {c' : Array Value} {v : Value} (hg : aggOf P t = some g) (hn : szOf P t = some n)
    (h : VRs ρ l c'.toList) (e : partOf g off n l = some v) : ∃ v', (part t c' off).run P w = .ok v' w ∧ VR ρ v v' := by
  unfold partOf at e
  cases g with
  | true =>
    simp only [if_true] at e
    split at e
    · cases e
      refine ⟨.agg (c'.extract off (off + n)), by simp [part, run_agg hg, run_siz hn], VR.agg' ?_⟩
      have : (c'.extract off (off + n)).toList = (c'.toList.drop off).take n := by simp [Array.toList_extract, List.extract_eq_take_drop]
      rw [this]
      exact (h.drop off).take n
    · cases e
  | false =>
    simp only [Bool.false_eq_true, if_false] at e
    have hlt : off < l.length := by
      rcases Nat.lt_or_ge off l.length with h' | h'
      · exact h'
      · rw [List.getElem?_eq_none h'] at e; cases e
    have hlt' : off < c'.size := by have := h.1; simp at this; omega
    refine ⟨c'[off], by simp [part, run_agg hg, hlt'], ?_⟩
    have := h.2 off hlt
    rw [List.getD_eq_getElem?_getD, e, List.getD_eq_getElem?_getD] at this
    simpa [hlt'] using this
end vals

/-! ### Equality -/
section eq
variable {P : Program} {ρ : Map} {w : World}
theorem cEq_run : ∀ (d : Nat) (t : TypeId) (x y x' y' : Value) (b : Bool), cEq P d t x y = some b → VR ρ x x' → VR ρ y y' → (Op.equalIn d t x' y').run P w = .ok b w
  | 0, _, _, _, _, _, _, h, _, _ => by simp [cEq] at h
  | d + 1, t, x, y, x', y', b, h, hx, hy => by
    unfold cEq at h
    split at h
    · rename_i a c hu
      cases h; rw [hx.bool_inv, hy.bool_inv]; simp [Op.equalIn, run_und hu]
    · rename_i k a k' c hu
      split at h
      · cases h; rename_i hk; subst hk; rw [hx.int_inv, hy.int_inv]; simp [Op.equalIn, run_und hu]
      · cases h
    · rename_i a c hu
      cases h; rw [hx.string_inv, hy.string_inv]; simp [Op.equalIn, run_und hu]
    · rename_i e c hu
      cases h; rw [hx.nilPtr_inv]
      cases c with
      | none => rw [hy.nilPtr_inv]; simp [Op.equalIn, run_und hu]
      | some c => obtain ⟨i, _, _, rfl⟩ := hy.ptr_inv; simp [Op.equalIn, run_und hu]
    · rename_i e c hu
      cases h; rw [hy.nilPtr_inv]; obtain ⟨i, _, _, rfl⟩ := hx.ptr_inv; simp [Op.equalIn, run_und hu]
    · rename_i e _ _ c _ _ hu
      cases h
      obtain ⟨a1, k1, rfl, _, e1⟩ := hx.slice_len
      obtain ⟨a2, k2, rfl, _, e2⟩ := hy.slice_len
      cases a1 with
      | none => simp [Op.equalIn, run_und hu, e2]
      | some a1 => cases e1
    · rename_i e _ _ _ _ _ hu
      cases h
      obtain ⟨a1, k1, rfl, _, e1⟩ := hx.slice_len
      obtain ⟨a2, k2, rfl, _, e2⟩ := hy.slice_len
      cases a1 with
      | none => cases e1
      | some a1 => cases a2 with
        | none => simp [Op.equalIn, run_und hu]
        | some a2 => cases e2
    · rename_i kt e c hu
      cases h; rw [hx.nilMap_inv]
      cases c with
      | none => rw [hy.nilMap_inv]; simp [Op.equalIn, run_und hu]
      | some c => obtain ⟨i, _, rfl⟩ := hy.map_inv; simp [Op.equalIn, run_und hu]
    · rename_i kt e c hu
      cases h; rw [hy.nilMap_inv]; obtain ⟨i, _, rfl⟩ := hx.map_inv; simp [Op.equalIn, run_und hu]
    · rename_i ps rs v hu
      cases h; cases hx; cases hy; simp [Op.equalIn, run_und hu]
    · rename_i ps rs v _ _ _ hu
      cases h; cases hx; cases hy <;> simp [Op.equalIn, run_und hu]
    · rename_i ps rs v _ _ _ hu
      cases h; cases hy; cases hx <;> simp [Op.equalIn, run_und hu]
    · rename_i fs xs ys hu
      split at h
      · cases h
      · rename_i hst
        obtain ⟨xs', rfl, hxs⟩ := hx.agg_inv
        obtain ⟨ys', rfl, hys⟩ := hy.agg_inv
        have hf : P.fieldsOf t = fs := by simp [Program.fieldsOf, hu]
        rw [run_equalIn_struct (P := P) w d t xs' ys' (by rw [hf]; exact hu) (by simpa using hst), hf]
        generalize fs.toList = l at h ⊢
        clear hu hf
        induction l generalizing b with
        | nil => simp only [eqParts] at h; cases h; simp [Op.eqFields]
        | cons g r ih =>
          simp only [eqParts] at h
          split at h
          · cases h
          · rename_i hn
            simp only [Option.bind_eq_some_iff, Option.map_eq_some_iff] at h
            obtain ⟨ga, h1, n, h2, u, h3, v, h4, b1, h5, b2, h6, rfl⟩ := h
            obtain ⟨u', r1, v1⟩ := run_part (w := w) h1 h2 hxs h3
            obtain ⟨v', r2, v2⟩ := run_part (w := w) h1 h2 hys h4
            have r3 := cEq_run d g.type u v u' v' b1 h5 v1 v2
            have hn' : g.name ≠ "_" := by simpa using hn
            simp only [Op.eqFields, if_pos hn', Sem.run_bind, r1, r2, r3, Result.andThen_ok]
            cases b1
            · simp
            · simp only [Bool.not_true, Bool.false_eq_true, if_false, Bool.true_and]; exact ih b2 h6
    · cases h
end eq
end Go.Cn
