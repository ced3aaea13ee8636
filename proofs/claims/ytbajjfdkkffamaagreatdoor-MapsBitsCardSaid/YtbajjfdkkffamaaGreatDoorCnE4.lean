/- The pure operations, all. -/
import Derived.Test.YtbajjfdkkffamaaGreatDoorCnE3
namespace Go.Cn
set_option linter.unusedVariables false
set_option linter.unusedSimpArgs false
section
variable {P : Program} {ρ : Map} {w : World}
theorem fieldA_vr {off : Nat} {x x' v : Value} (hx : VR ρ x x') (h : fieldA off x = some v) : ∃ a : Addr, x' = .pointer (some a) ∧ a.spot = none ∧ VR ρ v (.pointer (some (a.add off))) := by
  simp only [fieldA, Option.bind_eq_some_iff] at h
  obtain ⟨a, ea, h⟩ := h
  obtain ⟨i, hb, hs, rfl⟩ := hx.asP ea
  obtain ⟨ab, ao, as⟩ := a
  simp only at hs; subst hs
  cases h
  refine ⟨_, rfl, rfl, ?_⟩
  rw [addr_add]
  exact VR.ptr' hb off
theorem cFieldAddr_run {t : TypeId} {x x' v : Value} {f : Nat} (hx : VR ρ x x') (h : cFieldAddr P t x f = some v) : ∃ v', (Instr.fieldAt t x' f).run P w = .ok v' w ∧ VR ρ v v' := by
  unfold cFieldAddr at h
  split at h
  · rename_i fs hu
    simp only [Option.bind_eq_some_iff] at h
    obtain ⟨g, hg, n, hn, h⟩ := h
    split at h
    · cases h
    · rename_i h0
      obtain ⟨a, rfl, hs, vr⟩ := fieldA_vr hx h
      exact ⟨_, by simp [Instr.fieldAt, Instr.sureAddr, run_und hu, hg, fieldPlace, run_siz hn, h0], vr⟩
  · cases h
theorem partV_run {t : TypeId} {g : Bool} {n off : Nat} {x x' v : Value} (hg : aggOf P t = some g) (hn : szOf P t = some n) (hx : VR ρ x x') (h : partV g off n x = some v) :
    ∃ c' v', x' = .agg c' ∧ (part t c' off).run P w = .ok v' w ∧ VR ρ v v' := by
  unfold partV at h
  split at h
  · obtain ⟨c', rfl, hc⟩ := hx.agg_inv
    obtain ⟨v', r, vr⟩ := run_part (w := w) hg hn hc h
    exact ⟨c', v', rfl, r, vr⟩
  · cases h
theorem cField_run {t : TypeId} {x x' v : Value} {f : Nat} (hx : VR ρ x x') (h : cField P t x f = some v) : ∃ v', (Instr.field t x' f).run P w = .ok v' w ∧ VR ρ v v' := by
  unfold cField at h
  split at h
  · rename_i fs hu
    simp only [Option.bind_eq_some_iff] at h
    obtain ⟨g, hg, ⟨a, n⟩, hl, h⟩ := h
    obtain ⟨ha, hn⟩ := lay_some hl
    obtain ⟨c', v', rfl, r, vr⟩ := partV_run (w := w) ha hn hx h
    exact ⟨v', by simp [Instr.field, run_und hu, hg, asAgg, r], vr⟩
  · cases h
theorem cIndexAddr_run {t : TypeId} {x x' j j' v : Value} (hx : VR ρ x x') (hj : VR ρ j j') (h : cIndexAddr P t x j = some v) : ∃ v', (Instr.indexAt t x' j').run P w = .ok v' w ∧ VR ρ v v' := by
  unfold cIndexAddr at h
  split at h
  · rename_i e hu
    simp only [Option.bind_eq_some_iff] at h
    obtain ⟨n, hn, h⟩ := h
    unfold idxSl at h
    split at h
    · rename_i a len cap
      simp only [Option.bind_eq_some_iff] at h
      obtain ⟨i, ei, h⟩ := h
      obtain ⟨k, rfl⟩ := hj.asI ei
      split at h
      · rename_i hb
        cases h
        have goal : ∀ (b o : Nat) (im : Img) (cap' : Nat), ρ b = some im → a = ⟨b, o, none⟩ → x' = .slice (some ⟨im.x, o + im.d, none⟩) len cap' →
            ∃ v', (Instr.indexAt t x' (.int k i)).run P w = .ok v' w ∧ VR ρ (.pointer (some (addA a (i.toNat * n)))) v' := fun b o im cap' hρ ea ex => by
          subst ea; subst ex
          exact ⟨_, by simp [Instr.indexAt, asIntOf, run_und hu, run_siz hn, hb, addr_add], VR.ptr' hρ _⟩
        cases hx with
        | sliceOf b o im _ k' hρ hk => exact goal b o im k' hρ rfl rfl
        | sliceIn b o im _ s k' hρ hk hN => exact goal b o im k' hρ rfl rfl
        | sliceOut => omega
        | sliceOut1 => omega
      · cases h
    · cases h
  · rename_i len e hu
    simp only [Option.bind_eq_some_iff, idxArr] at h
    obtain ⟨n, hn, a, ea, i, ei, h⟩ := h
    obtain ⟨k, rfl⟩ := hj.asI ei
    obtain ⟨im, hb, hs, rfl⟩ := hx.asP ea
    obtain ⟨ab, ao, as⟩ := a
    simp only at hs; subst hs
    split at h
    · rename_i hbd
      cases h
      exact ⟨_, by simp [Instr.indexAt, asIntOf, Instr.sureAddr, run_und hu, run_siz hn, hbd, addr_add], VR.ptr' hb _⟩
    · cases h
  · cases h
theorem cIndex_run {t : TypeId} {x x' j j' v : Value} (hx : VR ρ x x') (hj : VR ρ j j') (h : cIndex P t x j = some v) : ∃ v', (Instr.index t x' j').run P w = .ok v' w ∧ VR ρ v v' := by
  unfold cIndex at h
  split at h
  · rename_i len e hu
    simp only [Option.bind_eq_some_iff, idxAgg] at h
    obtain ⟨⟨a, n⟩, hl, i, ei, h⟩ := h
    obtain ⟨ha, hn⟩ := lay_some hl
    obtain ⟨k, rfl⟩ := hj.asI ei
    split at h
    · rename_i hb
      obtain ⟨c', v', rfl, r, vr⟩ := partV_run (w := w) ha hn hx h
      exact ⟨v', by simp [Instr.index, asIntOf, run_und hu, run_siz hn, hb, r], vr⟩
    · cases h
  · rename_i hu
    unfold idxStr at h
    split at h
    · rename_i s
      rw [hx.string_inv]
      simp only [Option.bind_eq_some_iff] at h
      obtain ⟨i, ei, h⟩ := h
      obtain ⟨k, rfl⟩ := hj.asI ei
      split at h
      · rename_i h0
        simp only [Option.map_eq_some_iff] at h
        obtain ⟨b, hb, rfl⟩ := h
        refine ⟨_, ?_, .int _ _⟩
        have hb' : s[i.toNat]? = some b := by
          have hlt : i.toNat < s.data.size := by
            rcases Nat.lt_or_ge i.toNat s.data.size with h' | h'
            · exact h'
            · rw [Array.getElem?_eq_none h'] at hb; cases hb
          have hlt' : i.toNat < s.size := hlt
          rw [Array.getElem?_eq_getElem hlt] at hb
          rw [getElem?_pos s i.toNat hlt']
          exact hb
        simp [Instr.index, asIntOf, run_und hu, h0, hb']
      · cases h
    · cases h
  · cases h
theorem cExtract_run {x x' v : Value} {i : Nat} (hx : VR ρ x x') (h : cExtract x i = some v) : ∃ v', (Instr.extract x' i).run P w = .ok v' w ∧ VR ρ v v' := by
  unfold cExtract at h
  split at h
  · rename_i c
    have hne : c ≠ #[] := by rintro rfl; simp at h
    obtain ⟨c', rfl, hc⟩ := hx.tuple_inv hne
    have hlt : i < c.size := by
      rcases Nat.lt_or_ge i c.size with h' | h'
      · exact h'
      · rw [Array.getElem?_eq_none h'] at h; cases h
    have hlt' : i < c'.size := by have := hc.1; simp at this; omega
    refine ⟨c'[i], by simp [Instr.extract, hlt'], ?_⟩
    have := hc.2 i (by simpa using hlt)
    rw [List.getD_eq_getElem?_getD, List.getD_eq_getElem?_getD] at this
    simp only [Array.getElem?_toList, h, Option.getD_some] at this
    simpa [hlt'] using this
  · cases h
theorem cConv_run {s d : TypeId} {x x' v : Value} (hx : VR ρ x x') (h : cConv P s d x = some v) : ∃ v', (convert s d x').run P w = .ok v' w ∧ VR ρ v v' := by
  unfold cConv at h
  split at h
  · rename_i ds k h1 h2
    simp only [convInt, Option.map_eq_some_iff] at h
    obtain ⟨n, en, rfl⟩ := h
    obtain ⟨k', rfl⟩ := hx.asI en
    refine ⟨_, ?_, .int _ _⟩
    simp only [convert, Sem.run_bind, run_und h1, run_und h2, Result.andThen_ok]
    rfl
  · rename_i h1 h2
    unfold convStr at h
    split at h
    · cases h
      rw [hx.string_inv]
      refine ⟨_, ?_, .string _⟩
      simp only [convert, Sem.run_bind, run_und h1, run_und h2, Result.andThen_ok]
      rfl
    · cases h
  · cases h

/-! ### A composite -/
theorem foldl_zip_set (v : List Value) : ∀ (off k : Nat) (cs : Array Value), off + k + v.length ≤ cs.size →
    ((v.zipIdx k).foldl (fun cs (c, j) => cs.setIfInBounds (off + j) c) cs).toList = CH.splice cs.toList (off + k) v := by
  induction v with
  | nil => intro off k cs _; simp [CH.splice]
  | cons x v ih =>
    intro off k cs hle
    simp only [List.zipIdx_cons, List.foldl_cons]
    simp only [List.length_cons] at hle
    rw [ih off (k + 1) _ (by simp; omega)]
    apply List.ext_getElem?
    intro m
    have e1 : ∀ (l : List Value) (i : Nat) (vs : List Value), i + vs.length ≤ l.length → (CH.splice l i vs)[m]? = if i ≤ m ∧ m < i + vs.length then vs[m - i]? else l[m]? := by
      intro l i vs hl
      simp only [CH.splice]
      by_cases h1 : m < i
      · rw [List.append_assoc, List.getElem?_append_left (by simp; omega), List.getElem?_take_of_lt h1, if_neg (by omega)]
      · by_cases h2 : m < i + vs.length
        · rw [List.append_assoc, List.getElem?_append_right (by simp; omega), List.getElem?_append_left (by simp; omega), if_pos ⟨by omega, h2⟩]
          have : (l.take i).length = i := by simp; omega
          rw [this]
        · have : (l.take i ++ vs).length = i + vs.length := by simp; omega
          rw [List.getElem?_append_right (by omega), List.getElem?_drop, if_neg (by omega), this]
          have h3 : i + vs.length + (m - (i + vs.length)) = m := by omega
          rw [h3]
    rw [e1 _ _ _ (by simp; omega), e1 _ _ _ (by simp; omega)]
    simp only [Array.toList_setIfInBounds, List.length_cons, List.getElem?_set]
    by_cases hm : off + k ≤ m ∧ m < off + k + (v.length + 1)
    · rw [if_pos hm]
      by_cases hm' : off + (k + 1) ≤ m ∧ m < off + (k + 1) + v.length
      · rw [if_pos hm']
        have : m - (off + k) = (m - (off + (k + 1))) + 1 := by omega
        rw [this]; rfl
      · have hmk : m = off + k := by omega
        subst hmk
        rw [if_neg hm', if_pos rfl, if_pos (by simp; omega)]
        simp
    · rw [if_neg hm, if_neg (by omega), if_neg (by omega)]
theorem VRs.splice {l l' vs vs' : List Value} (h : VRs ρ l l') (i : Nat) (hv : VRs ρ vs vs') : VRs ρ (CH.splice l i vs) (CH.splice l' i vs') := by
  unfold CH.splice
  rw [← hv.1]
  exact ((h.take i).append hv).append (h.drop _)
theorem fill_rel {place : Nat → Option (Nat × Nat)} : ∀ (parts parts' : List (Nat × Value)) (cells : List Value) (cells' : Array Value) (l : List Value),
    parts.length = parts'.length → (∀ k, k < parts.length → ((parts'.getD k (0, undef)).1 = (parts.getD k (0, undef)).1 ∧ VR ρ (parts.getD k (0, undef)).2 (parts'.getD k (0, undef)).2)) →
    VRs ρ cells cells'.toList → fillParts place cells parts = some l → ∃ c', Instr.fill place cells' parts' = some c' ∧ VRs ρ l c'.toList
  | [], parts', cells, cells', l, hl, _, hc, h => by
    cases parts' with
    | nil => cases h; exact ⟨cells', rfl, hc⟩
    | cons p r => simp at hl
  | (i, v) :: r, parts', cells, cells', l, hl, hp, hc, h => by
    cases parts' with
    | nil => simp at hl
    | cons p r' =>
      obtain ⟨i', v'⟩ := p
      have h0 := hp 0 (by simp)
      simp only [List.getD_cons_zero] at h0
      obtain ⟨rfl, hv⟩ := h0
      simp only [fillParts, Option.bind_eq_some_iff] at h
      obtain ⟨⟨off, size⟩, hpl, vs, hvs, h⟩ := h
      split at h
      · rename_i hb
        have hvc := hv.cellsOf hvs
        have hsz : v'.cells.size = size := by have := hvc.1; simp at this; omega
        have hcs : cells.length = cells'.size := by have := hc.1; simpa using this
        have hfold := foldl_zip_set v'.cells.toList off 0 cells' (by simp; omega)
        have hc2 : VRs ρ (CH.splice cells off vs) (v'.cells.zipIdx.foldl (fun cs (c, j) => cs.setIfInBounds (off + j) c) cells').toList := by
          have : v'.cells.zipIdx.foldl (fun cs (c, j) => cs.setIfInBounds (off + j) c) cells' = (v'.cells.toList.zipIdx 0).foldl (fun cs (c, j) => cs.setIfInBounds (off + j) c) cells' := by
            rw [← Array.foldl_toList, Array.toList_zipIdx]
          rw [this, hfold]
          simpa using hc.splice off hvc
        obtain ⟨c', hf, hr⟩ := fill_rel r r' _ _ l (by simpa using hl) (fun k hk => by simpa using hp (k + 1) (by simp; omega)) hc2 h
        refine ⟨c', ?_, hr⟩
        have hcond : (decide (v'.cells.size ≠ size) || decide (off + v'.cells.size > cells'.size)) = false := by
          have hb1 := hb.1
          have hb2 := hb.2
          simp
          omega
        simp only [Instr.fill, hpl, hcond, Bool.false_eq_true, if_false]
        exact hf
      · cases h
theorem zeroOf_some {t : TypeId} {z : List Value} (h : zeroOf P t = some z) : ∃ zv, (P.info? t).bind (·.zero) = some zv ∧ zv.cells.toList = z ∧ z.all clean = true := by
  simp only [zeroOf, Option.bind_eq_some_iff] at h
  obtain ⟨zv, hz, h⟩ := h
  split at h
  · cases h; exact ⟨zv, by simpa [Option.bind_eq_some_iff] using hz, rfl, ‹_›⟩
  · cases h
theorem run_mapM_places {P : Program} {w : World} : ∀ (fs : List Field), (∀ f, f ∈ fs → ∃ n, szOf P f.type = some n) →
    ∃ l, (fs.mapM (fun f => do pure (f.offset, ← sizeOf f.type) : Field → Sem (Nat × Nat))).run P w = .ok l w ∧ l = fs.map (fun f => (f.offset, (szOf P f.type).getD 0)) := by
  intro fs h
  induction fs with
  | nil => exact ⟨[], by simp, rfl⟩
  | cons f fs ih =>
    obtain ⟨n, hn⟩ := h f (by simp)
    obtain ⟨l, r, e⟩ := ih (fun g hg => h g (by simp [hg]))
    refine ⟨(f.offset, n) :: l, ?_, by simp [e, hn]⟩
    rw [List.mapM_cons]
    simp only [Sem.run_bind, run_siz hn, Result.andThen_ok, Sem.run_pure, r]
theorem cBuild_run {t : TypeId} {parts parts' : List (Nat × Value)} {v : Value} (hl : parts.length = parts'.length)
    (hp : ∀ k, k < parts.length → ((parts'.getD k (0, undef)).1 = (parts.getD k (0, undef)).1 ∧ VR ρ (parts.getD k (0, undef)).2 (parts'.getD k (0, undef)).2))
    (h : cBuild P t parts = some v) : ∃ v', (Instr.build t parts'.toArray).run P w = .ok v' w ∧ VR ρ v v' := by
  simp only [cBuild, Option.bind_eq_some_iff] at h
  obtain ⟨z, hz, h⟩ := h
  obtain ⟨zv, hz1, hz2, hz3⟩ := zeroOf_some hz
  have hzr : VRs ρ z zv.cells.toList := by rw [hz2]; exact VRs.clean hz3
  split at h
  · rename_i fs hu
    split at h
    · rename_i hfs
      simp only [Option.map_eq_some_iff] at h
      obtain ⟨l, hf, rfl⟩ := h
      have hall : ∀ f, f ∈ fs.toList → ∃ n, szOf P f.type = some n := fun f hm => Option.isSome_iff_exists.1 (List.all_eq_true.1 hfs f hm)
      obtain ⟨pl, r, e⟩ := run_mapM_places (P := P) (w := w) fs.toList hall
      have hplace : ∀ i, fieldPlaces P fs i = pl.toArray[i]? := by
        intro i
        simp only [fieldPlaces, e]
        cases hi : fs[i]? with
        | none => simp [hi]
        | some f =>
          have hm : f ∈ fs.toList := by
            have := Array.mem_of_getElem? hi
            simpa using this
          obtain ⟨n, hn⟩ := hall f hm
          simp [hi, hn]
      have hf' : fillParts (pl.toArray[·]?) z parts = some l := by
        have : fieldPlaces P fs = (pl.toArray[·]?) := funext hplace
        rw [← this]; exact hf
      obtain ⟨c', hc, hr⟩ := fill_rel parts parts' z zv.cells l hl hp hzr hf'
      refine ⟨.agg c', ?_, VR.agg' hr⟩
      have hr2 : (fs.mapM (fun f => do pure (f.offset, ← sizeOf f.type) : Field → Sem (Nat × Nat))).run P w = .ok pl.toArray w := by
        rw [Array.mapM_eq_mapM_toList]
        simp only [Sem.run_map, r, Result.andThen_ok]
      simp only [Instr.build, Sem.run_bind, run_zer hz1, run_und hu, Result.andThen_ok, hr2, hc, Sem.run_pure]
    · cases h
  · rename_i k e hu
    simp only [Option.bind_eq_some_iff, Option.map_eq_some_iff] at h
    obtain ⟨n, hn, l, hf, rfl⟩ := h
    obtain ⟨c', hc, hr⟩ := fill_rel parts parts' z zv.cells l hl hp hzr hf
    refine ⟨.agg c', ?_, VR.agg' hr⟩
    simp only [Instr.build, Sem.run_bind, run_zer hz1, run_und hu, Result.andThen_ok, run_siz hn, hc, Sem.run_pure]
  · cases h
end
end Go.Cn
