/- What makes memory, or writes it. -/
import Derived.Test.YtbajjfdkkffamaaGreatDoorCnF2
namespace Go.Cn
set_option linter.unusedVariables false
set_option linter.unusedSimpArgs false
section
variable {P : Program} {w0 : Base} {w : World} {ρ : Map} {H : CH}
/-- An operation has come to its end: so the canonical run stands to the machine. -/
def Done (P : Program) (w0 : Base) (ρ : Map) (s : Sem Next) (w : World) (v : Value) (H' : CH) : Prop :=
  ∃ nx w' ρ' v', s.run P w = .ok nx w' ∧ (nx = .value v' ∨ (nx = .skip ∧ v' = undef)) ∧ ρ.le ρ' ∧ Rel w0 ρ' H' w' ∧ VR ρ' v v'
def DoneV (P : Program) (w0 : Base) (ρ : Map) (s : Sem Value) (w : World) (v : Value) (H' : CH) : Prop :=
  ∃ w' ρ' v', s.run P w = .ok v' w' ∧ ρ.le ρ' ∧ Rel w0 ρ' H' w' ∧ VR ρ' v v'
def DoneU (P : Program) (w0 : Base) (ρ : Map) (s : Sem Unit) (w : World) (H' : CH) : Prop :=
  ∃ w' ρ', s.run P w = .ok () w' ∧ ρ.le ρ' ∧ Rel w0 ρ' H' w'
theorem DoneV.done {s : Sem Value} {v : Value} {H' : CH} (h : DoneV P w0 ρ s w v H') : Done P w0 ρ (do pure (.value (← s))) w v H' := by
  obtain ⟨w', ρ', v', r, l, q, vr⟩ := h
  exact ⟨.value v', w', ρ', v', by simp [r], .inl rfl, l, q, vr⟩
theorem DoneU.done {s : Sem Unit} {H' : CH} (h : DoneU P w0 ρ s w H') : Done P w0 ρ (do s; pure .skip) w undef H' := by
  obtain ⟨w', ρ', r, l, q⟩ := h
  exact ⟨.skip, w', ρ', undef, by simp [r], .inr ⟨rfl, rfl⟩, l, q, .any _⟩

/-- A row of cells is made. -/
theorem Rel.newCells (h : Rel w0 ρ H w) {c : List Value} {c' : Array Value} {e e' : TypeId} {fz : Nat × Nat} (hle : c.length ≤ c'.size) (hc : VRs ρ c (c'.toList.take c.length))
    (hf : ∀ k, k < c'.size → ¬ (fz.1 ≤ k ∧ k < fz.2)) :
    ∃ ρ', ρ.le ρ' ∧ Rel w0 ρ' (H.new (.cells c e)) (w.alloc (.cells c' e' fz)) ∧ ρ' H.n = some ⟨w.heap.size, 0, c'.size⟩ := by
  obtain ⟨r, l, e⟩ := h.new (.cells c e) (.cells c' e' fz) c'.size ⟨c', e', fz, rfl, rfl, by simpa using hle, fun k hk => by
    have := hc.2 k hk
    rw [arr_getD]
    simp only [List.getD_eq_getElem?_getD, List.getElem?_take_of_lt hk, Nat.zero_add] at this ⊢
    exact this, fun _ => hf⟩
  exact ⟨_, l, r, e⟩
theorem alloc_done (h : Rel w0 ρ H w) {t : TypeId} {z : List Value} (hz : zeroOf P t = some z) : DoneV P w0 ρ (Instr.alloc t true (.tuple #[])) w (newV H t z).1 (newV H t z).2 := by
  obtain ⟨zv, h1, h2, h3⟩ := zeroOf_some hz
  obtain ⟨ρ', l, r, e⟩ := h.newCells (e := t) (e' := t) (fz := (0, 0)) (c := z) (c' := zv.cells) (by rw [← h2]; simp) (by rw [h2]; simpa using VRs.clean h3) (fun k _ => by omega)
  refine ⟨_, ρ', .pointer (some ⟨w.heap.size, 0, none⟩), ?_, l, r, ?_⟩
  · simp only [Instr.alloc, Sem.run_bind, run_zer h1, Result.andThen_ok, newVar, newRow, run_newObj, Sem.run_pure]
    rfl
  · exact .ptr H.n 0 _ e
theorem box_done (h : Rel w0 ρ H w) {t : TypeId} {x x' : Value} {l : List Value} (hx : VR ρ x x') (hc : cellsOf x = some l) : DoneV P w0 ρ (Instr.box t x') w (newV H t l).1 (newV H t l).2 := by
  have hv := hx.cellsOf hc
  have hlen := hv.1
  obtain ⟨ρ', le, r, e⟩ := h.newCells (e := t) (e' := t) (fz := (0, 0)) (c := l) (c' := x'.cells) (by simp at hlen; omega) (by
    rw [List.take_of_length_le (by rw [← hlen]; exact Nat.le_refl _)]; exact hv) (fun k _ => by omega)
  refine ⟨_, ρ', .pointer (some ⟨w.heap.size, 0, none⟩), ?_, le, r, .ptr H.n 0 _ e⟩
  simp only [Instr.box, Sem.run_bind, Result.andThen_ok, newVar, newRow, run_newObj, Sem.run_pure]
  rfl
theorem rep_range (z : List Value) (d : Value) (hz : 0 < z.length) : ∀ n, (List.range (n * z.length)).map (fun i => z.getD (i % z.length) d) = rep n z
  | 0 => by simp [rep]
  | n + 1 => by
    have ih := rep_range z d hz n
    have e1 : rep (n + 1) z = rep n z ++ z := by
      unfold rep
      rw [List.replicate_succ', List.flatten_append]
      simp
    rw [e1, ← ih, Nat.succ_mul, List.range_add, List.map_append]
    congr 1
    apply List.ext_getElem?
    intro m
    by_cases hm : m < z.length
    · simp only [List.map_map, List.getElem?_map, List.getElem?_range hm, Option.map_some, Function.comp]
      rw [Nat.add_comm, Nat.add_mul_mod_self_right, Nat.mod_eq_of_lt hm, List.getD_eq_getElem?_getD, List.getElem?_eq_getElem hm]
      rfl
    · rw [List.getElem?_eq_none (by simp; omega), List.getElem?_eq_none (by omega)]
theorem rep_length (n : Nat) (z : List Value) : (rep n z).length = n * z.length := by
  unfold rep
  simp
theorem rep_clean {n : Nat} {z : List Value} (h : z.all clean = true) : (rep n z).all clean = true := by
  unfold rep
  rw [List.all_eq_true] at h ⊢
  intro x hx
  rw [List.mem_flatten] at hx
  obtain ⟨l, hl, hxl⟩ := hx
  rw [List.mem_replicate] at hl
  rw [hl.2] at hxl
  exact h x hxl
theorem range_zero (zv : Array Value) (n k : Nat) (hk : n * k ≠ 0 → zv.size = k) : ((Array.range (n * k)).map (zv[· % zv.size]!)).toList = rep n zv.toList ∨ n * k = 0 := by
  by_cases h0 : n * k = 0
  · exact .inr h0
  · left
    have hk' := hk h0
    have hpos : 0 < k := Nat.pos_of_ne_zero fun e => h0 (by rw [e]; simp)
    rw [← rep_range zv.toList default (by simp; omega) n]
    simp only [Array.toList_map, Array.toList_range, Array.length_toList, hk']
    apply List.map_congr_left
    intro i hi
    simp [Array.getElem!_eq_getD, Array.getD_eq_getD_getElem?, List.getD_eq_getElem?_getD]
theorem buildSlice_done (h : Rel w0 ρ H w) {t : TypeId} {n : Nat} {parts parts' : List (Nat × Value)} {v : Value} {H' : CH} (hl : parts.length = parts'.length)
    (hp : ∀ k, k < parts.length → ((parts'.getD k (0, undef)).1 = (parts.getD k (0, undef)).1 ∧ VR ρ (parts.getD k (0, undef)).2 (parts'.getD k (0, undef)).2))
    (hb : cBuildSlice P t n parts H = some (v, H')) : DoneV P w0 ρ (Instr.buildSlice t n parts'.toArray) w v H' := by
  unfold cBuildSlice at hb
  split at hb
  · rename_i e hu
    simp only [Option.bind_eq_some_iff] at hb
    obtain ⟨k, hk, hb⟩ := hb
    split at hb
    · cases hb
    · rename_i hbig
      simp only [Option.bind_eq_some_iff] at hb
      obtain ⟨z, hz, hb⟩ := hb
      split at hb
      · rename_i hzl
        simp only [Option.map_eq_some_iff] at hb
        obtain ⟨l, hf, hvh⟩ := hb
        cases hvh
        have hzero : ∃ zv : Array Value, ((n * k = 0 ∧ zv = #[]) ∨ (n * k ≠ 0 ∧ ∃ z0, (zeroValue e).run P w = .ok z0 w ∧ z0.cells = zv)) ∧ VRs ρ (rep n z) ((Array.range (n * k)).map (zv[· % zv.size]!)).toList := by
          by_cases h0 : n * k = 0
          · refine ⟨#[], .inl ⟨h0, rfl⟩, ?_⟩
            rw [if_pos h0] at hz
            cases hz
            have : (rep n ([] : List Value)) = [] := by unfold rep; simp
            rw [this, h0]
            simpa using VRs.nil ρ
          · rw [if_neg h0] at hz
            obtain ⟨zv, h1, h2, h3⟩ := zeroOf_some hz
            refine ⟨zv.cells, .inr ⟨h0, zv, run_zer h1, rfl⟩, ?_⟩
            have hsz : zv.cells.size = k := by
              rcases hzl with h' | h'
              · exact absurd h' h0
              · rw [← h2] at h'; simpa using h'
            rcases range_zero zv.cells n k (fun _ => hsz) with h' | h'
            · rw [h', h2]; exact VRs.clean (rep_clean h3)
            · exact absurd h' h0
        obtain ⟨zv, hzr, hzv⟩ := hzero
        obtain ⟨c', hfill, hcr⟩ := fill_rel parts parts' (rep n z) _ l hl hp hzv hf
        have hlc := hcr.1
        obtain ⟨ρ', le, r, er⟩ := h.newCells (e := e) (e' := e) (fz := (0, 0)) (c := l) (c' := c') (by simp at hlc; omega)
          (by rw [List.take_of_length_le (by rw [hlc]; exact Nat.le_refl _)]; exact hcr) (fun k _ => by omega)
        refine ⟨_, ρ', .slice (some ⟨w.heap.size, 0, none⟩) n n, ?_, le, r, .sliceOf H.n 0 _ n n er (Nat.le_refl _)⟩
        have hbig' : ¬ (n * k > 2 ^ 24) := hbig
        rcases hzr with ⟨h0, rfl⟩ | ⟨h0, z0, hz0, rfl⟩
        · simp only [Instr.buildSlice, Sem.run_bind, run_und hu, run_siz hk, Result.andThen_ok, if_neg hbig', if_pos h0, hfill, newRow, run_newObj, Sem.run_pure]
          rfl
        · simp only [Instr.buildSlice, Sem.run_bind, run_und hu, run_siz hk, Result.andThen_ok, if_neg hbig', if_neg h0, hz0, hfill, newRow, run_newObj, Sem.run_pure]
          rfl
      · cases hb
  · cases hb
/-! ### Stores -/
theorem setCells_heap : ∀ (vs : List Value) (w : World) (b o : Nat) (c : Array Value) (e : TypeId) (fz : Nat × Nat), w.heap[b]? = some (.cells c e fz) → o + vs.length ≤ c.size →
    (w.setCells b o vs).heap = w.heap.setIfInBounds b (.cells ⟨CH.splice c.toList o vs⟩ e fz) ∧ (w.setCells b o vs).os = w.os ∧ (w.setCells b o vs).tape = w.tape ∧ (w.setCells b o vs).output = w.output
  | [], w, b, o, c, e, fz, hb, hle => by
    have hlt : b < w.heap.size := (Array.getElem?_eq_some_iff.1 hb).1
    refine ⟨?_, rfl, rfl, rfl⟩
    have : CH.splice c.toList o [] = c.toList := by simp [CH.splice]
    rw [this]
    show w.heap = _
    apply Array.ext_getElem?
    intro i
    rw [Array.getElem?_setIfInBounds]
    split
    · rename_i hi; subst hi; exact hb
    · rfl
  | v :: vs, w, b, o, c, e, fz, hb, hle => by
    have hlt : b < w.heap.size := (Array.getElem?_eq_some_iff.1 hb).1
    simp only [List.length_cons] at hle
    have h1 : (w.setCell ⟨b, o, none⟩ v).heap = w.heap.setIfInBounds b (.cells (c.setIfInBounds o v) e fz) := by
      simp only [World.setCell]
      apply Array.ext_getElem?
      intro i
      rw [Array.getElem?_modify, Array.getElem?_setIfInBounds]
      split
      · rename_i hi; subst hi; rw [hb]; rfl
      · rfl
    have hb' : (w.setCell ⟨b, o, none⟩ v).heap[b]? = some (.cells (c.setIfInBounds o v) e fz) := by rw [h1]; simp [hlt]
    obtain ⟨i1, i2, i3, i4⟩ := setCells_heap vs (w.setCell ⟨b, o, none⟩ v) b (o + 1) (c.setIfInBounds o v) e fz hb' (by simp; omega)
    refine ⟨?_, i2, i3, i4⟩
    show ((w.setCell ⟨b, o, none⟩ v).setCells b (o + 1) vs).heap = _
    rw [i1, h1]
    have hsp : CH.splice (c.setIfInBounds o v).toList (o + 1) vs = CH.splice c.toList o (v :: vs) := by
      have hlt2 : o < c.toList.length := by simp; omega
      simp only [CH.splice, Array.toList_setIfInBounds, List.length_cons]
      rw [List.take_succ_eq_append_getElem (by simp; omega), List.take_set_of_le (Nat.le_refl _), List.drop_set_of_lt (by omega)]
      simp
      omega
    rw [hsp]
    apply Array.ext_getElem?
    intro i
    rw [Array.getElem?_setIfInBounds, Array.getElem?_setIfInBounds]
    split
    · rename_i hi; subst hi; simp [hlt]
    · rename_i hi; rw [Array.getElem?_setIfInBounds, if_neg hi]
theorem isCell_all {l l' : List Value} (h : VRs ρ l l') (hc : l.all isCell = true) : ∀ v ∈ l', v.oneCell' = true := by
  intro v hv
  obtain ⟨k, hk, e⟩ := List.mem_iff_getElem.1 hv
  have hk' : k < l.length := by rw [h.1]; exact hk
  have := h.2 k hk'
  rw [List.getD_eq_getElem?_getD, List.getD_eq_getElem?_getD, List.getElem?_eq_getElem hk, List.getElem?_eq_getElem hk'] at this
  simp only [Option.getD_some, e] at this
  exact this.isCell (List.all_eq_true.1 hc _ (List.getElem_mem hk'))
/-- A store into the run's own memory. -/
theorem Rel.storeN (h : Rel w0 ρ H w) {a : Addr} {i : Img} {vs vs' : List Value} {H' : CH} (hi : ρ a.block = some i) (hs : a.spot = none) (hv : VRs ρ vs vs') (hc : vs.all isCell = true)
    (hst : H.storeN a vs = some H') : ∃ w', (storeCells ⟨i.x, a.off + i.d, none⟩ vs').run P w = .ok () w' ∧ Rel w0 ρ H' w' := by
  obtain ⟨b, o, s⟩ := a
  simp only at hs hi; subst hs
  unfold CH.storeN at hst
  split at hst
  · rename_i c e hb
    split at hst
    · rename_i hcond
      cases hst
      obtain ⟨_, hle, hlim⟩ := hcond
      simp only at hb hle hlim ⊢
      obtain ⟨i', hi', c', e', fz, h1, h2, h3, h4, h5⟩ := h.obj b _ hb ⟨_, hi⟩
      rw [hi] at hi'; cases hi'
      have hlen := hv.1
      have hle' : o + i.d + vs'.length ≤ c'.size := by omega
      have hrun := run_storeCells_cells (P := P) i.x (o + i.d) vs' 0 w
        (fun j hj => by simp only [World.cell?, h1, Nat.add_zero]; simp; omega)
        (fun j hj => by
          have := h5 hlim (o + i.d + j) (by omega)
          simp only [World.frozen?, h1, Nat.add_zero]
          rw [Bool.and_eq_false_iff, decide_eq_false_iff_not, decide_eq_false_iff_not]
          omega)
        (isCell_all hv hc)
      obtain ⟨j1, j2, j3, j4⟩ := setCells_heap vs' w i.x (o + i.d) c' e' fz h1 hle'
      refine ⟨_, by simpa using hrun, ?_⟩
      refine h.write hb hlim hi _ ?_ j1 j2 j3 j4
      refine ⟨⟨CH.splice c'.toList (o + i.d) vs'⟩, e', fz, rfl, ?_, ?_, ?_, ?_⟩
      · show (CH.splice c'.toList (o + i.d) vs').length = _
        rw [splice_length _ _ _ (by simpa using hle')]; simpa using h2
      · show i.d + (CH.splice c o vs).length ≤ (CH.splice c'.toList (o + i.d) vs').length
        rw [splice_length _ _ _ hle, splice_length _ _ _ (by simpa using hle')]; simpa using h3
      · intro k hk
        rw [splice_length _ _ _ hle] at hk
        rw [arr_getD]
        show VR ρ ((CH.splice c o vs).getD k undef) ((CH.splice c'.toList (o + i.d) vs').getD (i.d + k) undef)
        rw [splice_getD _ _ _ hle, splice_getD _ _ _ (by simpa using hle')]
        by_cases hk2 : o ≤ k ∧ k < o + vs.length
        · rw [if_pos hk2, if_pos (by omega), show i.d + k - (o + i.d) = k - o by omega]
          exact hv.2 _ (by omega)
        · rw [if_neg hk2, if_neg (by omega)]
          have := h4 k hk
          rw [arr_getD] at this
          exact this
      · intro hl k hk
        have : (CH.splice c'.toList (o + i.d) vs').length = c'.size := by rw [splice_length _ _ _ (by simpa using hle')]; simp
        exact h5 hl k (by rw [← this]; exact hk)
    · cases hst
  · cases hst
theorem store_done (h : Rel w0 ρ H w) {t : TypeId} {x x' v v' : Value} {H' : CH} (hx : VR ρ x x') (hv : VR ρ v v') (hst : storeV P t x v H = some H') : DoneU P w0 ρ (Instr.storeAt t x' v') w H' := by
  simp only [storeV, stN, Option.bind_eq_some_iff] at hst
  obtain ⟨n, hn, a, ea, l, hl, hst⟩ := hst
  split at hst
  · rename_i hc
    obtain ⟨i, hi, hs, rfl⟩ := hx.asP ea
    have hvc := hv.cellsOf hl
    obtain ⟨w', r, q⟩ := h.storeN (P := P) hi hs hvc hc.2 hst
    refine ⟨w', ρ, ?_, ρ.le_refl, q⟩
    have hsz : v'.cells.size = n := by have := hvc.1; simp at this; omega
    simp only [Instr.storeAt, Instr.sureAddr, storeVar, Sem.run_bind, Sem.run_pure, Result.andThen_ok, run_siz hn, hsz, ne_eq, not_true_eq_false, if_false]
    exact r
  · cases hst
end
end Go.Cn
