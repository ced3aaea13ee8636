/- append, copy, maps: the ends. -/
import Derived.Test.YtbajjfdkkffamaaGreatDoorCnG2
namespace Go.Cn
set_option linter.unusedVariables false
set_option linter.unusedSimpArgs false
section
variable {P : Program} {w0 : Base} {w : World} {ρ : Map} {H : CH}
theorem loadN_len {a : Addr} {n : Nat} {l : List Value} (h : H.loadN a n = some l) : l.length = n := by
  unfold CH.loadN at h
  split at h
  · split at h
    · cases h; rename_i hc; simp; omega
    · cases h
  · cases h
/-- A row that a slice grows into, elsewhere. -/
theorem grow_fresh (h : Rel w0 ρ H w) {o l : List Value} {old new rest : Array Value} {e : TypeId} {need sz b cap' : Nat} (ho : VRs ρ o old.toList) (hn : VRs ρ l new.toList)
    (hlen : o.length + l.length = need * sz) (hrest : rest.size = (cap' - need) * sz) (hcap : need ≤ cap') (hb : b = H.n) :
    ∃ ρ', ρ.le ρ' ∧ Rel w0 ρ' (H.new (.cells (o ++ l) e)) (w.drew.alloc (.cells (old ++ new ++ rest) e)) ∧ VR ρ' (.slice (some ⟨b, 0, none⟩) need (2 * sz)) (.slice (some ⟨w.heap.size, 0, none⟩) need cap') := by
  have h1 : Rel w0 ρ H w.drew := h.drew
  have hl1 := ho.1
  have hl2 := hn.1
  simp only [Array.length_toList] at hl1 hl2
  obtain ⟨ρ', le, r, er⟩ := h1.newCells (e := e) (e' := e) (fz := (0, 0)) (c := o ++ l) (c' := old ++ new ++ rest) (by simp; omega)
    (by
      have : ((old ++ new ++ rest).toList.take (o ++ l).length) = old.toList ++ new.toList := by
        simp only [Array.toList_append]
        rw [List.take_append_of_le_length (by simp; omega), List.take_of_length_le (by simp; omega)]
      rw [this]
      exact ho.append hn) (fun k _ => by omega)
  refine ⟨ρ', le, r, ?_⟩
  subst hb
  have hN : 0 + (Img.mk w.drew.heap.size 0 (old ++ new ++ rest).size).d + cap' * sz ≤ (Img.mk w.drew.heap.size 0 (old ++ new ++ rest).size).N := by
    simp only [Array.size_append, hrest]
    have : cap' * sz = need * sz + (cap' - need) * sz := by rw [← Nat.add_mul]; congr 1; omega
    omega
  exact .sliceIn H.n 0 _ need sz cap' er hcap hN
theorem vr_out {o : List Value} {b off : Nat} (hl : H.loadN ⟨b, off, none⟩ (0 * 1) = some o) : o = [] := by
  have := loadN_len hl
  simpa using this
theorem zc_rep {zv : Value} {z : List Value} {sz : Nat} (hz : zv.cells.toList = z) (hs : zv.cells.size = sz) (h0 : sz ≠ 0) (k : Nat) : (Builtin.zeroCells zv.cells k).toList = rep k z := by
  unfold Builtin.zeroCells
  rw [hs]
  by_cases hk : k * sz = 0
  · have : k = 0 := by
      rcases Nat.mul_eq_zero.1 hk with h' | h'
      · exact h'
      · exact absurd h' h0
    subst this
    simp [rep]
  · rcases range_zero zv.cells k sz (fun _ => hs) with h' | h'
    · rw [hs] at h'; rw [h', hz]
    · exact absurd h' hk
theorem appendZ_done (h : Rel w0 ρ H w) {ts : Array TypeId} {ty t e t1 : TypeId} {kk : IntKind} {s x s' x' v : Value} {H' : CH} {i : TypeInfo} {zv : Value} {z : List Value} (hs : VR ρ s s') (hx : VR ρ x x') (h0 : ts[0]? = some t) (hu : P.underlying t = some (.slice e))
    (h1 : ts[1]? = some t1) (hxu : P.underlying t1 = some (.int kk)) (hi : P.info? e = some i) (hz0 : (P.info? e).bind (·.zero) = some zv) (hzz : zv.cells.toList = z) (hzs : zv.cells.size = i.size) (hsz0 : i.size ≠ 0) (hcl : z.all clean = true)
    (ha : appendZ e i.size i.bytes z s x H = some (v, H')) : DoneV P w0 ρ (Builtin.append_ ts ty #[s', x']) w v H' := by
  unfold appendZ at ha
  split at ha
  · rename_i kx m a n cap
    cases hx
    split at ha
    · rename_i hc
      obtain ⟨hodd, hm0, hm1⟩ := hc
      split at ha
      · rename_i hmz
        subst hmz
        cases ha
        have hh : ∃ a' k', s' = .slice (some a') n k' ∧ n ≤ k' := by
          cases hs with
          | sliceOf b o im _ k' hb hk => exact ⟨_, _, rfl, hk⟩
          | sliceIn => omega
          | sliceOut => omega
          | sliceOut1 => exact ⟨_, _, rfl, Nat.le_refl _⟩
        obtain ⟨a', k', rfl, hk⟩ := hh
        exact ⟨w, ρ, _, run_appendZ_0 h0 h1 hu hxu hi hk, ρ.le_refl, h, hs⟩
      · rename_i hmn
        split at ha
        · rename_i hb
          obtain ⟨hlt, hb1, hb2⟩ := hb
          simp only [Option.bind_eq_some_iff] at ha
          obtain ⟨old, hold, hv⟩ := ha
          cases hv
          have hol := loadN_len hold
          have zc : ∀ m, (Builtin.zeroCells zv.cells m).size = m * i.size := fun m => by simp [Builtin.zeroCells, hzs]
          have grow : ∀ (base : Addr) (kc : Nat) (oa : Array Value), s' = .slice (some base) n kc → kc < n + m.toNat → (loadCells base (n * i.size)).run P w.drew = .ok oa w.drew → VRs ρ old oa.toList →
              DoneV P w0 ρ (Builtin.append_ ts ty #[s', .int kx m]) w (.slice (some ⟨H.n, 0, none⟩) (n + m.toNat) (2 * i.size)) (H.new (.cells (old ++ rep m.toNat z) e)) := fun base kc oa es hlt hro vo => by
            subst es
            obtain ⟨cap', hc1, hrun⟩ := run_appendZ_grows (ty := ty) (kx := kx) (a := base) (old := oa) h0 h1 hu hxu hi hz0 hm0 hm1 hmn hsz0 hro hlt hb1 hb2
            obtain ⟨ρ', le, r, vr⟩ := grow_fresh (b := H.n) h (l := rep m.toNat z) (new := Builtin.zeroCells zv.cells m.toNat) (e := e) (need := n + m.toNat) (sz := i.size) (cap' := cap') (rest := Builtin.zeroCells zv.cells (cap' - (n + m.toNat))) vo
              (by rw [zc_rep hzz hzs hsz0]; exact VRs.clean (rep_clean hcl)) (by rw [hol, rep_length, Nat.add_mul]; rw [← hzz]; simp [hzs]) (zc _) hc1 rfl
            exact ⟨_, ρ', _, hrun, le, r, vr⟩
          cases hs with
          | sliceOf b o im _ k' hbb hk =>
            have hk2 : (2 * k' + 1) / 2 = k' := by omega
            rw [hk2] at hlt
            obtain ⟨vs', r, vr⟩ := (h.drew).loadN (P := P) (a := ⟨b, o, none⟩) hbb rfl hold
            exact grow _ k' vs' rfl (by omega) r vr
          | sliceIn => omega
          | sliceOut => omega
          | sliceOut1 b o a im hbb =>
            have : old = [] := by simpa using hol
            subst this
            exact grow a 0 #[] rfl (by omega) (by simp [loadCells, loadCellsFrom]) (VRs.nil ρ)
        · cases ha
    · cases ha
  · cases ha
theorem append_done (h : Rel w0 ρ H w) {ts : Array TypeId} {ty : TypeId} {s x s' x' v : Value} {H' : CH} (hs : VR ρ s s') (hx : VR ρ x x') (ha : cAppend P ts s x H = some (v, H')) :
    DoneV P w0 ρ (Builtin.append_ ts ty #[s', x']) w v H' := by
  simp only [cAppend, Option.bind_eq_some_iff] at ha
  obtain ⟨d0, ⟨t, h0, hu⟩, ha⟩ := ha
  split at ha
  · rename_i e
    simp only [Option.bind_eq_some_iff] at ha
    obtain ⟨xt, ⟨t1, h1, hxu⟩, ha⟩ := ha
    split at ha
    · rename_i hnot
      simp only [Option.bind_eq_some_iff] at ha
      obtain ⟨⟨sz, by'⟩, hel, ha⟩ := ha
      obtain ⟨i, zv, hi, rfl, rfl, hsz0, hz0, hzs⟩ := elemLay_some hel
      simp only [appendN, Option.bind_eq_some_iff] at ha
      obtain ⟨⟨k, l⟩, hsrc, ha⟩ := ha
      obtain ⟨hlen, hll, new, hf, hnew⟩ := src_run (P := P) h hx hsrc
      have hsiz : szOf P e = some i.size := by simp [szOf, hi]
      have zc : ∀ m, (Builtin.zeroCells zv.cells m).size = m * i.size := fun m => by simp [Builtin.zeroCells, hzs]
      split at ha
      · cases ha
      · rename_i hcells
        have hcells : l.all isCell = true := by simpa using hcells
        split at ha
        · -- nil
          rename_i n c
          cases hs
          split at ha
          · rename_i hk0
            subst hk0
            cases ha
            have hn0 : new = #[] := by
              have := hnew.1; simp [hll] at this
              exact Array.eq_empty_of_size_eq_zero this.symm
            subst hn0
            refine ⟨w, ρ, .slice none 0 0, ?_, ρ.le_refl, h, .nilSlice _⟩
            exact run_append_fits (n := 0) (k := 0) (cap := 0) (base := none) h0 h1 hu hxu hnot (run_siz hsiz) hlen (hf w rfl) (Nat.le_refl _) rfl
          · rename_i hk0
            split at ha
            · rename_i hb
              cases ha
              obtain ⟨cap', hc1, hrun⟩ := run_append_grows (ty := ty) (n := 0) (k := k) (cap := 0) (base := none) (old := #[]) (new := new) h0 h1 hu hxu hnot hi hz0 hlen
                (by simp [Builtin.firstCells]) (hf w.drew rfl) (by omega) (by simpa using hb.1) (by simpa using hb.2)
              obtain ⟨ρ', le, r, vr⟩ := grow_fresh (b := H.n) h (o := []) (l := l) (old := #[]) (new := new) (rest := Builtin.zeroCells zv.cells (cap' - (0 + k))) (e := e) (need := 0 + k) (sz := i.size) (cap' := cap')
                (VRs.nil ρ) hnew (by simp [hll]) (zc _) hc1 rfl
              rw [Nat.zero_add] at vr
              refine ⟨_, ρ', _, hrun, le, by simpa using r, ?_⟩
              rw [Nat.zero_add]; exact vr
            · cases ha
        · -- a slice
          rename_i a n cap
          split at ha
          · rename_i hodd
            split at ha
            · -- room within the known capacity
              rename_i hroom
              simp only [Option.map_eq_some_iff] at ha
              obtain ⟨H2, hst, hv⟩ := ha
              cases hv
              cases hs with
              | sliceOf b o im _ k' hb hk =>
                have hk2 : (2 * k' + 1) / 2 = k' := by omega
                rw [hk2] at hroom
                obtain ⟨w', r, q⟩ := h.storeN (P := P) (a := addA ⟨b, o, none⟩ (n * i.size)) hb rfl hnew hcells hst
                refine ⟨w', ρ, .slice (some ⟨im.x, o + im.d, none⟩) (n + k) k', ?_, ρ.le_refl, q, .sliceOf b o im _ k' hb hroom⟩
                refine run_append_fits h0 h1 hu hxu hnot (run_siz hsiz) hlen (hf w rfl) hroom ?_
                simp only [addr_add]
                simpa [addA, Nat.add_right_comm] using r
              | sliceIn => omega
              | sliceOut => omega
              | sliceOut1 b o a im hb =>
                obtain rfl : k = 0 := by omega
                have hl0 : l = [] := by simpa using hll
                subst hl0
                have hn0 : new = #[] := by
                  have := hnew.1; simp at this
                  exact Array.eq_empty_of_size_eq_zero this.symm
                subst hn0
                have hH : Rel w0 ρ H' w := by
                  obtain ⟨w', r, q⟩ := h.storeN (P := P) (a := addA ⟨b, o, none⟩ (0 * i.size)) (vs' := []) hb rfl (VRs.nil ρ) rfl hst
                  simp only [storeCells, Sem.run_pure] at r
                  cases r
                  exact q
                refine ⟨w, ρ, .slice (some a) 0 0, ?_, ρ.le_refl, hH, .sliceOut1 b o a im hb⟩
                exact run_append_fits (n := 0) (k := 0) (cap := 0) (base := some a) h0 h1 hu hxu hnot (run_siz hsiz) hlen (hf w rfl) (Nat.le_refl _) (by simp [storeCells])
            · rename_i hroom
              split at ha
              · -- it grows elsewhere; the row stays
                rename_i hb
                simp only [Option.bind_eq_some_iff] at ha
                obtain ⟨old, hold, hv⟩ := ha
                cases hv
                have hol := loadN_len hold
                have grow : ∀ (base : Addr) (kc : Nat) (oa : Array Value), s' = .slice (some base) n kc → kc < n + k → (loadCells base (n * i.size)).run P w.drew = .ok oa w.drew → VRs ρ old oa.toList →
                    DoneV P w0 ρ (Builtin.append_ ts ty #[s', x']) w (.slice (some ⟨H.n, 0, none⟩) (n + k) (2 * i.size)) (H.new (.cells (old ++ l) e)) := fun base kc oa es hlt hro vo => by
                  subst es
                  obtain ⟨cap', hc1, hrun⟩ := run_append_grows (ty := ty) (base := some base) (old := oa) (new := new) h0 h1 hu hxu hnot hi hz0 hlen (by simpa [Builtin.firstCells] using hro) (hf w.drew rfl) hlt hb.1 hb.2
                  obtain ⟨ρ', le, r, vr⟩ := grow_fresh (b := H.n) h (e := e) (need := n + k) (sz := i.size) (cap' := cap') (rest := Builtin.zeroCells zv.cells (cap' - (n + k))) vo hnew (by rw [hol, hll, Nat.add_mul]) (zc _) hc1 rfl
                  exact ⟨_, ρ', _, hrun, le, r, vr⟩
                cases hs with
                | sliceOf b o im _ k' hbb hk =>
                  have hk2 : (2 * k' + 1) / 2 = k' := by omega
                  rw [hk2] at hroom
                  obtain ⟨vs', r, vr⟩ := (h.drew).loadN (P := P) (a := ⟨b, o, none⟩) hbb rfl hold
                  exact grow _ k' vs' rfl (by omega) r vr
                | sliceIn => omega
                | sliceOut => omega
                | sliceOut1 b o a im hbb =>
                  have : old = [] := by simpa using hol
                  subst this
                  exact grow a 0 #[] rfl (by omega) (by simp [loadCells, loadCellsFrom]) (VRs.nil ρ)
              · cases ha
          · rename_i hodd
            split at ha
            · -- a capacity that is not known: the row is given up
              rename_i hb
              obtain ⟨hcap, hlim, hb1, hb2⟩ := hb
              simp only [Option.bind_eq_some_iff] at ha
              obtain ⟨old, hold, hv⟩ := ha
              cases hv
              have hol := loadN_len hold
              have grow : ∀ (base : Addr) (kc : Nat) (oa : Array Value), s' = .slice (some base) n kc → kc < n + k → (loadCells base (n * i.size)).run P w.drew = .ok oa w.drew → VRs ρ old oa.toList →
                  DoneV P w0 ρ (Builtin.append_ ts ty #[s', x']) w (.slice (some ⟨H.n, 0, none⟩) (n + k) (2 * i.size)) ((H.put a.block none).new (.cells (old ++ l) e)) := fun base kc oa es hlt hro vo => by
                subst es
                obtain ⟨cap', hc1, hrun⟩ := run_append_grows (ty := ty) (base := some base) (old := oa) (new := new) h0 h1 hu hxu hnot hi hz0 hlen (by simpa [Builtin.firstCells] using hro) (hf w.drew rfl) hlt hb1 hb2
                obtain ⟨ρ', le, r, vr⟩ := grow_fresh (b := H.n) (h.drop a.block) (e := e) (need := n + k) (sz := i.size) (cap' := cap') (rest := Builtin.zeroCells zv.cells (cap' - (n + k))) vo hnew (by rw [hol, hll, Nat.add_mul]) (zc _) hc1 rfl
                exact ⟨_, ρ', _, hrun, le, r, vr⟩
              cases hs with
              | sliceOf => omega
              | sliceOut1 => omega
              | sliceOut b o a im s hbb =>
                have : old = [] := by simpa using hol
                subst this
                by_cases hk0 : k = 0
                · subst hk0
                  have hl0 : l = [] := by simpa using hll
                  subst hl0
                  have hn0 : new = #[] := by
                    have := hnew.1; simp at this
                    exact Array.eq_empty_of_size_eq_zero this.symm
                  subst hn0
                  -- nothing is appended to nothing
                  have hlive : ∃ c0 e0, H.get b = some (.cells c0 e0) := by
                    unfold CH.loadN at hold
                    split at hold
                    · exact ⟨_, _, ‹_›⟩
                    · cases hold
                  obtain ⟨c0, e0, hg⟩ := hlive
                  obtain ⟨im2, hi2, c', e', fz, o1, o2, o3, o4, o5⟩ := h.obj b _ hg ⟨_, hbb⟩
                  rw [hbb] at hi2; cases hi2
                  have hxl : im.x < w.heap.size := h.img b im hbb
                  obtain ⟨q, le, er⟩ := h.adopt (y := .cells [] e) (j := ⟨im.x, 0, im.N⟩) (w' := w) hg hlim hbb rfl (.cells c' e' fz) ⟨c', e', fz, rfl, o2, by simp, fun k hk => by simp at hk, fun _ => o5 hlim⟩
                    (by
                      apply Array.ext_getElem?
                      intro j
                      rw [Array.getElem?_setIfInBounds]
                      split
                      · rename_i hj; subst hj; exact o1
                      · rfl) rfl rfl rfl
                  refine ⟨w, _, .slice (some a) 0 0, ?_, le, q, .sliceOut H.n 0 a _ _ er⟩
                  exact run_append_fits (n := 0) (k := 0) (cap := 0) (base := some a) h0 h1 hu hxu hnot (run_siz hsiz) hlen (hf w rfl) (Nat.le_refl _) (by simp [storeCells])
                · exact grow a 0 #[] rfl (by omega) (by simp [loadCells, loadCellsFrom]) (VRs.nil ρ)
              | sliceIn b o im _ s k' hbb hk hN =>
                have hss : s = i.size := by omega
                subst hss
                simp only at hlim hold ⊢
                by_cases hroom : n + k ≤ k'
                · -- in place
                  obtain ⟨im2, c', e', fz, g1, g2, g3, g4, g5, g6, g7⟩ := h.cellsAt ⟨_, hbb⟩ hold
                  rw [hbb] at g1; cases g1
                  have hlive : ∃ c0 e0, H.get b = some (.cells c0 e0) := by
                    unfold CH.loadN at hold
                    split at hold
                    · exact ⟨_, _, ‹_›⟩
                    · cases hold
                  obtain ⟨c0, e0, hg⟩ := hlive
                  have hnl := hnew.1
                  simp only [Array.length_toList] at hnl
                  have hroom2 : (n + k) * i.size ≤ k' * i.size := Nat.mul_le_mul_right _ hroom
                  rw [Nat.add_mul] at hroom2
                  have hfit : o + im.d + n * i.size + new.toList.length ≤ c'.size := by simp; omega
                  have hrun := run_storeCells_cells (P := P) im.x (o + im.d + n * i.size) new.toList 0 w
                    (fun j hj => by simp only [World.cell?, g2, Nat.add_zero]; simp; omega)
                    (fun j hj => by
                      have := g7 hlim (o + im.d + n * i.size + j) (by omega)
                      simp only [World.frozen?, g2, Nat.add_zero]
                      rw [Bool.and_eq_false_iff, decide_eq_false_iff_not, decide_eq_false_iff_not]
                      omega)
                    (isCell_all hnew hcells)
                  obtain ⟨j1, j2, j3, j4⟩ := setCells_heap new.toList w im.x (o + im.d + n * i.size) c' e' fz g2 hfit
                  have hfit' : o + im.d + n * i.size + new.toList.length ≤ c'.toList.length := by simpa using hfit
                  obtain ⟨q, le, er⟩ := h.adopt (y := .cells (old ++ l) e) (j := ⟨im.x, o + im.d, im.N⟩) hg hlim hbb rfl _
                    ⟨⟨CH.splice c'.toList (o + im.d + n * i.size) new.toList⟩, e', fz, rfl, by
                      show (CH.splice c'.toList _ new.toList).length = im.N
                      rw [splice_length _ _ _ hfit']; simpa using g3, by
                      show o + im.d + (old ++ l).length ≤ (CH.splice c'.toList _ new.toList).length
                      rw [splice_length _ _ _ hfit']; simp; simp at hfit; omega, fun m hm => by
                      rw [arr_getD]
                      show VR ρ ((old ++ l).getD m undef) ((CH.splice c'.toList (o + im.d + n * i.size) new.toList).getD (o + im.d + m) undef)
                      rw [splice_getD _ _ _ hfit']
                      by_cases hm2 : m < old.length
                      · rw [if_neg (by omega)]
                        have := g6.2 m hm2
                        simp only [List.getD_eq_getElem?_getD] at this ⊢
                        rw [List.getElem?_append_left hm2]
                        rw [List.getElem?_take_of_lt (by omega), List.getElem?_drop] at this
                        exact this
                      · simp at hm
                        rw [if_pos (by simp; omega)]
                        have := hnew.2 (m - old.length) (by omega)
                        simp only [List.getD_eq_getElem?_getD] at this ⊢
                        rw [List.getElem?_append_right (by omega)]
                        rw [show o + im.d + m - (o + im.d + n * i.size) = m - old.length by omega]
                        exact this, fun _ m hm => by
                      have e1 : (CH.splice c'.toList (o + im.d + n * i.size) new.toList).length = c'.size := by rw [splice_length _ _ _ hfit']; simp
                      exact g7 hlim m (by rw [← e1]; exact hm)⟩ j1 j2 j3 j4
                  refine ⟨_, _, .slice (some ⟨im.x, o + im.d, none⟩) (n + k) k', ?_, le, q, ?_⟩
                  · refine run_append_fits h0 h1 hu hxu hnot (run_siz hsiz) hlen (hf w rfl) hroom ?_
                    simp only [addr_add]
                    simpa using hrun
                  · have := VR.sliceIn (ρ := ρ.ext H.n ⟨im.x, o + im.d, im.N⟩) H.n 0 ⟨im.x, o + im.d, im.N⟩ (n + k) i.size k' er hroom (by simpa using hN)
                    simpa using this
                · obtain ⟨vs', r, vr⟩ := (h.drew).loadN (P := P) (a := ⟨b, o, none⟩) hbb rfl hold
                  exact grow _ k' vs' rfl (by omega) r vr
            · cases ha
        · cases ha
    · split at ha
      · rename_i hint
        simp only [Option.bind_eq_some_iff] at ha
        obtain ⟨⟨sz, by'⟩, hel, z, hz, ha⟩ := ha
        obtain ⟨i, zv, hi, rfl, rfl, hsz0, hz0, hzs⟩ := elemLay_some hel
        obtain ⟨zv', hz0', hzz, hcl⟩ := zeroOf_some hz
        rw [hz0] at hz0'; cases hz0'
        obtain ⟨kk, rfl⟩ : ∃ kk, xt = .int kk := by
          cases xt <;> simp [isIntT] at hint
          exact ⟨_, rfl⟩
        exact appendZ_done h hs hx h0 hu h1 hxu hi hz0 hzz hzs hsz0 hcl ha
      · cases ha
  · cases ha
end
end Go.Cn
