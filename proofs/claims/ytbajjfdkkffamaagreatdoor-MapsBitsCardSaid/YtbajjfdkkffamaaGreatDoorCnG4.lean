/- What makes memory, or writes it: all. -/
import Derived.Test.YtbajjfdkkffamaaGreatDoorCnG3
namespace Go.Cn
set_option linter.unusedVariables false
set_option linter.unusedSimpArgs false
section
variable {P : Program} {w0 : Base} {w : World} {ρ : Map} {H : CH}
theorem loadN_take {a : Addr} {n q : Nat} {l : List Value} (h : H.loadN a n = some l) (hq : q ≤ n) : H.loadN a q = some (l.take q) := by
  unfold CH.loadN at h ⊢
  split at h
  · rename_i c e hb
    split at h
    · rename_i hc
      cases h
      rw [if_pos ⟨hc.1, by omega⟩, List.take_take, Nat.min_eq_left hq]
    · cases h
  · cases h
theorem copy_done (h : Rel w0 ρ H w) {ts : Array TypeId} {ty : TypeId} {d x d' x' v : Value} {H' : CH} (hd : VR ρ d d') (hx : VR ρ x x') (hc : cCopy P ts d x H = some (v, H')) :
    DoneV P w0 ρ (Builtin.copy_ ts ty #[d', x']) w v H' := by
  unfold cCopy at hc
  split at hc
  · rename_i e hts
    simp only [Option.bind_eq_some_iff] at hts
    obtain ⟨t, h0, hu⟩ := hts
    simp only [Option.bind_eq_some_iff] at hc
    obtain ⟨sz, hsz, hc⟩ := hc
    simp only [copyN, Option.bind_eq_some_iff] at hc
    obtain ⟨⟨k, l⟩, hsrc, hc⟩ := hc
    obtain ⟨hlen, hll, new, hf, hnew⟩ := src_run (P := P) h hx hsrc
    -- what is read, of so many elements
    have hfm : ∀ m, m ≤ k → ∃ nm, (Builtin.firstCells sz m x').run P w = .ok nm w ∧ VRs ρ (l.take (m * sz)) nm.toList := by
      intro m hm
      unfold srcCells at hsrc
      split at hsrc
      · rename_i c
        cases hsrc
        cases hx
        exact ⟨#[], by simp [Builtin.firstCells], by simpa using VRs.nil ρ⟩
      · rename_i a k2 c
        simp only [Option.map_eq_some_iff] at hsrc
        obtain ⟨l0, hl, e⟩ := hsrc
        cases e
        have hl2 := loadN_take hl (Nat.mul_le_mul_right sz hm)
        have out : k = 0 → m * sz = 0 := fun e => by
          have : m = 0 := by omega
          rw [this]; simp
        cases hx with
        | sliceOf b o i _ q hb hk =>
          obtain ⟨vs', r, vr⟩ := h.loadN (P := P) (a := ⟨b, o, none⟩) hb rfl hl2
          exact ⟨vs', by simpa [Builtin.firstCells] using r, vr⟩
        | sliceIn b o i _ s q hb hk hN =>
          obtain ⟨vs', r, vr⟩ := h.loadN (P := P) (a := ⟨b, o, none⟩) hb rfl hl2
          exact ⟨vs', by simpa [Builtin.firstCells] using r, vr⟩
        | sliceOut b o a i s hb => rw [out rfl]; exact ⟨#[], by simp [Builtin.firstCells, out rfl, loadCells, loadCellsFrom], by simpa using VRs.nil ρ⟩
        | sliceOut1 b o a i hb => rw [out rfl]; exact ⟨#[], by simp [Builtin.firstCells, out rfl, loadCells, loadCellsFrom], by simpa using VRs.nil ρ⟩
      · rename_i s
        split at hsrc
        · rename_i hn
          cases hsrc
          subst hn
          rw [hx.string_inv]
          refine ⟨(s.extract 0 m).data.map fun b => .int .u8 b.toNat, by simp only [Builtin.firstCells, Sem.run_pure], ?_⟩
          have e1 : ((s.extract 0 m).data.map fun b => Value.int .u8 b.toNat).toList = (s.data.toList.map fun b => Value.int .u8 b.toNat).take (m * 1) := by
            rw [ByteArray.data_extract]
            simp [Array.toList_extract, List.extract_eq_take_drop]
          rw [e1]
          apply VRs.clean
          rw [List.all_eq_true]
          intro x hx'
          have := List.mem_of_mem_take hx'
          rw [List.mem_map] at this
          obtain ⟨b, _, rfl⟩ := this
          rfl
        · cases hsrc
      · cases hsrc
    have hsr : (sizeOf e).run P w = .ok sz w := run_siz hsz
    split at hc
    · cases hc
      cases hd
      obtain ⟨nm, hr, _⟩ := hfm 0 (Nat.zero_le _)
      refine ⟨w, ρ, goInt 0, ?_, ρ.le_refl, h, .int _ _⟩
      simp [Builtin.copy_, h0, run_und hu, hlen, hsr, hr]
    · rename_i a m c
      split at hc
      · rename_i hcells
        simp only [Option.map_eq_some_iff] at hc
        obtain ⟨H2, hst, hv⟩ := hc
        cases hv
        obtain ⟨nm, hr, hrel⟩ := hfm (min k m) (Nat.min_le_left _ _)
        have fin : ∀ (base : Addr) (q : Nat), d' = .slice (some base) m q → (∃ w', (storeCells base nm.toList).run P w = .ok () w' ∧ Rel w0 ρ H' w') → DoneV P w0 ρ (Builtin.copy_ ts ty #[d', x']) w (goInt (min k m : Nat)) H' := fun base q ed ⟨w', r, hq⟩ => by
          subst ed
          refine ⟨w', ρ, goInt (min k m : Nat), ?_, ρ.le_refl, hq, .int _ _⟩
          have e1 : Nat.min k m = min k m := rfl
          simp [Builtin.copy_, h0, run_und hu, hlen, hsr, e1, hr, r]
        have fin0 : ∀ (base : Addr), min k m * sz = 0 → ∃ w', (storeCells base nm.toList).run P w = .ok () w' ∧ Rel w0 ρ H' w' := fun base hz => by
          rw [if_pos hz] at hst
          cases hst
          have : nm.toList = [] := by
            have := hrel.1
            rw [hz] at this
            simpa using this.symm
          rw [this]
          exact ⟨w, by simp [storeCells], h⟩
        cases hd with
        | sliceOf b o im _ q hb hk =>
          refine fin _ q rfl ?_
          by_cases hz : min k m * sz = 0
          · exact fin0 _ hz
          · rw [if_neg hz] at hst
            exact h.storeN (P := P) (a := ⟨b, o, none⟩) hb rfl hrel hcells hst
        | sliceIn b o im _ s q hb hk hN =>
          refine fin _ q rfl ?_
          by_cases hz : min k m * sz = 0
          · exact fin0 _ hz
          · rw [if_neg hz] at hst
            exact h.storeN (P := P) (a := ⟨b, o, none⟩) hb rfl hrel hcells hst
        | sliceOut b o a im s hb => exact fin a 0 rfl (fin0 _ (by simp))
        | sliceOut1 b o a im hb => exact fin a 0 rfl (fin0 _ (by simp))
      · cases hc
    · cases hc
  · cases hc
theorem toBytes_done (h : Rel w0 ρ H w) {s d : TypeId} {x x' v : Value} {H' : CH} (hx : VR ρ x x') (hc : cToBytes P s d x H = some (v, H')) : DoneV P w0 ρ (convert s d x') w v H' := by
  unfold cToBytes at hc
  split at hc
  · rename_i e h1 h2
    split at hc
    · rename_i h3
      unfold toBytes at hc
      split at hc
      · rename_i b
        split at hc
        · rename_i hb
          cases hc
          rw [hx.string_inv]
          obtain ⟨cap, hcap⟩ : ∃ cap, cap = (Question.appendCap b.size 0 e).cut (w.tape w.drawn (.appendCap b.size 0 e)) := ⟨_, rfl⟩
          have hge : b.size ≤ cap := by rw [hcap]; simp only [Question.cut]; omega
          have hsz : (b.data.map (fun c : UInt8 => Value.int .u8 c.toNat) ++ Array.replicate (cap - b.size) (Value.int .u8 0)).size = cap := by
            simp
            have : b.data.size = b.size := rfl
            omega
          have h1' : Rel w0 ρ H w.drew := h.drew
          obtain ⟨ρ', le, r, er⟩ := h1'.newCells (e := e) (e' := e) (fz := (cap, cap + 1)) (c := b.data.toList.map fun c : UInt8 => .int .u8 c.toNat) (c' := b.data.map (fun c : UInt8 => Value.int .u8 c.toNat) ++ Array.replicate (cap - b.size) (Value.int .u8 0))
            (by rw [hsz]; simpa using hge) (by
              have : ((b.data.map (fun c : UInt8 => Value.int .u8 c.toNat) ++ Array.replicate (cap - b.size) (Value.int .u8 0)).toList.take (b.data.toList.map fun c : UInt8 => Value.int .u8 c.toNat).length) = b.data.toList.map fun c : UInt8 => Value.int .u8 c.toNat := by
                simp
              rw [this]
              apply VRs.clean
              rw [List.all_eq_true]
              intro x hx'
              rw [List.mem_map] at hx'
              obtain ⟨b, _, rfl⟩ := hx'
              rfl) (fun k hk => by rw [hsz] at hk; omega)
          refine ⟨_, ρ', .slice (some ⟨w.heap.size, 0, none⟩) b.size cap, ?_, le, r, ?_⟩
          · simp only [convert, Sem.run_bind, run_und h1, run_und h2, Result.andThen_ok, run_und h3, Conv.stringToBytes, run_choose, Question.forced, Bool.false_eq_true, if_false, ← hcap, newRow, run_newObj, Sem.run_pure, markStringish, run_shape]
            have hshape : ({ w with drawn := w.drawn + 1, heap := w.heap.push (Obj.cells (b.data.map (fun c : UInt8 => Value.int .u8 c.toNat) ++ Array.replicate (cap - b.size) (Value.int .u8 0)) e) } : World).shape? w.heap.size = some (e, cap) := by
              simp only [World.shape?, Array.getElem?_push, if_pos]
              rw [hsz]
            rw [hshape]
            simp only [run_freeze, Result.andThen_ok]
            congr 1
            simp only [World.freeze]
            rw [if_neg (by omega)]
            have hdh : w.drew.heap = w.heap := rfl
            simp only [World.alloc, hdh]
            congr 1
            apply Array.ext_getElem?
            intro i
            rw [Array.getElem?_modify]
            by_cases hi : w.heap.size = i
            · subst hi
              simp
            · rw [if_neg hi]
              have hi' : ¬ i = w.heap.size := fun e => hi e.symm
              simp only [Array.getElem?_push, if_neg hi']
          · have := VR.sliceIn (ρ := ρ') H.n 0 _ b.size 1 cap er hge (by rw [hsz]; simp)
            simpa using this
        · cases hc
      · cases hc
    · cases hc
  · cases hc
theorem makeMap_done (h : Rel w0 ρ H w) (t : TypeId) : DoneV P w0 ρ (Instr.makeMap t none) w (.map (some H.n)) (H.new (.map [] 0)) := by
  obtain ⟨r, l, e⟩ := h.new (.map [] 0) (.map #[] 0) 0 ⟨#[], rfl, rfl, fun k hk => by simp at hk⟩
  exact ⟨_, _, .map (some w.heap.size), by simp [Instr.makeMap], l, r, .map H.n _ e⟩
theorem makeSlice_done (h : Rel w0 ρ H w) {t : TypeId} {l c l' c' v : Value} {H' : CH} (hl : VR ρ l l') (hc : VR ρ c c') (hm : cMakeSlice P t l c H = some (v, H')) : DoneV P w0 ρ (Instr.makeSlice t l' c') w v H' := by
  unfold cMakeSlice at hm
  split at hm
  · rename_i e kl l kc c hu
    simp only [Option.bind_eq_some_iff] at hm
    obtain ⟨i, hi, hm⟩ := hm
    split at hm
    · rename_i hb
      obtain ⟨b1, b2, b3, b4, b5⟩ := hb
      simp only [Option.bind_eq_some_iff] at hm
      obtain ⟨z, hz, hm⟩ := hm
      split at hm
      · rename_i hzl
        cases hm
        rw [hl.int_inv, hc.int_inv]
        obtain ⟨zv, h1, h2, h3⟩ := zeroOf_some hz
        have hmax : IntKind.i64.max = 9223372036854775807 := by decide
        rw [hmax] at b4
        have wl : IntKind.i64.wrap l = l := by simp [IntKind.wrap, IntKind.bits, IntKind.signed]; omega
        have wc : IntKind.i64.wrap c = c := by simp [IntKind.wrap, IntKind.bits, IntKind.signed]; omega
        have hzs : zv.cells.size = i.size := by rw [← h2] at hzl; simpa using hzl
        have hs : szOf P e = some i.size := by simp [szOf, hi]
        -- the row
        have hrow : ∃ row : Array Value, (∀ w : World, (if c.toNat * i.size = 0 then pure #[] else do pure (← zeroValue e).cells : Sem (Array Value)).run P w = .ok (if c.toNat * i.size = 0 then #[] else zv.cells) w) ∧
            row = (Array.range (c.toNat * i.size)).map ((if c.toNat * i.size = 0 then #[] else zv.cells)[· % (if c.toNat * i.size = 0 then #[] else zv.cells).size]!) ∧ row.toList = rep c.toNat z := by
          refine ⟨_, fun w => by split <;> simp [run_zer h1], rfl, ?_⟩
          by_cases h0 : c.toNat * i.size = 0
          · have hc0 : c.toNat = 0 := by
              rcases Nat.mul_eq_zero.1 h0 with h' | h'
              · exact h'
              · exact absurd h' b5
            rw [h0, hc0]
            simp [rep]
          · rw [if_neg h0]
            rcases range_zero zv.cells c.toNat i.size (fun _ => hzs) with h' | h'
            · rw [h', h2]
            · exact absurd h' h0
        obtain ⟨row, hz1, hrow1, hrow2⟩ := hrow
        obtain ⟨ρ', le, r, er⟩ := h.newCells (e := e) (e' := e) (fz := (0, 0)) (c := rep c.toNat z) (c' := row) (by rw [← hrow2]; simp)
          (by rw [← hrow2]; simp only [Array.length_toList]; rw [List.take_of_length_le (by simp), hrow2]; exact VRs.clean (rep_clean h3)) (fun k _ => by omega)
        refine ⟨_, ρ', .slice (some ⟨w.heap.size, 0, none⟩) l.toNat c.toNat, ?_, le, r, ?_⟩
        · have n1 : ¬ (c < 0 ∨ (i.bytes : Int) * c > 2 ^ 48) := by
            have : (i.bytes : Int) * c = c * i.bytes := Int.mul_comm _ _
            omega
          have nb : (decide (c < 0) || decide ((i.bytes : Int) * c > 2 ^ 48)) = false := by
            rw [Bool.or_eq_false_iff, decide_eq_false_iff_not, decide_eq_false_iff_not]
            omega
          have hcond : ((decide (c < 0) || decide ((i.bytes : Int) * c > 2 ^ 48)) || decide (l < 0) || decide (l > c)) = false := by
            rw [nb]
            simp
            omega
          have hz1' := hz1 w
          simp only [Instr.makeSlice, Sem.run_bind, run_und hu, Result.andThen_ok, asInt, asIntOf, Sem.run_pure, run_tinfo hi, wl, wc, hcond, Bool.false_eq_true, if_false, run_askRoom, run_siz hs]
          by_cases h0 : c.toNat * i.size = 0
          · simp only [h0, if_true] at hrow1 ⊢
            simp only [Sem.run_bind, Sem.run_pure, Result.andThen_ok, newRow, run_newObj, ← hrow1]
            rfl
          · simp only [h0, if_false] at hrow1 ⊢
            simp only [Sem.run_bind, run_zer h1, Sem.run_pure, Result.andThen_ok, newRow, run_newObj, ← hrow1]
            rfl
        · exact .sliceOf H.n 0 _ _ _ er (by omega)
      · cases hm
    · cases hm
  · cases hm
end
end Go.Cn
