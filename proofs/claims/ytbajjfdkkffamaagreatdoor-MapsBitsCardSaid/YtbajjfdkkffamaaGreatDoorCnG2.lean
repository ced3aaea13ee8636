/- append and copy. -/
import Derived.Test.YtbajjfdkkffamaaGreatDoorCnG
namespace Go.Cn
set_option linter.unusedVariables false
set_option linter.unusedSimpArgs false
section
variable {P : Program} {w0 : Base} {w : World} {ρ : Map} {H : CH}
/-- A block of the run's own is given up, and another one is laid over its place. -/
theorem Rel.adopt (h : Rel w0 ρ H w) {b : Nat} {x y : CObj} {i j : Img} (hb : H.get b = some x) (hl : H.lim ≤ b) (hi : ρ b = some i) (hj : j.x = i.x) (o : Obj) (ho : OR ρ j True y (some o))
    {w' : World} (hw : w'.heap = w.heap.setIfInBounds i.x o) (h1 : w'.os = w.os) (h2 : w'.tape = w.tape) (h3 : w'.output = w.output) :
    Rel w0 (ρ.ext H.n j) ((H.put b none).new y) w' ∧ ρ.le (ρ.ext H.n j) ∧ (ρ.ext H.n j) H.n = some j := by
  have hx : i.x < w.heap.size := h.img b i hi
  have hbn : b < H.n := h.lt hb
  have hsz : w'.heap.size = w.heap.size := by rw [hw]; simp
  have hsame : w'.heap[i.x]? = some o := by rw [hw]; simp [hx]
  have hother : ∀ k, k ≠ i.x → w'.heap[k]? = w.heap[k]? := fun k hk => by rw [hw]; simp [Array.getElem?_setIfInBounds]; intro e; exact absurd e.symm hk
  have hle : ρ.le (ρ.ext H.n j) := Map.le_ext (h.out _ (Nat.le_refl _))
  have hat : ∀ c, c ≠ H.n → (ρ.ext H.n j) c = ρ c := fun c hc => by simp [Map.ext, hc]
  have hnew : (ρ.ext H.n j) H.n = some j := by simp [Map.ext]
  have hget : ∀ c, c ≠ H.n → ((H.put b none).new y).get c = if c = b then none else H.get c := fun c hc => by
    rw [CH.get_new_ne (H.put b none) c y hc]
    by_cases ec : c = b
    · subst ec; simp
    · rw [CH.get_put_ne _ _ _ _ ec, if_neg ec]
  have hgetn : ((H.put b none).new y).get H.n = some y := CH.get_new (H.put b none) y
  refine ⟨?_, hle, hnew⟩
  refine { lim := ?_, un := ?_, out := ?_, bare := ?_, img := ?_, high := ?_, low := ?_, inj := ?_, obj := ?_, below := ?_, zero := ?_, glob := ?_ }
  · have := h.lim; simp; omega
  · intro c hc
    obtain ⟨h1, h2, h3⟩ := h.un c hc
    exact ⟨by rw [hat c (by omega)]; exact h1, by simp; omega, h3⟩
  · intro c hc
    simp at hc
    rw [hat c (by omega)]; exact h.out c (by omega)
  · intro c hc
    simp at hc
    rw [hget c (by omega), if_neg (by omega)]; exact h.bare c (by omega)
  · intro c q e
    rw [hsz]
    by_cases ec : c = H.n
    · subst ec; rw [hnew] at e; cases e; rw [hj]; exact hx
    · rw [hat c ec] at e; exact h.img c q e
  · intro c q hc e
    simp at hc
    by_cases ec : c = H.n
    · subst ec; rw [hnew] at e; cases e; rw [hj]; exact h.high b i hl hi
    · rw [hat c ec] at e; exact h.high c q hc e
  · intro c q hc e
    have hc : c < H.lim := hc
    have := h.lim
    rw [hat c (by omega)] at e; exact h.low c q hc e
  · have live : ∀ c, c ≠ H.n → ((H.put b none).new y).get c ≠ none → c ≠ b ∧ H.get c ≠ none := fun c hc hn => by
      rw [hget c hc] at hn
      by_cases ec : c = b
      · rw [if_pos ec] at hn; exact absurd rfl hn
      · rw [if_neg ec] at hn; exact ⟨ec, hn⟩
    intro c c' q q' l l' hc hc' e e' hx'
    by_cases ec : c = H.n
    · by_cases ec' : c' = H.n
      · omega
      · obtain ⟨n1, n2⟩ := live c' ec' hc'
        rw [hat c' ec'] at e'
        subst ec; rw [hnew] at e; cases e
        exact absurd (h.inj b c' i q' hl l' (by rw [hb]; simp) n2 hi e' (by rw [← hj]; exact hx')).symm n1
    · obtain ⟨n1, n2⟩ := live c ec hc
      rw [hat c ec] at e
      by_cases ec' : c' = H.n
      · subst ec'; rw [hnew] at e'; cases e'
        exact absurd (h.inj c b q i l hl n2 (by rw [hb]; simp) e hi (by rw [← hj]; exact hx')) n1
      · obtain ⟨n1', n2'⟩ := live c' ec' hc'
        rw [hat c' ec'] at e'
        exact h.inj c c' q q' l l' n2 n2' e e' hx'
  · intro c q e m
    by_cases ec : c = H.n
    · subst ec
      rw [hgetn] at e; cases e
      refine ⟨j, hnew, ?_⟩
      rw [hj, hsame]
      have := ho.mono hle
      cases y with
      | cells c e => obtain ⟨c', e', fz, a1, a2, a3, a4, a5⟩ := this; exact ⟨c', e', fz, a1, a2, a3, a4, fun _ => a5 trivial⟩
      | map es cl => exact this
      | loop l => exact this
      | defs b => exact this
    · rw [hget c ec] at e
      by_cases ecb : c = b
      · rw [if_pos ecb] at e; cases e
      · rw [if_neg ecb] at e
        obtain ⟨u, hu, hq⟩ := h.obj c q e (by rw [hat c ec] at m; exact m)
        refine ⟨u, by rw [hat c ec]; exact hu, ?_⟩
        rw [hother]
        · exact hq.mono hle
        · intro ex
          rcases Nat.lt_or_ge c H.lim with hcl | hcl
          · have := h.low c u hcl hu
            have := h.high b i hl hi
            omega
          · exact ecb (h.inj c b u i hcl hl (by rw [e]; simp) (by rw [hb]; simp) hu hi ex)
  · refine h.below.trans ⟨h1, h2, h3, by rw [hsz]; exact Nat.le_refl _, fun k hk => hother k ?_⟩
    have := h.high b i hl hi
    have hk' : k < w0.heap.size := hk
    omega
  · rw [hsz]; exact h.zero
  · exact h.glob.mono hle

/-- What is appended, or copied, is read. -/
theorem src_run (h : Rel w0 ρ H w) {n k : Nat} {x x' : Value} {l : List Value} (hx : VR ρ x x') (hs : srcCells n x H = some (k, l)) :
    (Builtin.lenOf x').run P w = .ok k w ∧ l.length = k * n ∧ ∃ l', (∀ w' : World, w'.heap = w.heap → (Builtin.firstCells n k x').run P w' = .ok l' w') ∧ VRs ρ l l'.toList := by
  have dr : ∀ (w' : World), w'.heap = w.heap → ∀ (a : Addr) (m : Nat) (r : Array Value), (loadCells a m).run P w = .ok r w → (loadCells a m).run P w' = .ok r w' := by
    intro w' hh a m r hr
    have key : ∀ (m i : Nat) (acc r : Array Value), (loadCellsFrom a i m acc).run P w = .ok r w → (loadCellsFrom a i m acc).run P w' = .ok r w' := by
      intro m
      induction m with
      | zero => intro i acc r hr; simp only [loadCellsFrom, Sem.run_pure] at hr ⊢; cases hr; rfl
      | succ m ih =>
        intro i acc r hr
        have hc : w'.cell? (a.add i) = w.cell? (a.add i) := by simp only [World.cell?, hh]
        have hf : w'.farLoad P (a.add i) (Mode.plain == Mode.atomic) = w.farLoad P (a.add i) (Mode.plain == Mode.atomic) := by
          simp only [World.farLoad, hh, World.noCell, World.viewLoad, World.seen]
        simp only [loadCellsFrom, Sem.run_bind, run_load, hc, hf] at hr ⊢
        cases hcell : w.cell? (a.add i) with
        | some v => simp only [hcell, Result.andThen_ok] at hr ⊢; exact ih _ _ _ hr
        | none =>
          simp only [hcell] at hr ⊢
          cases hfl : w.farLoad P (a.add i) (Mode.plain == Mode.atomic) with
          | ok q => obtain ⟨v, ads⟩ := q; simp only [hfl, Result.andThen_ok] at hr ⊢; exact ih _ _ _ hr
          | error e => simp only [hfl, Result.andThen_halt] at hr; cases hr
    exact key m 0 #[] r hr
  unfold srcCells at hs
  split at hs
  · rename_i c
    cases hs
    cases hx
    exact ⟨rfl, by simp, #[], fun w' _ => by simp [Builtin.firstCells], VRs.nil ρ⟩
  · rename_i a m c
    simp only [Option.map_eq_some_iff] at hs
    obtain ⟨l0, hl, e⟩ := hs
    cases e
    have hlen : l.length = k * n := by
      unfold CH.loadN at hl
      split at hl
      · split at hl
        · cases hl; rename_i hc; simp; omega
        · cases hl
      · cases hl
    have out : k = 0 → l = [] := fun e => by subst e; simpa using hlen
    cases hx with
    | sliceOf b o i _ q hb hk =>
      obtain ⟨vs', r, vr⟩ := h.loadN (P := P) (a := ⟨b, o, none⟩) hb rfl hl
      exact ⟨rfl, hlen, vs', fun w' hh => by simp only [Builtin.firstCells]; exact dr w' hh _ _ _ r, vr⟩
    | sliceIn b o i _ s q hb hk hN =>
      obtain ⟨vs', r, vr⟩ := h.loadN (P := P) (a := ⟨b, o, none⟩) hb rfl hl
      exact ⟨rfl, hlen, vs', fun w' hh => by simp only [Builtin.firstCells]; exact dr w' hh _ _ _ r, vr⟩
    | sliceOut b o a i s hb => exact ⟨rfl, hlen, #[], fun w' _ => by simp [Builtin.firstCells, loadCells, loadCellsFrom], by rw [out rfl]; exact VRs.nil ρ⟩
    | sliceOut1 b o a i hb => exact ⟨rfl, hlen, #[], fun w' _ => by simp [Builtin.firstCells, loadCells, loadCellsFrom], by rw [out rfl]; exact VRs.nil ρ⟩
  · rename_i s
    split at hs
    · rename_i hn
      cases hs
      rw [hx.string_inv]
      refine ⟨rfl, ?_, (s.extract 0 s.size).data.map fun b => .int .u8 b.toNat, fun w' _ => by simp only [Builtin.firstCells, Sem.run_pure], ?_⟩
      · subst hn; simp
      · have e1 : s.extract 0 s.size = s := by
          apply ByteArray.ext
          simp
        rw [e1]
        simp only [Array.toList_map]
        apply VRs.clean
        rw [List.all_eq_true]
        intro x hx'
        rw [List.mem_map] at hx'
        obtain ⟨b, _, rfl⟩ := hx'
        rfl
    · cases hs
  · cases hs
theorem elemLay_some {e : TypeId} {n b : Nat} (h : elemLay P e = some (n, b)) : ∃ i zv, P.info? e = some i ∧ i.size = n ∧ i.bytes = b ∧ n ≠ 0 ∧ (P.info? e).bind (·.zero) = some zv ∧ zv.cells.size = n := by
  simp only [elemLay, Option.bind_eq_some_iff] at h
  obtain ⟨i, hi, z, hz, h⟩ := h
  split at h
  · cases h
  · rename_i hc
    cases h
    obtain ⟨zv, h1, h2, h3⟩ := zeroOf_some hz
    refine ⟨i, zv, hi, rfl, rfl, fun e => hc (.inl e), h1, ?_⟩
    have : z.length = i.size := Decidable.byContradiction fun e => hc (.inr e)
    rw [← h2] at this
    simpa using this
theorem growBy_le (need : Nat) : ∀ (r c : Nat), 256 ≤ c → c ≤ 2 * need → Builtin.growBy need r c ≤ 2 * need
  | 0, c, _, h => h
  | r + 1, c, h0, h => by
    unfold Builtin.growBy
    split
    · exact h
    · exact growBy_le need r _ (by omega) (by omega)
theorem nextcap_le {need sCap : Nat} (h : sCap < need) : Builtin.nextslicecap need sCap ≤ 2 * need := by
  unfold Builtin.nextslicecap
  split
  · omega
  · split
    · omega
    · exact growBy_le need 4 sCap (by omega) (by omega)
/-- Room within the capacity. -/
theorem run_append_fits {ts : Array TypeId} {ty t e xt : TypeId} {d : TypeDesc} {sz n k cap : Nat} {base : Option Addr} {x' : Value} {new : Array Value} {w w' : World} (h0 : ts[0]? = some t) (h1 : ts[1]? = some xt)
    (hu : P.underlying t = some (.slice e)) (hx : P.underlying xt = some d) (hd : notInt d = true) (hs : (sizeOf e).run P w = .ok sz w) (hl : (Builtin.lenOf x').run P w = .ok k w)
    (hf : (Builtin.firstCells sz k x').run P w = .ok new w) (hle : n + k ≤ cap)
    (hst : match base with | none => w' = w | some a => (storeCells (a.add (n * sz)) new.toList).run P w = .ok () w') :
    (Builtin.append_ ts ty #[.slice base n cap, x']).run P w = .ok (.slice base (n + k) cap) w' := by
  cases base with
  | none =>
    simp only at hst; subst hst
    cases d with
    | slice _ => simp [Builtin.append_, h0, h1, run_und hu, run_und hx, hs, hl, hf, hle]
    | string => simp [Builtin.append_, h0, h1, run_und hu, run_und hx, hs, hl, hf, hle]
    | _ => simp [notInt] at hd
  | some a =>
    simp only at hst
    cases d with
    | slice _ => simp [Builtin.append_, h0, h1, run_und hu, run_und hx, hs, hl, hf, hle, hst]
    | string => simp [Builtin.append_, h0, h1, run_und hu, run_und hx, hs, hl, hf, hle, hst]
    | _ => simp [notInt] at hd
theorem run_append_grows {ts : Array TypeId} {ty t e xt : TypeId} {d : TypeDesc} {n k cap : Nat} {base : Option Addr} {x' : Value} {old new : Array Value} {i : TypeInfo} {zv : Value} {w : World} (h0 : ts[0]? = some t) (h1 : ts[1]? = some xt)
    (hu : P.underlying t = some (.slice e)) (hx : P.underlying xt = some d) (hd : notInt d = true) (hi : P.info? e = some i) (hz0 : (P.info? e).bind (·.zero) = some zv) (hl : (Builtin.lenOf x').run P w = .ok k w)
    (ho : (Builtin.firstCells i.size n (.slice base n cap)).run P w.drew = .ok old w.drew) (hf : (Builtin.firstCells i.size k x').run P w.drew = .ok new w.drew) (hlt : cap < n + k) (hb : (n + k) * i.bytes ≤ 2 ^ 46) (hn : n + k ≤ 2 ^ 46) :
    ∃ cap', n + k ≤ cap' ∧ (Builtin.append_ ts ty #[.slice base n cap, x']).run P w =
      .ok (.slice (some ⟨w.heap.size, 0, none⟩) (n + k) cap') (w.drew.alloc (.cells (old ++ new ++ Builtin.zeroCells zv.cells (cap' - (n + k))) e)) := by
  have hng : ¬ (n + k ≤ cap) := by omega
  have hcap : ¬ (Builtin.nextslicecap (n + k) cap * i.bytes > 2 ^ 48) := by
    have h1 := nextcap_le hlt
    have h2 : Builtin.nextslicecap (n + k) cap * i.bytes ≤ 2 * (n + k) * i.bytes := Nat.mul_le_mul_right _ h1
    have h3 : 2 * (n + k) * i.bytes = 2 * ((n + k) * i.bytes) := by rw [Nat.mul_assoc]
    omega
  have hs : ∀ w : World, (sizeOf e).run P w = .ok i.size w := fun w => run_siz (by simp [szOf, hi])
  refine ⟨(Question.appendCap (n + k) cap e).cut (w.tape w.drawn (.appendCap (n + k) cap e)), by simp only [Question.cut]; omega, ?_⟩
  have hmax' : ¬ ((9223372036854775807 : Int) < (n : Int) + (k : Int)) := by omega
  cases d with
  | slice _ => simp [Builtin.append_, h0, h1, run_und hu, run_und hx, hs, hl, hng, hmax', hcap, run_tinfo hi, Question.forced, ho, hf, run_zer hz0, newRow]
  | string => simp [Builtin.append_, h0, h1, run_und hu, run_und hx, hs, hl, hng, hmax', hcap, run_tinfo hi, Question.forced, ho, hf, run_zer hz0, newRow]
  | _ => simp [notInt] at hd
theorem run_appendZ_0 {ts : Array TypeId} {ty t e xt : TypeId} {kk kx : IntKind} {n cap : Nat} {a : Addr} {i : TypeInfo} {w : World} (h0 : ts[0]? = some t) (h1 : ts[1]? = some xt)
    (hu : P.underlying t = some (.slice e)) (hx : P.underlying xt = some (.int kk)) (hi : P.info? e = some i) (hle : n ≤ cap) :
    (Builtin.append_ ts ty #[.slice (some a) n cap, .int kx 0]).run P w = .ok (.slice (some a) n cap) w := by
  have hs : ∀ w : World, (sizeOf e).run P w = .ok i.size w := fun w => run_siz (by simp [szOf, hi])
  have w0 : IntKind.i64.wrap 0 = 0 := by decide
  simp [Builtin.append_, h0, h1, run_und hu, run_und hx, hs, asInt, asIntOf, w0, run_tinfo hi, hle, storeCells]
theorem run_appendZ_grows {ts : Array TypeId} {ty t e xt : TypeId} {kk kx : IntKind} {m : Int} {n cap : Nat} {a : Addr} {old : Array Value} {i : TypeInfo} {zv : Value} {w : World} (h0 : ts[0]? = some t) (h1 : ts[1]? = some xt)
    (hu : P.underlying t = some (.slice e)) (hx : P.underlying xt = some (.int kk)) (hi : P.info? e = some i) (hz0 : (P.info? e).bind (·.zero) = some zv) (hm0 : 0 ≤ m) (hm1 : m ≤ 2 ^ 40) (hmn : m ≠ 0) (hsz : i.size ≠ 0)
    (ho : (loadCells a (n * i.size)).run P w.drew = .ok old w.drew) (hlt : cap < n + m.toNat) (hb : (n + m.toNat) * i.bytes ≤ 2 ^ 46) (hn : n + m.toNat ≤ 2 ^ 46) :
    ∃ cap', n + m.toNat ≤ cap' ∧ (Builtin.append_ ts ty #[.slice (some a) n cap, .int kx m]).run P w =
      .ok (.slice (some ⟨w.heap.size, 0, none⟩) (n + m.toNat) cap') (w.drew.alloc (.cells (old ++ Builtin.zeroCells zv.cells m.toNat ++ Builtin.zeroCells zv.cells (cap' - (n + m.toNat))) e)) := by
  obtain ⟨k, rfl⟩ := Int.eq_ofNat_of_zero_le hm0
  simp only [Int.toNat_natCast] at hlt hb hn ⊢
  have hng : ¬ (n + k ≤ cap) := by omega
  have hcap : ¬ (Builtin.nextslicecap (n + k) cap * i.bytes > 2 ^ 48) := by
    have h1 := nextcap_le hlt
    have h2 : Builtin.nextslicecap (n + k) cap * i.bytes ≤ 2 * (n + k) * i.bytes := Nat.mul_le_mul_right _ h1
    have h3 : 2 * (n + k) * i.bytes = 2 * ((n + k) * i.bytes) := by rw [Nat.mul_assoc]
    omega
  have hs : ∀ w : World, (sizeOf e).run P w = .ok i.size w := fun w => run_siz (by simp [szOf, hi])
  refine ⟨(Question.appendCap (n + k) cap e).cut (w.tape w.drawn (.appendCap (n + k) cap e)), by simp only [Question.cut]; omega, ?_⟩
  have hmax' : ¬ ((9223372036854775807 : Int) < (n : Int) + (k : Int)) := by omega
  have wk : IntKind.i64.wrap (k : Int) = k := by simp [IntKind.wrap, IntKind.bits, IntKind.signed]; omega
  have hkb : ¬ ((281474976710656 : Int) < (k : Int) * (i.bytes : Int)) := by
    have h1 : k * i.bytes ≤ (n + k) * i.bytes := Nat.mul_le_mul_right _ (by omega)
    have h2 : ((k * i.bytes : Nat) : Int) = (k : Int) * (i.bytes : Int) := by push_cast; rfl
    omega
  have hk0 : k ≠ 0 := by omega
  have hk00 : ¬ ((k : Int) < 0) := by omega
  have hks : k * i.size ≠ 0 := Nat.mul_ne_zero hk0 hsz
  simp [Builtin.append_, h0, h1, run_und hu, run_und hx, hs, asInt, asIntOf, wk, hk00, hks, hkb, hng, hmax', hcap, run_tinfo hi, Question.forced, ho, Builtin.firstCells, run_zer hz0, newRow, hk0, hsz]
end
end Go.Cn
