/- How the canonical heap stands to the machine's world, and that it goes on so when a block is made, written or given up. -/
import Derived.Test.YtbajjfdkkffamaaGreatDoorCnA
import Derived.Laws.IdiomCopy
namespace Go.Cn
set_option linter.unusedVariables false
set_option linter.unusedSimpArgs false
open Go.RowKit (Below)

/-- Entries of a map. -/
def ERs (ρ : Map) (es es' : List MapEntry) : Prop :=
  es.length = es'.length ∧ ∀ k, k < es.length → VR ρ (es.getD k default).key (es'.getD k default).key ∧ VR ρ (es.getD k default).val (es'.getD k default).val ∧ (es.getD k default).born = (es'.getD k default).born
theorem ERs.mono {ρ ρ' : Map} (hle : ρ.le ρ') {es es' : List MapEntry} (h : ERs ρ es es') : ERs ρ' es es' :=
  ⟨h.1, fun k hk => let ⟨a, b, c⟩ := h.2 k hk; ⟨a.mono hle, b.mono hle, c⟩⟩

/-- A loop's record. -/
structure LR (ρ : Map) (l l' : Loop) : Prop where
  state : l'.state = l.state
  pending : l'.pending = l.pending
  tmps : VRs ρ l.tmps.toList l'.tmps.toList
  params : l'.params = l.params
  assign : l'.assign = l.assign
  body : l'.body = l.body
  defers : ∃ i, ρ l.defers = some i ∧ l'.defers = i.x
theorem LR.mono {ρ ρ' : Map} (hle : ρ.le ρ') {l l' : Loop} (h : LR ρ l l') : LR ρ' l l' :=
  ⟨h.state, h.pending, h.tmps.mono hle, h.params, h.assign, h.body, let ⟨i, a, b⟩ := h.defers; ⟨i, hle _ _ a, b⟩⟩

/-- A block of the canonical heap and the machine's. -/
def OR (ρ : Map) (i : Img) (own : Prop) : CObj → Option Obj → Prop
  | .cells c _, o => ∃ c' e' fz, o = some (.cells c' e' fz) ∧ c'.size = i.N ∧ i.d + c.length ≤ c'.size ∧ (∀ k, k < c.length → VR ρ (c.getD k undef) (c'.getD (i.d + k) undef)) ∧
      (own → ∀ k, k < c'.size → ¬ (fz.1 ≤ k ∧ k < fz.2))
  | .map es clock, o => ∃ es', o = some (.map es' clock) ∧ ERs ρ es es'.toList
  | .loop l, o => ∃ l', o = some (.loop l') ∧ LR ρ l l'
  | .defs b, o => o = some (.deferred (if b then some [] else none))
theorem OR.mono {ρ ρ' : Map} (hle : ρ.le ρ') {i : Img} {own : Prop} {x : CObj} {o : Option Obj} (h : OR ρ i own x o) : OR ρ' i own x o := by
  cases x with
  | cells c e => obtain ⟨c', e', fz, a, b, d, f, g⟩ := h; exact ⟨c', e', fz, a, b, d, fun k hk => (f k hk).mono hle, g⟩
  | map es cl => obtain ⟨es', a, b⟩ := h; exact ⟨es', a, b.mono hle⟩
  | loop l => obtain ⟨l', a, b⟩ := h; exact ⟨l', a, b.mono hle⟩
  | defs b => exact h

/-- Where a run began, and which canonical blocks stand for none of the machine's as yet. -/
structure Base where
  w : World
  U : Nat → Prop
abbrev Base.heap (b : Base) : Array Obj := b.w.heap
def Base.of (w : World) : Base := ⟨w, fun _ => False⟩
structure Rel (w0 : Base) (ρ : Map) (H : CH) (w : World) : Prop where
  lim : H.lim ≤ H.n
  un : ∀ b, w0.U b → ρ b = none ∧ b < H.n ∧ H.lim ≤ b
  out : ∀ b, H.n ≤ b → ρ b = none
  bare : ∀ b, H.n ≤ b → H.get b = none
  img : ∀ b i, ρ b = some i → i.x < w.heap.size
  high : ∀ b i, H.lim ≤ b → ρ b = some i → w0.heap.size ≤ i.x
  low : ∀ b i, b < H.lim → ρ b = some i → i.x < w0.heap.size
  inj : ∀ b b' i i', H.lim ≤ b → H.lim ≤ b' → H.get b ≠ none → H.get b' ≠ none → ρ b = some i → ρ b' = some i' → i.x = i'.x → b = b'
  obj : ∀ b o, H.get b = some o → (∃ i, ρ b = some i) → ∃ i, ρ b = some i ∧ OR ρ i (H.lim ≤ b) o w.heap[i.x]?
  below : Below w0.heap.size w0.w w
  zero : w0.heap.size ≤ w.heap.size
  glob : GlobOK ρ

theorem Rel.lt {w0 : Base} {ρ : Map} {H : CH} {w : World} (h : Rel w0 ρ H w) {b : Nat} {o : CObj} (hb : H.get b = some o) : b < H.n := by
  rcases Nat.lt_or_ge b H.n with h' | h'
  · exact h'
  · rw [h.bare b h'] at hb; cases hb

section
variable {w0 : Base} {w : World} {ρ : Map} {H : CH}

/-- The tape, and how much has been drawn, are no matter. -/
theorem Rel.same (h : Rel w0 ρ H w) {w' : World} (hh : w'.heap = w.heap) (ho : w'.os = w.os) (ht : w'.tape = w.tape) (hu : w'.output = w.output) : Rel w0 ρ H w' where
  lim := h.lim
  un := h.un
  out := h.out
  bare := h.bare
  img := fun b i e => by rw [hh]; exact h.img b i e
  high := h.high
  low := h.low
  inj := h.inj
  obj := fun b o e m => by rw [hh]; exact h.obj b o e m
  below := ⟨ho.trans h.below.os, ht.trans h.below.tape, hu.trans h.below.output, by rw [hh]; exact h.below.size, fun k hk => by rw [hh]; exact h.below.block k hk⟩
  zero := by rw [hh]; exact h.zero
  glob := h.glob
theorem Rel.drew (h : Rel w0 ρ H w) : Rel w0 ρ H { w with drawn := w.drawn + 1 } := h.same rfl rfl rfl rfl

def Map.ext (ρ : Map) (b : Nat) (i : Img) : Map := fun c => if c = b then some i else ρ c
theorem Map.le_ext {ρ : Map} {b : Nat} {i : Img} (h : ρ b = none) : ρ.le (ρ.ext b i) := fun c j e => by
  by_cases hc : c = b
  · subst hc; rw [h] at e; cases e
  · simp [Map.ext, hc, e]

/-- A block is made. -/
theorem Rel.new (h : Rel w0 ρ H w) (x : CObj) (o : Obj) (N : Nat) (hx : OR ρ ⟨w.heap.size, 0, N⟩ True x (some o)) :
    Rel w0 (ρ.ext H.n ⟨w.heap.size, 0, N⟩) (H.new x) (w.alloc o) ∧ ρ.le (ρ.ext H.n ⟨w.heap.size, 0, N⟩) ∧ (ρ.ext H.n ⟨w.heap.size, 0, N⟩) H.n = some ⟨w.heap.size, 0, N⟩ := by
  have hle : ρ.le (ρ.ext H.n ⟨w.heap.size, 0, N⟩) := Map.le_ext (h.out _ (Nat.le_refl _))
  have hold : ∀ k, k < w.heap.size → (w.alloc o).heap[k]? = w.heap[k]? := fun k hk => Below.heap_alloc w o k hk
  have hnew : (w.alloc o).heap[w.heap.size]? = some o := by show (w.heap.push o)[w.heap.size]? = some o; simp
  have hat : ∀ b, b ≠ H.n → (ρ.ext H.n ⟨w.heap.size, 0, N⟩) b = ρ b := fun b hb => by simp [Map.ext, hb]
  refine ⟨?_, hle, by simp [Map.ext]⟩
  refine { lim := ?_, un := ?_, out := ?_, bare := ?_, img := ?_, high := ?_, low := ?_, inj := ?_, obj := ?_, below := ?_, zero := ?_, glob := ?_ }
  · have := h.lim; simp; omega
  · intro b hb
    obtain ⟨h1, h2, h3⟩ := h.un b hb
    exact ⟨by rw [hat b (by omega)]; exact h1, by simp; omega, h3⟩
  · intro b hb
    simp at hb
    rw [hat b (by omega)]; exact h.out b (by omega)
  · intro b hb
    simp at hb
    rw [CH.get_new_ne _ _ _ (by omega)]; exact h.bare b (by omega)
  · intro b i e
    by_cases eb : b = H.n
    · subst eb; simp [Map.ext] at e; subst e; simp
    · rw [hat b eb] at e; have := h.img b i e; simp; omega
  · intro b i hb e
    simp at hb
    by_cases eb : b = H.n
    · subst eb; simp [Map.ext] at e; subst e; exact h.zero
    · rw [hat b eb] at e; exact h.high b i hb e
  · intro b i hb e
    have hb : b < H.lim := hb
    have := h.lim
    rw [hat b (by omega)] at e; exact h.low b i hb e
  · intro b b' i i' l l' hb hb' e e' hx
    by_cases eb : b = H.n
    · by_cases eb' : b' = H.n
      · omega
      · rw [hat b' eb'] at e'
        have := h.img b' i' e'
        subst eb; simp [Map.ext] at e; subst e; simp at hx; omega
    · by_cases eb' : b' = H.n
      · rw [hat b eb] at e
        have := h.img b i e
        subst eb'; simp [Map.ext] at e'; subst e'; simp at hx; omega
      · rw [hat b eb] at e; rw [hat b' eb'] at e'
        rw [CH.get_new_ne _ _ _ eb] at hb; rw [CH.get_new_ne _ _ _ eb'] at hb'
        exact h.inj b b' i i' l l' hb hb' e e' hx
  · intro b q e m
    by_cases eb : b = H.n
    · subst eb
      simp at e; subst e
      refine ⟨_, by simp [Map.ext]; rfl, ?_⟩
      simp only [hnew]
      have := hx.mono hle
      cases x with
      | cells c e => obtain ⟨c', e', fz, a1, a2, a3, a4, a5⟩ := this; exact ⟨c', e', fz, a1, a2, a3, a4, fun _ => a5 trivial⟩
      | map es cl => exact this
      | loop l => exact this
      | defs b => exact this
    · rw [CH.get_new_ne _ _ _ eb] at e
      obtain ⟨i, hi, ho⟩ := h.obj b q e (by rw [hat b eb] at m; exact m)
      refine ⟨i, by rw [hat b eb]; exact hi, ?_⟩
      rw [hold _ (h.img b i hi)]
      exact ho.mono hle
  · exact h.below.alloc h.zero o
  · have := h.zero; simp; omega
  · exact h.glob.mono hle

/-- A block of the run's own is written. -/
theorem Rel.write (h : Rel w0 ρ H w) {b : Nat} {x y : CObj} {i : Img} (hb : H.get b = some x) (hl : H.lim ≤ b) (hi : ρ b = some i) (o : Obj) (ho : OR ρ i (H.lim ≤ b) y (some o))
    {w' : World} (hw : w'.heap = w.heap.setIfInBounds i.x o) (h1 : w'.os = w.os) (h2 : w'.tape = w.tape) (h3 : w'.output = w.output) : Rel w0 ρ (H.put b (some y)) w' := by
  have hx : i.x < w.heap.size := h.img b i hi
  have hsz : w'.heap.size = w.heap.size := by rw [hw]; simp
  have hsame : w'.heap[i.x]? = some o := by rw [hw]; simp [hx]
  have hother : ∀ k, k ≠ i.x → w'.heap[k]? = w.heap[k]? := fun k hk => by rw [hw]; simp [Array.getElem?_setIfInBounds]; intro e; exact absurd e.symm hk
  refine { lim := h.lim, un := h.un, out := h.out, bare := ?_, img := ?_, high := h.high, low := h.low, inj := ?_, obj := ?_, below := ?_, zero := ?_, glob := ?_ }
  · intro c hc
    have : c ≠ b := fun e => by have := h.lt hb; simp at hc; omega
    rw [CH.get_put_ne _ _ _ _ this]; exact h.bare c hc
  · intro c j e; rw [hsz]; exact h.img c j e
  · intro c c' j j' l l' hc hc' e e' hx
    have live : ∀ d, (H.put b (some y)).get d ≠ none → H.get d ≠ none := fun d hd => by
      by_cases ed : d = b
      · subst ed; rw [hb]; simp
      · rwa [CH.get_put_ne _ _ _ _ ed] at hd
    exact h.inj c c' j j' l l' (live c hc) (live c' hc') e e' hx
  · intro c q e m
    by_cases ec : c = b
    · subst ec
      simp at e; subst e
      exact ⟨i, hi, by rw [hsame]; exact ho⟩
    · rw [CH.get_put_ne _ _ _ _ ec] at e
      obtain ⟨j, hj, hq⟩ := h.obj c q e m
      refine ⟨j, hj, ?_⟩
      rw [hother]
      · exact hq
      · intro ex
        rcases Nat.lt_or_ge c H.lim with hcl | hcl
        · have := h.low c j hcl hj
          have := h.high b i hl hi
          omega
        · exact ec (h.inj c b j i hcl hl (by rw [e]; simp) (by rw [hb]; simp) hj hi ex)
  · refine h.below.trans ⟨h1, h2, h3, by rw [hsz]; exact Nat.le_refl _, fun k hk => hother k ?_⟩
    have := h.high b i hl hi
    have hk' : k < w0.heap.size := hk
    omega
  · rw [hsz]; exact h.zero
  · exact h.glob

/-- A block is given up. -/
theorem Rel.drop (h : Rel w0 ρ H w) (b : Nat) : Rel w0 ρ (H.put b none) w := by
  have live : ∀ d o, (H.put b none).get d = some o → d ≠ b ∧ H.get d = some o := fun d o hd => by
    by_cases ed : d = b
    · subst ed; simp at hd
    · rw [CH.get_put_ne _ _ _ _ ed] at hd; exact ⟨ed, hd⟩
  have live' : ∀ d, (H.put b none).get d ≠ none → H.get d ≠ none := fun d hd => by
    cases e : (H.put b none).get d with
    | none => exact absurd e hd
    | some o => rw [(live d o e).2]; simp
  refine { lim := h.lim, un := h.un, out := h.out, bare := ?_, img := h.img, high := h.high, low := h.low, inj := ?_, obj := ?_, below := h.below, zero := h.zero, glob := h.glob }
  · intro c hc
    cases e : (H.put b none).get c with
    | none => rfl
    | some o => rw [← (live c o e).2]; exact h.bare c hc
  · exact fun c c' j j' l l' hc hc' e e' hx => h.inj c c' j j' l l' (live' c hc) (live' c' hc') e e' hx
  · exact fun c q e m => h.obj c q (live c q e).2 m

/-- Blocks that stand for none may be let go. -/
theorem Rel.lessU (h : Rel w0 ρ H w) {U : Nat → Prop} (hU : ∀ b, U b → w0.U b) : Rel ⟨w0.w, U⟩ ρ H w :=
  { lim := h.lim, un := fun b hb => h.un b (hU b hb), out := h.out, bare := h.bare, img := h.img, high := h.high, low := h.low, inj := h.inj, obj := h.obj, below := h.below, zero := h.zero, glob := h.glob }
/-- A block that stands for none. -/
theorem Rel.aside (h : Rel w0 ρ H w) (x : CObj) : Rel ⟨w0.w, fun b => w0.U b ∨ b = H.n⟩ ρ (H.new x) w := by
  have hn : ∀ b i, ρ b = some i → b < H.n := fun b i e => by
    rcases Nat.lt_or_ge b H.n with h' | h'
    · exact h'
    · rw [h.out b h'] at e; cases e
  refine { lim := ?_, un := ?_, out := ?_, bare := ?_, img := h.img, high := h.high, low := h.low, inj := ?_, obj := ?_, below := h.below, zero := h.zero, glob := h.glob }
  · have := h.lim; simp; omega
  · intro b hb
    rcases hb with hb | rfl
    · have := h.un b hb; exact ⟨this.1, by simp; omega, this.2.2⟩
    · exact ⟨h.out _ (Nat.le_refl _), by simp, h.lim⟩
  · intro b hb; simp at hb; exact h.out b (by omega)
  · intro b hb; simp at hb; rw [CH.get_new_ne _ _ _ (by omega)]; exact h.bare b (by omega)
  · intro b b' i i' l l' hb hb' e e' hx
    rw [CH.get_new_ne _ _ _ (by have := hn b i e; omega)] at hb
    rw [CH.get_new_ne _ _ _ (by have := hn b' i' e'; omega)] at hb'
    exact h.inj b b' i i' l l' hb hb' e e' hx
  · intro b o e m
    obtain ⟨i, hi⟩ := m
    rw [CH.get_new_ne _ _ _ (by have := hn b i hi; omega)] at e
    exact h.obj b o e ⟨i, hi⟩
/-- The machine makes the block for which one stood aside. -/
theorem Rel.fill (h : Rel w0 ρ H w) {b : Nat} (hb : w0.U b) {x : CObj} (hx : H.get b = some x) (o : Obj) (N : Nat) (ho : OR ρ ⟨w.heap.size, 0, N⟩ True x (some o)) {U : Nat → Prop} (hU : ∀ c, U c → w0.U c ∧ c ≠ b) :
    Rel ⟨w0.w, U⟩ (ρ.ext b ⟨w.heap.size, 0, N⟩) H (w.alloc o) ∧ ρ.le (ρ.ext b ⟨w.heap.size, 0, N⟩) ∧ (ρ.ext b ⟨w.heap.size, 0, N⟩) b = some ⟨w.heap.size, 0, N⟩ := by
  obtain ⟨hb1, hb2, hbl⟩ := h.un b hb
  have hle : ρ.le (ρ.ext b ⟨w.heap.size, 0, N⟩) := Map.le_ext hb1
  have hold : ∀ k, k < w.heap.size → (w.alloc o).heap[k]? = w.heap[k]? := fun k hk => Below.heap_alloc w o k hk
  have hnew : (w.alloc o).heap[w.heap.size]? = some o := by show (w.heap.push o)[w.heap.size]? = some o; simp
  have hat : ∀ c, c ≠ b → (ρ.ext b ⟨w.heap.size, 0, N⟩) c = ρ c := fun c hc => by simp [Map.ext, hc]
  refine ⟨?_, hle, by simp [Map.ext]⟩
  refine { lim := h.lim, un := ?_, out := ?_, bare := h.bare, img := ?_, high := ?_, low := ?_, inj := ?_, obj := ?_, below := ?_, zero := ?_, glob := ?_ }
  · intro c hc
    obtain ⟨h1, h2⟩ := hU c hc
    rw [hat c h2]; exact h.un c h1
  · intro c hc
    rw [hat c (by omega)]; exact h.out c hc
  · intro c i e
    by_cases ec : c = b
    · subst ec; simp [Map.ext] at e; subst e; simp
    · rw [hat c ec] at e; have := h.img c i e; simp; omega
  · intro c i hc e
    by_cases ec : c = b
    · subst ec; simp [Map.ext] at e; subst e; exact h.zero
    · rw [hat c ec] at e; exact h.high c i hc e
  · intro c i hc e
    by_cases ec : c = b
    · exact absurd hc (by omega)
    · rw [hat c ec] at e; exact h.low c i hc e
  · intro c c' i i' l l' hc hc' e e' hx'
    by_cases ec : c = b
    · by_cases ec' : c' = b
      · omega
      · rw [hat c' ec'] at e'
        have := h.img c' i' e'
        subst ec; simp [Map.ext] at e; subst e; simp at hx'; omega
    · by_cases ec' : c' = b
      · rw [hat c ec] at e
        have := h.img c i e
        subst ec'; simp [Map.ext] at e'; subst e'; simp at hx'; omega
      · rw [hat c ec] at e; rw [hat c' ec'] at e'
        exact h.inj c c' i i' l l' hc hc' e e' hx'
  · intro c q e m
    by_cases ec : c = b
    · subst ec
      rw [hx] at e; cases e
      refine ⟨_, by simp [Map.ext]; rfl, ?_⟩
      simp only [hnew]
      have := ho.mono hle
      cases x with
      | cells c e => obtain ⟨c', e', fz, a1, a2, a3, a4, a5⟩ := this; exact ⟨c', e', fz, a1, a2, a3, a4, fun _ => a5 trivial⟩
      | map es cl => exact this
      | loop l => exact this
      | defs b => exact this
    · obtain ⟨i, hi, hq⟩ := h.obj c q e (by rw [hat c ec] at m; exact m)
      refine ⟨i, by rw [hat c ec]; exact hi, ?_⟩
      rw [hold _ (h.img c i hi)]
      exact hq.mono hle
  · exact h.below.alloc h.zero o
  · have := h.zero
    have e : Base.heap ⟨w0.w, U⟩ = w0.heap := rfl
    rw [e]; simp; omega
  · exact h.glob.mono hle
end
end Go.Cn
