/- The canonical heap: what the canonical run keeps, and how it stands to the machine's world. -/
import Derived.CallsIn
import Derived.OrdersIn
import Derived.RangeFuncLeaves
import Derived.Below
import Derived.ProofKit
namespace Go.Cn
set_option linter.unusedVariables false
set_option linter.unusedSimpArgs false
open Go.RowKit (Below)

/-! ### A map from numbers -/
inductive Tr (α : Type) where
  | nil
  | node (l : Tr α) (v : Option α) (r : Tr α)

namespace Tr
variable {α : Type}
def get : Tr α → List Bool → Option α
  | .nil, _ => none
  | .node _ v _, [] => v
  | .node l _ r, b :: bs => if b then r.get bs else l.get bs
def one (x : Option α) : List Bool → Tr α
  | [] => .node .nil x .nil
  | b :: bs => if b then .node .nil none (one x bs) else .node (one x bs) none .nil
def put (x : Option α) : Tr α → List Bool → Tr α
  | .nil, bs => one x bs
  | .node l _ r, [] => .node l x r
  | .node l v r, b :: bs => if b then .node l v (r.put x bs) else .node (l.put x bs) v r
theorem get_one (x : Option α) : ∀ bs, (one x bs).get bs = x
  | [] => rfl
  | b :: bs => by cases b <;> simp [one, get, get_one x bs]
theorem get_one_ne (x : Option α) : ∀ (bs cs : List Bool), bs ≠ cs → (one x bs).get cs = none
  | [], [], h => absurd rfl h
  | [], c :: cs, _ => by cases c <;> simp [one, get]
  | b :: bs, [], _ => by cases b <;> simp [one, get]
  | b :: bs, c :: cs, h => by
    by_cases hbc : b = c
    · subst hbc
      have h' : bs ≠ cs := fun e => h (by rw [e])
      cases b <;> simp [one, get, get_one_ne x bs cs h']
    · cases b <;> cases c <;> simp_all [one, get]
theorem get_put (x : Option α) : ∀ (t : Tr α) (bs : List Bool), (t.put x bs).get bs = x
  | .nil, bs => get_one x bs
  | .node l v r, [] => rfl
  | .node l v r, b :: bs => by cases b <;> simp [put, get, get_put x]
theorem get_put_ne (x : Option α) : ∀ (t : Tr α) (bs cs : List Bool), bs ≠ cs → (t.put x bs).get cs = t.get cs
  | .nil, bs, cs, h => by rw [put, get_one_ne x bs cs h]; rfl
  | .node l v r, [], [], h => absurd rfl h
  | .node l v r, [], c :: cs, _ => by simp [put, get]
  | .node l v r, b :: bs, [], _ => by cases b <;> simp [put, get]
  | .node l v r, b :: bs, c :: cs, h => by
    by_cases hbc : b = c
    · subst hbc
      have h' : bs ≠ cs := fun e => h (by rw [e])
      cases b <;> simp [put, get, get_put_ne x _ bs cs h']
    · cases b <;> cases c <;> simp_all [put, get]
end Tr

def bitsOf : Nat → Nat → List Bool
  | 0, _ => []
  | f + 1, n => if n = 0 then [] else (n % 2 == 1) :: bitsOf f (n / 2)
def path (n : Nat) : List Bool := bitsOf n n
theorem bitsOf_inj : ∀ (f g n m : Nat), n ≤ f → m ≤ g → bitsOf f n = bitsOf g m → n = m
  | 0, 0, n, m, hn, hm, _ => by omega
  | 0, g + 1, n, m, hn, hm, h => by
    have : n = 0 := by omega
    subst this
    simp only [bitsOf] at h
    by_cases hm0 : m = 0
    · exact hm0.symm
    · simp [hm0] at h
  | f + 1, 0, n, m, hn, hm, h => by
    have : m = 0 := by omega
    subst this
    simp only [bitsOf] at h
    by_cases hn0 : n = 0
    · exact hn0
    · simp [hn0] at h
  | f + 1, g + 1, n, m, hn, hm, h => by
    simp only [bitsOf] at h
    by_cases hn0 : n = 0
    · by_cases hm0 : m = 0
      · omega
      · simp [hn0, hm0] at h
    · by_cases hm0 : m = 0
      · simp [hn0, hm0] at h
      · simp only [hn0, hm0, if_false, List.cons.injEq] at h
        have h2 := bitsOf_inj f g (n / 2) (m / 2) (by omega) (by omega) h.2
        have h1 : (n % 2 == 1) = (m % 2 == 1) := h.1
        have : n % 2 = m % 2 := by
          have e : (n % 2 = 1) ↔ (m % 2 = 1) := by
            have := congrArg (· = true) h1
            simpa [beq_iff_eq] using this
          omega
        omega
theorem path_inj {n m : Nat} (h : path n = path m) : n = m := bitsOf_inj n m n m (Nat.le_refl _) (Nat.le_refl _) h

/-! ### The heap -/
inductive CObj where
  | cells (c : List Value) (e : TypeId)
  | map (es : List MapEntry) (clock : Nat)
  | loop (l : Loop)
  | defs (b : Bool)

structure CH where
  n : Nat
  lim : Nat
  t : Tr CObj

namespace CH
def get (H : CH) (b : Nat) : Option CObj := H.t.get (path b)
def put (H : CH) (b : Nat) (o : Option CObj) : CH := { H with t := H.t.put o (path b) }
def new (H : CH) (o : CObj) : CH := { H with n := H.n + 1, t := H.t.put (some o) (path H.n) }
variable (H : CH) (b b' : Nat) (o : Option CObj) (x : CObj)
@[simp] theorem get_put : (H.put b o).get b = o := Tr.get_put _ _ _
theorem get_put_ne (h : b' ≠ b) : (H.put b o).get b' = H.get b' := Tr.get_put_ne _ _ _ _ fun e => h (path_inj e).symm
@[simp] theorem get_new : (H.new x).get H.n = some x := Tr.get_put _ _ _
theorem get_new_ne (h : b' ≠ H.n) : (H.new x).get b' = H.get b' := Tr.get_put_ne _ _ _ _ fun e => h (path_inj e).symm
@[simp] theorem put_n : (H.put b o).n = H.n := rfl
@[simp] theorem put_lim : (H.put b o).lim = H.lim := rfl
@[simp] theorem new_n : (H.new x).n = H.n + 1 := rfl
@[simp] theorem new_lim : (H.new x).lim = H.lim := rfl

/-- 'n' cells from an address on. -/
def loadN (H : CH) (a : Addr) (n : Nat) : Option (List Value) :=
  match H.get a.block with
  | some (.cells c _) => if a.spot = none ∧ a.off + n ≤ c.length then some ((c.drop a.off).take n) else none
  | _ => none
def splice (c : List Value) (i : Nat) (vs : List Value) : List Value := c.take i ++ vs ++ c.drop (i + vs.length)
/-- They are others from here on (a block that was there at the call is not written). -/
def storeN (H : CH) (a : Addr) (vs : List Value) : Option CH :=
  match H.get a.block with
  | some (.cells c e) => if a.spot = none ∧ a.off + vs.length ≤ c.length ∧ H.lim ≤ a.block then some (H.put a.block (some (.cells (splice c a.off vs) e))) else none
  | _ => none
end CH
theorem splice_length (c : List Value) (i : Nat) (vs : List Value) (h : i + vs.length ≤ c.length) : (CH.splice c i vs).length = c.length := by
  simp [CH.splice]; omega
theorem splice_getD (c : List Value) (i : Nat) (vs : List Value) (h : i + vs.length ≤ c.length) (k : Nat) (d : Value) :
    (CH.splice c i vs).getD k d = if i ≤ k ∧ k < i + vs.length then vs.getD (k - i) d else c.getD k d := by
  simp only [CH.splice, List.getD_eq_getElem?_getD]
  congr 1
  by_cases h1 : k < i
  · rw [List.append_assoc, List.getElem?_append_left (by simp; omega), List.getElem?_take_of_lt h1, if_neg (by omega)]
  · by_cases h2 : k < i + vs.length
    · rw [List.append_assoc, List.getElem?_append_right (by simp; omega), List.getElem?_append_left (by simp; omega), if_pos ⟨by omega, h2⟩]
      have : (c.take i).length = i := by simp; omega
      rw [this]
    · have : (c.take i ++ vs).length = i + vs.length := by simp; omega
      rw [List.getElem?_append_right (by omega), List.getElem?_drop, if_neg (by omega), this]
      have h3 : i + vs.length + (k - (i + vs.length)) = k := by omega
      rw [h3]

/-! ### Values -/
structure Img where
  x : Nat
  d : Nat
  N : Nat
abbrev Map := Nat → Option Img

/-- How a value of the canonical run stands to one of the machine. A slice's capacity reads: '2 k + 1': it is k; '2 s': it is not known, its elements have s cells. -/
inductive VR (ρ : Map) : Value → Value → Prop
  | any (v : Value) : VR ρ (.tuple #[]) v
  | bool (b : Bool) : VR ρ (.bool b) (.bool b)
  | int (k : IntKind) (n : Int) : VR ρ (.int k n) (.int k n)
  | float (k : FloatKind) (n : Nat) : VR ρ (.float k n) (.float k n)
  | string (s : ByteArray) : VR ρ (.string s) (.string s)
  | nilPtr : VR ρ (.pointer none) (.pointer none)
  | ptr (b o : Nat) (i : Img) (h : ρ b = some i) : VR ρ (.pointer (some ⟨b, o, none⟩)) (.pointer (some ⟨i.x, o + i.d, none⟩))
  | nilSlice (c : Nat) : VR ρ (.slice none 0 c) (.slice none 0 0)
  | sliceOf (b o : Nat) (i : Img) (n k : Nat) (h : ρ b = some i) (hk : n ≤ k) : VR ρ (.slice (some ⟨b, o, none⟩) n (2 * k + 1)) (.slice (some ⟨i.x, o + i.d, none⟩) n k)
  | sliceIn (b o : Nat) (i : Img) (n s k : Nat) (h : ρ b = some i) (hn : n ≤ k) (hk : o + i.d + k * s ≤ i.N) :
      VR ρ (.slice (some ⟨b, o, none⟩) n (2 * s)) (.slice (some ⟨i.x, o + i.d, none⟩) n k)
  | sliceOut (b o : Nat) (a : Addr) (i : Img) (s : Nat) (h : ρ b = some i) : VR ρ (.slice (some ⟨b, o, none⟩) 0 (2 * s)) (.slice (some a) 0 0)
  | sliceOut1 (b o : Nat) (a : Addr) (i : Img) (h : ρ b = some i) : VR ρ (.slice (some ⟨b, o, none⟩) 0 1) (.slice (some a) 0 0)
  | nilMap : VR ρ (.map none) (.map none)
  | map (r : Nat) (i : Img) (h : ρ r = some i) : VR ρ (.map (some r)) (.map (some i.x))
  | nilFunc : VR ρ .nilFunc .nilFunc
  | func (f : Fn) (hf : ∀ l, f ≠ .yield l) (a c a' c' : Array Value) (ha : a.size = a'.size) (hc : c.size = c'.size) (va : ∀ k, k < a.size → VR ρ (a.getD k undef) (a'.getD k undef))
      (vc : ∀ k, k < c.size → VR ρ (c.getD k undef) (c'.getD k undef)) : VR ρ (.func f a c) (.func f a' c')
  | yield (l : Nat) (i : Img) (h : ρ l = some i) : VR ρ (.func (.yield l) #[] #[]) (.func (.yield i.x) #[] #[])
  | nilIface : VR ρ .nilIface .nilIface
  | iface (t : TypeId) (v v' : Value) (h : VR ρ v v') : VR ρ (.iface t v) (.iface t v')
  | agg (c c' : Array Value) (hc : c.size = c'.size) (vc : ∀ k, k < c.size → VR ρ (c.getD k undef) (c'.getD k undef)) : VR ρ (.agg c) (.agg c')
  | tuple (c c' : Array Value) (hc : c.size = c'.size) (vc : ∀ k, k < c.size → VR ρ (c.getD k undef) (c'.getD k undef)) : VR ρ (.tuple c) (.tuple c')

/-- How many of the program's package variables the run looks into: they are its first blocks, and the machine's. -/
def gN : Nat := 0
def GlobOK (ρ : Map) : Prop := ∀ g, g < gN → ∃ N, ρ g = some ⟨g, 0, N⟩
def Map.le (ρ ρ' : Map) : Prop := ∀ b i, ρ b = some i → ρ' b = some i
theorem GlobOK.mono {ρ ρ' : Map} (hle : ρ.le ρ') (h : GlobOK ρ) : GlobOK ρ' := fun g hg => let ⟨N, e⟩ := h g hg; ⟨N, hle _ _ e⟩
theorem Map.le_refl (ρ : Map) : ρ.le ρ := fun _ _ h => h
theorem Map.le_trans {ρ ρ' ρ'' : Map} (h : ρ.le ρ') (h' : ρ'.le ρ'') : ρ.le ρ'' := fun b i e => h' b i (h b i e)
theorem VR.mono {ρ ρ' : Map} (hle : ρ.le ρ') {v v' : Value} (h : VR ρ v v') : VR ρ' v v' := by
  induction h with
  | any v => exact .any v
  | bool b => exact .bool b
  | int k n => exact .int k n
  | float k n => exact .float k n
  | string s => exact .string s
  | nilPtr => exact .nilPtr
  | ptr b o i h => exact .ptr b o i (hle _ _ h)
  | nilSlice c => exact .nilSlice c
  | sliceOf b o i n k h hk => exact .sliceOf b o i n k (hle _ _ h) hk
  | sliceIn b o i n s k h hn hk => exact .sliceIn b o i n s k (hle _ _ h) hn hk
  | sliceOut b o a i s h => exact .sliceOut b o a i s (hle _ _ h)
  | sliceOut1 b o a i h => exact .sliceOut1 b o a i (hle _ _ h)
  | nilMap => exact .nilMap
  | map r i h => exact .map r i (hle _ _ h)
  | nilFunc => exact .nilFunc
  | func f hf a c a' c' ha hc _ _ iha ihc => exact .func f hf a c a' c' ha hc iha ihc
  | yield l i h => exact .yield l i (hle _ _ h)
  | nilIface => exact .nilIface
  | iface t v v' _ ih => exact .iface t v v' ih
  | agg c c' hc _ ih => exact .agg c c' hc ih
  | tuple c c' hc _ ih => exact .tuple c c' hc ih
theorem VR.undef (ρ : Map) (v : Value) : VR ρ Go.undef v := .any v

/-- Rows of values. -/
def VRs (ρ : Map) (l l' : List Value) : Prop := l.length = l'.length ∧ ∀ k, k < l.length → VR ρ (l.getD k undef) (l'.getD k undef)
theorem VRs.mono {ρ ρ' : Map} (hle : ρ.le ρ') {l l' : List Value} (h : VRs ρ l l') : VRs ρ' l l' := ⟨h.1, fun k hk => (h.2 k hk).mono hle⟩
theorem VRs.nil (ρ : Map) : VRs ρ [] [] := ⟨rfl, fun k hk => by simp at hk⟩
theorem VRs.cons {ρ : Map} {v v' : Value} {l l' : List Value} (h : VR ρ v v') (t : VRs ρ l l') : VRs ρ (v :: l) (v' :: l') := by
  refine ⟨by simp [t.1], fun k hk => ?_⟩
  cases k with
  | zero => exact h
  | succ k => exact t.2 k (by simpa using hk)
theorem VRs.append {ρ : Map} {l l' m m' : List Value} (h : VRs ρ l l') (t : VRs ρ m m') : VRs ρ (l ++ m) (l' ++ m') := by
  refine ⟨by simp [h.1, t.1], fun k hk => ?_⟩
  simp only [List.getD_eq_getElem?_getD]
  by_cases hl : k < l.length
  · rw [List.getElem?_append_left hl, List.getElem?_append_left (by rw [← h.1]; exact hl)]
    exact h.2 k hl
  · rw [List.getElem?_append_right (by omega), List.getElem?_append_right (by rw [← h.1]; omega), ← h.1]
    exact t.2 (k - l.length) (by simp at hk; omega)
theorem VRs.take {ρ : Map} {l l' : List Value} (h : VRs ρ l l') (n : Nat) : VRs ρ (l.take n) (l'.take n) := by
  refine ⟨by simp [h.1], fun k hk => ?_⟩
  have hk' : k < n ∧ k < l.length := by simp at hk; omega
  simp only [List.getD_eq_getElem?_getD, List.getElem?_take_of_lt hk'.1]
  exact h.2 k hk'.2
theorem VRs.drop {ρ : Map} {l l' : List Value} (h : VRs ρ l l') (n : Nat) : VRs ρ (l.drop n) (l'.drop n) := by
  refine ⟨by simp [h.1], fun k hk => ?_⟩
  simp only [List.getD_eq_getElem?_getD, List.getElem?_drop]
  exact h.2 (n + k) (by simp at hk; omega)
theorem VRs.get {ρ : Map} {l l' : List Value} (h : VRs ρ l l') (k : Nat) : VR ρ (l.getD k undef) (l'.getD k undef) := by
  by_cases hk : k < l.length
  · exact h.2 k hk
  · have : l.getD k undef = undef := by simp [List.getD_eq_getElem?_getD, List.getElem?_eq_none (by omega : l.length ≤ k)]
    rw [this]; exact .any _
theorem VRs.set {ρ : Map} {l l' : List Value} (h : VRs ρ l l') (i : Nat) {v v' : Value} (hv : VR ρ v v') : VRs ρ (l.set i v) (l'.set i v') := by
  refine ⟨by simp [h.1], fun k hk => ?_⟩
  have hk' : k < l.length := by simpa using hk
  simp only [List.getD_eq_getElem?_getD, List.getElem?_set]
  by_cases hik : i = k
  · subst hik; rw [if_pos rfl, if_pos rfl, if_pos hk', if_pos (by rw [← h.1]; exact hk')]; exact hv
  · rw [if_neg hik, if_neg hik]; exact h.2 k hk'
theorem VRs.replicate_undef (ρ : Map) (n : Nat) (l : List Value) (h : l.length = n) : VRs ρ (List.replicate n undef) l := by
  refine ⟨by simp [h], fun k hk => ?_⟩
  have : (List.replicate n undef).getD k undef = undef := by
    simp at hk
    simp [List.getD_eq_getElem?_getD, hk]
  rw [this]; exact .any _
theorem arr_getD (c : Array Value) (k : Nat) : c.getD k undef = c.toList.getD k undef := by
  simp [Array.getD_eq_getD_getElem?, List.getD_eq_getElem?_getD]
theorem VR.agg' {ρ : Map} {c c' : Array Value} (h : VRs ρ c.toList c'.toList) : VR ρ (.agg c) (.agg c') :=
  .agg c c' (by simpa using h.1) fun k hk => by rw [arr_getD, arr_getD]; exact h.2 k (by simpa using hk)
theorem VR.tuple' {ρ : Map} {c c' : Array Value} (h : VRs ρ c.toList c'.toList) : VR ρ (.tuple c) (.tuple c') :=
  .tuple c c' (by simpa using h.1) fun k hk => by rw [arr_getD, arr_getD]; exact h.2 k (by simpa using hk)
theorem vrs_of_arr {ρ : Map} {c c' : Array Value} (hc : c.size = c'.size) (vc : ∀ k, k < c.size → VR ρ (c.getD k Go.undef) (c'.getD k Go.undef)) : VRs ρ c.toList c'.toList :=
  ⟨by simpa using hc, fun k hk => by rw [← arr_getD, ← arr_getD]; exact vc k (by simpa using hk)⟩

/-! ### What a value must be -/
section inv
variable {ρ : Map} {v' : Value}
theorem VR.bool_inv {b : Bool} (h : VR ρ (.bool b) v') : v' = .bool b := by cases h; rfl
theorem VR.int_inv {k : IntKind} {n : Int} (h : VR ρ (.int k n) v') : v' = .int k n := by cases h; rfl
theorem VR.string_inv {s : ByteArray} (h : VR ρ (.string s) v') : v' = .string s := by cases h; rfl
theorem VR.nilPtr_inv (h : VR ρ (.pointer none) v') : v' = .pointer none := by cases h; rfl
theorem VR.ptr_inv {a : Addr} (h : VR ρ (.pointer (some a)) v') : ∃ i, ρ a.block = some i ∧ a.spot = none ∧ v' = .pointer (some ⟨i.x, a.off + i.d, none⟩) := by
  cases h with
  | ptr b o i h => exact ⟨i, h, rfl, rfl⟩
theorem VR.agg_inv {c : Array Value} (h : VR ρ (.agg c) v') : ∃ c', v' = .agg c' ∧ VRs ρ c.toList c'.toList := by
  cases h with
  | agg c c' hc vc => exact ⟨c', rfl, vrs_of_arr hc vc⟩
theorem VR.tuple_inv {c : Array Value} (h : VR ρ (.tuple c) v') (hn : c ≠ #[]) : ∃ c', v' = .tuple c' ∧ VRs ρ c.toList c'.toList := by
  cases h with
  | any => exact absurd rfl hn
  | tuple c c' hc vc => exact ⟨c', rfl, vrs_of_arr hc vc⟩
theorem VR.func_inv {f : Fn} {a c : Array Value} (h : VR ρ (.func f a c) v') (hf : ∀ l, f ≠ .yield l) : ∃ a' c', v' = .func f a' c' ∧ VRs ρ a.toList a'.toList ∧ VRs ρ c.toList c'.toList := by
  cases h with
  | func f hf a c a' c' ha hc va vc => exact ⟨a', c', rfl, vrs_of_arr ha va, vrs_of_arr hc vc⟩
  | yield l i h => exact absurd rfl (hf l)
theorem VR.yield_inv {l : Nat} {a c : Array Value} (h : VR ρ (.func (.yield l) a c) v') : ∃ i, ρ l = some i ∧ a = #[] ∧ c = #[] ∧ v' = .func (.yield i.x) #[] #[] := by
  cases h with
  | func f hf a c a' c' ha hc va vc => exact absurd rfl (hf l)
  | yield l i h => exact ⟨i, h, rfl, rfl, rfl⟩
theorem VR.func' {f : Fn} (hf : ∀ l, f ≠ .yield l) {a c a' c' : Array Value} (ha : VRs ρ a.toList a'.toList) (hc : VRs ρ c.toList c'.toList) : VR ρ (.func f a c) (.func f a' c') :=
  .func f hf a c a' c' (by simpa using ha.1) (by simpa using hc.1) (fun k hk => by rw [arr_getD, arr_getD]; exact ha.2 k (by simpa using hk)) (fun k hk => by rw [arr_getD, arr_getD]; exact hc.2 k (by simpa using hk))
theorem VR.map_inv {r : Nat} (h : VR ρ (.map (some r)) v') : ∃ i, ρ r = some i ∧ v' = .map (some i.x) := by
  cases h with
  | map r i h => exact ⟨i, h, rfl⟩
theorem VR.nilMap_inv (h : VR ρ (.map none) v') : v' = .map none := by cases h; rfl
theorem VR.iface_inv {t : TypeId} {v : Value} (h : VR ρ (.iface t v) v') : ∃ u, v' = .iface t u ∧ VR ρ v u := by
  cases h with
  | iface t v u h => exact ⟨u, rfl, h⟩
/-- A slice is one, of the same length. -/
theorem VR.slice_len {a : Option Addr} {n c : Nat} (h : VR ρ (.slice a n c) v') : ∃ a' k, v' = .slice a' n k ∧ n ≤ k ∧ (a.isNone = a'.isNone) := by
  cases h with
  | nilSlice c => exact ⟨none, 0, rfl, Nat.le_refl _, rfl⟩
  | sliceOf b o i n k h hk => exact ⟨_, k, rfl, hk, rfl⟩
  | sliceIn b o i n s k h hn hk => exact ⟨_, k, rfl, hn, rfl⟩
  | sliceOut b o a i s h => exact ⟨_, 0, rfl, Nat.le_refl _, rfl⟩
  | sliceOut1 b o a i h => exact ⟨_, 0, rfl, Nat.le_refl _, rfl⟩
end inv
end Go.Cn
