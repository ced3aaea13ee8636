/- Functions by their shallow form: a table of them makes a quick run. -/
import Derived.Test.YtbajjfdkkffamaaGreatDoorCnR
namespace Go.Cn
set_option linter.unusedVariables false
set_option linter.unusedSimpArgs false
/-! ### Pieces of code, by number -/
def bodyOf (P : Program) (f : FuncId) : Code := ((P.funcs[f]?).bind (·.body)).getD .skip
def loopsC : Code → List Code
  | .seq a b => loopsC a ++ loopsC b
  | .cond _ a b => loopsC a ++ loopsC b
  | .block _ a => loopsC a
  | .loop a => a :: loopsC a
  | .scope a => loopsC a
  | .rangeFunc _ _ _ b => loopsC b
  | _ => []
/-- The ranges over functions. -/
def rangesC : Code → List (Code × Code)
  | .seq a b => rangesC a ++ rangesC b
  | .cond _ a b => rangesC a ++ rangesC b
  | .block _ a => rangesC a
  | .loop a => rangesC a
  | .scope a => rangesC a
  | .rangeFunc _ _ a b => (a, b) :: rangesC b
  | _ => []
def rangeA (P : Program) (f : FuncId) (j : Nat) : Code := ((rangesC (bodyOf P f)).getD j (.skip, .skip)).1
def rangeB (P : Program) (f : FuncId) (j : Nat) : Code := ((rangesC (bodyOf P f)).getD j (.skip, .skip)).2
def loopBody (P : Program) (f : FuncId) (j : Nat) : Code := (loopsC (bodyOf P f)).getD j .skip
/-! ### Oracles with loops by number -/
abbrev CallT := List Value → CH → Option (Value × CH)
abbrev LoopT := List Value → List Deferred → CH → Option (Nat × List Value × List Deferred × CH)
structure Cal extends Orc where
  sloop : FuncId → Nat → Option Nat → LoopT
def toC (P : Program) (O : Orc) : Cal := { O with sloop := fun f j rd vs ds H => O.loop f rd (loopBody P f j) vs ds H }
inductive FT (α : Type) where
  | nil
  | node (l : FT α) (k : Nat) (v : α) (r : FT α)
namespace FT
variable {α : Type}
def find (f : Nat) : FT α → Option α
  | .nil => none
  | .node l k v r => cond (Nat.beq f k) (some v) (cond (Nat.blt f k) (find f l) (find f r))
def All (Q : Nat → α → Prop) : FT α → Prop
  | .nil => True
  | .node l k v r => All Q l ∧ Q k v ∧ All Q r
theorem find_all {Q : Nat → α → Prop} {f : Nat} {v : α} : ∀ {t : FT α}, All Q t → find f t = some v → Q f v
  | .nil, _, h => by cases h
  | .node l k u r, hq, h => by
    unfold find at h
    cases h1 : Nat.beq f k with
    | true =>
      rw [h1, cond_true] at h
      have e := Nat.eq_of_beq_eq_true h1
      cases h
      rw [e]; exact hq.2.1
    | false =>
      rw [h1, cond_false] at h
      cases h2 : Nat.blt f k with
      | true => rw [h2] at h; exact find_all hq.1 h
      | false => rw [h2] at h; exact find_all hq.2.2 h
end FT
abbrev FnD := Nat × (Cal → CallT)
abbrev LpD := Nat × (Cal → Option Nat → LoopT)
section
variable (P : Program) (keep : FuncId → List Nat)
def FnOK (f : Nat) (q : FnD) : Prop := ∀ O args H, args.length = q.1 → icall P O keep f args H = q.2 (toC P O) args H
def LpOK (f j : Nat) (q : LpD) : Prop := ∀ O rd vs ds H, vs.length = q.1 → iloop P O keep f rd (loopBody P f j) vs ds H = q.2 (toC P O) rd vs ds H
def LpsOK (f : Nat) (l : List LpD) : Prop := ∀ j q, l[j]? = some q → LpOK P keep f j q
variable (S : Sums) (dC : FT FnD) (dL : FT (List LpD))
noncomputable def hybC (C : Cal) (f : FuncId) (args : List Value) (H : CH) : Option (Value × CH) :=
  match S f args H with
  | some r => some r
  | none => match dC.find f with
    | some q => cond (Nat.beq args.length q.1) (q.2 C args H) (icall P C.toOrc keep f args H)
    | none => icall P C.toOrc keep f args H
noncomputable def hybL (C : Cal) (f : FuncId) (j : Nat) (rd : Option Nat) (vs : List Value) (ds : List Deferred) (H : CH) : Option (Nat × List Value × List Deferred × CH) :=
  match (dL.find f).bind fun l => l[j]? with
  | some q => cond (Nat.beq vs.length q.1) (q.2 C rd vs ds H) (iloop P C.toOrc keep f rd (loopBody P f j) vs ds H)
  | none => iloop P C.toOrc keep f rd (loopBody P f j) vs ds H
noncomputable def hybS (C : Cal) : Cal := ⟨⟨hybC P keep S dC C, iloop P C.toOrc keep, iround P C.toOrc keep⟩, hybL P keep dL C⟩
noncomputable def hyb (k : Nat) : Cal := Nat.rec (toC P ⟨S, fun _ _ _ _ _ _ => none, fun _ _ _ => none⟩) (fun _ C => hybS P keep S dC dL C) k
variable {P keep S dC dL}
theorem hyb_eq (hC : dC.All (FnOK P keep)) (hL : dL.All (LpsOK P keep)) : ∀ k, hyb P keep S dC dL k = toC P (orcS P keep S k)
  | 0 => rfl
  | k + 1 => by
    have ih := hyb_eq hC hL k
    have e : hyb P keep S dC dL (k + 1) = hybS P keep S dC dL (hyb P keep S dC dL k) := rfl
    rw [e, ih]
    have e1 : hybC P keep S dC (toC P (orcS P keep S k)) = (orcS P keep S (k + 1)).call := by
      funext f args H
      unfold hybC
      show _ = (match S f args H with | some r => some r | none => icall P (orcS P keep S k) keep f args H)
      cases S f args H with
      | some r => rfl
      | none =>
        simp only
        split
        · rename_i q hq
          cases hb : Nat.beq args.length q.1 with
          | true => exact ((FT.find_all hC hq) _ _ _ (Nat.eq_of_beq_eq_true hb)).symm
          | false => rfl
        · rfl
    have e2 : hybL P keep dL (toC P (orcS P keep S k)) = fun f j rd vs ds H => iloop P (orcS P keep S k) keep f rd (loopBody P f j) vs ds H := by
      funext f j rd vs ds H
      unfold hybL
      split
      · rename_i q hq
        rw [Option.bind_eq_some_iff] at hq
        obtain ⟨l, h1, h2⟩ := hq
        cases hb : Nat.beq vs.length q.1 with
        | true => exact ((FT.find_all hL h1) _ _ h2 _ _ _ _ _ (Nat.eq_of_beq_eq_true hb)).symm
        | false => rfl
      · rfl
    unfold hybS
    rw [e1, e2]
    rfl
theorem hyb_call (hC : dC.All (FnOK P keep)) (hL : dL.All (LpsOK P keep)) {k : Nat} {f : FuncId} {args : List Value} {H : CH} : (hyb P keep S dC dL k).call f args H = (orcS P keep S k).call f args H := by rw [hyb_eq hC hL k]; rfl
/-! ### By how many arguments -/
def a0 (F : Cal → CH → Option (Value × CH)) : FnD := (0, fun C a H => match a with | [] => F C  H | _ => none)
theorem a0_ok {f : Nat} {F : Cal → CH → Option (Value × CH)} (h : ∀ (O : Orc) (H : CH), icall P O keep f [] H = F (toC P O)  H) : FnOK P keep f (a0 F) := by
  intro O args H hl
  match args, hl with
  | [], _ => exact h O  H
def a1 (F : Cal → Value → CH → Option (Value × CH)) : FnD := (1, fun C a H => match a with | [x0] => F C x0 H | _ => none)
theorem a1_ok {f : Nat} {F : Cal → Value → CH → Option (Value × CH)} (h : ∀ (O : Orc) (x0 : Value) (H : CH), icall P O keep f [x0] H = F (toC P O) x0 H) : FnOK P keep f (a1 F) := by
  intro O args H hl
  match args, hl with
  | [x0], _ => exact h O x0 H
def a2 (F : Cal → Value → Value → CH → Option (Value × CH)) : FnD := (2, fun C a H => match a with | [x0, x1] => F C x0 x1 H | _ => none)
theorem a2_ok {f : Nat} {F : Cal → Value → Value → CH → Option (Value × CH)} (h : ∀ (O : Orc) (x0 x1 : Value) (H : CH), icall P O keep f [x0, x1] H = F (toC P O) x0 x1 H) : FnOK P keep f (a2 F) := by
  intro O args H hl
  match args, hl with
  | [x0, x1], _ => exact h O x0 x1 H
def a3 (F : Cal → Value → Value → Value → CH → Option (Value × CH)) : FnD := (3, fun C a H => match a with | [x0, x1, x2] => F C x0 x1 x2 H | _ => none)
theorem a3_ok {f : Nat} {F : Cal → Value → Value → Value → CH → Option (Value × CH)} (h : ∀ (O : Orc) (x0 x1 x2 : Value) (H : CH), icall P O keep f [x0, x1, x2] H = F (toC P O) x0 x1 x2 H) : FnOK P keep f (a3 F) := by
  intro O args H hl
  match args, hl with
  | [x0, x1, x2], _ => exact h O x0 x1 x2 H
def a4 (F : Cal → Value → Value → Value → Value → CH → Option (Value × CH)) : FnD := (4, fun C a H => match a with | [x0, x1, x2, x3] => F C x0 x1 x2 x3 H | _ => none)
theorem a4_ok {f : Nat} {F : Cal → Value → Value → Value → Value → CH → Option (Value × CH)} (h : ∀ (O : Orc) (x0 x1 x2 x3 : Value) (H : CH), icall P O keep f [x0, x1, x2, x3] H = F (toC P O) x0 x1 x2 x3 H) : FnOK P keep f (a4 F) := by
  intro O args H hl
  match args, hl with
  | [x0, x1, x2, x3], _ => exact h O x0 x1 x2 x3 H
def a5 (F : Cal → Value → Value → Value → Value → Value → CH → Option (Value × CH)) : FnD := (5, fun C a H => match a with | [x0, x1, x2, x3, x4] => F C x0 x1 x2 x3 x4 H | _ => none)
theorem a5_ok {f : Nat} {F : Cal → Value → Value → Value → Value → Value → CH → Option (Value × CH)} (h : ∀ (O : Orc) (x0 x1 x2 x3 x4 : Value) (H : CH), icall P O keep f [x0, x1, x2, x3, x4] H = F (toC P O) x0 x1 x2 x3 x4 H) : FnOK P keep f (a5 F) := by
  intro O args H hl
  match args, hl with
  | [x0, x1, x2, x3, x4], _ => exact h O x0 x1 x2 x3 x4 H
def a6 (F : Cal → Value → Value → Value → Value → Value → Value → CH → Option (Value × CH)) : FnD := (6, fun C a H => match a with | [x0, x1, x2, x3, x4, x5] => F C x0 x1 x2 x3 x4 x5 H | _ => none)
theorem a6_ok {f : Nat} {F : Cal → Value → Value → Value → Value → Value → Value → CH → Option (Value × CH)} (h : ∀ (O : Orc) (x0 x1 x2 x3 x4 x5 : Value) (H : CH), icall P O keep f [x0, x1, x2, x3, x4, x5] H = F (toC P O) x0 x1 x2 x3 x4 x5 H) : FnOK P keep f (a6 F) := by
  intro O args H hl
  match args, hl with
  | [x0, x1, x2, x3, x4, x5], _ => exact h O x0 x1 x2 x3 x4 x5 H
def a7 (F : Cal → Value → Value → Value → Value → Value → Value → Value → CH → Option (Value × CH)) : FnD := (7, fun C a H => match a with | [x0, x1, x2, x3, x4, x5, x6] => F C x0 x1 x2 x3 x4 x5 x6 H | _ => none)
theorem a7_ok {f : Nat} {F : Cal → Value → Value → Value → Value → Value → Value → Value → CH → Option (Value × CH)} (h : ∀ (O : Orc) (x0 x1 x2 x3 x4 x5 x6 : Value) (H : CH), icall P O keep f [x0, x1, x2, x3, x4, x5, x6] H = F (toC P O) x0 x1 x2 x3 x4 x5 x6 H) : FnOK P keep f (a7 F) := by
  intro O args H hl
  match args, hl with
  | [x0, x1, x2, x3, x4, x5, x6], _ => exact h O x0 x1 x2 x3 x4 x5 x6 H
def a8 (F : Cal → Value → Value → Value → Value → Value → Value → Value → Value → CH → Option (Value × CH)) : FnD := (8, fun C a H => match a with | [x0, x1, x2, x3, x4, x5, x6, x7] => F C x0 x1 x2 x3 x4 x5 x6 x7 H | _ => none)
theorem a8_ok {f : Nat} {F : Cal → Value → Value → Value → Value → Value → Value → Value → Value → CH → Option (Value × CH)} (h : ∀ (O : Orc) (x0 x1 x2 x3 x4 x5 x6 x7 : Value) (H : CH), icall P O keep f [x0, x1, x2, x3, x4, x5, x6, x7] H = F (toC P O) x0 x1 x2 x3 x4 x5 x6 x7 H) : FnOK P keep f (a8 F) := by
  intro O args H hl
  match args, hl with
  | [x0, x1, x2, x3, x4, x5, x6, x7], _ => exact h O x0 x1 x2 x3 x4 x5 x6 x7 H
def a9 (F : Cal → Value → Value → Value → Value → Value → Value → Value → Value → Value → CH → Option (Value × CH)) : FnD := (9, fun C a H => match a with | [x0, x1, x2, x3, x4, x5, x6, x7, x8] => F C x0 x1 x2 x3 x4 x5 x6 x7 x8 H | _ => none)
theorem a9_ok {f : Nat} {F : Cal → Value → Value → Value → Value → Value → Value → Value → Value → Value → CH → Option (Value × CH)} (h : ∀ (O : Orc) (x0 x1 x2 x3 x4 x5 x6 x7 x8 : Value) (H : CH), icall P O keep f [x0, x1, x2, x3, x4, x5, x6, x7, x8] H = F (toC P O) x0 x1 x2 x3 x4 x5 x6 x7 x8 H) : FnOK P keep f (a9 F) := by
  intro O args H hl
  match args, hl with
  | [x0, x1, x2, x3, x4, x5, x6, x7, x8], _ => exact h O x0 x1 x2 x3 x4 x5 x6 x7 x8 H
def a10 (F : Cal → Value → Value → Value → Value → Value → Value → Value → Value → Value → Value → CH → Option (Value × CH)) : FnD := (10, fun C a H => match a with | [x0, x1, x2, x3, x4, x5, x6, x7, x8, x9] => F C x0 x1 x2 x3 x4 x5 x6 x7 x8 x9 H | _ => none)
theorem a10_ok {f : Nat} {F : Cal → Value → Value → Value → Value → Value → Value → Value → Value → Value → Value → CH → Option (Value × CH)} (h : ∀ (O : Orc) (x0 x1 x2 x3 x4 x5 x6 x7 x8 x9 : Value) (H : CH), icall P O keep f [x0, x1, x2, x3, x4, x5, x6, x7, x8, x9] H = F (toC P O) x0 x1 x2 x3 x4 x5 x6 x7 x8 x9 H) : FnOK P keep f (a10 F) := by
  intro O args H hl
  match args, hl with
  | [x0, x1, x2, x3, x4, x5, x6, x7, x8, x9], _ => exact h O x0 x1 x2 x3 x4 x5 x6 x7 x8 x9 H
def a11 (F : Cal → Value → Value → Value → Value → Value → Value → Value → Value → Value → Value → Value → CH → Option (Value × CH)) : FnD := (11, fun C a H => match a with | [x0, x1, x2, x3, x4, x5, x6, x7, x8, x9, x10] => F C x0 x1 x2 x3 x4 x5 x6 x7 x8 x9 x10 H | _ => none)
theorem a11_ok {f : Nat} {F : Cal → Value → Value → Value → Value → Value → Value → Value → Value → Value → Value → Value → CH → Option (Value × CH)} (h : ∀ (O : Orc) (x0 x1 x2 x3 x4 x5 x6 x7 x8 x9 x10 : Value) (H : CH), icall P O keep f [x0, x1, x2, x3, x4, x5, x6, x7, x8, x9, x10] H = F (toC P O) x0 x1 x2 x3 x4 x5 x6 x7 x8 x9 x10 H) : FnOK P keep f (a11 F) := by
  intro O args H hl
  match args, hl with
  | [x0, x1, x2, x3, x4, x5, x6, x7, x8, x9, x10], _ => exact h O x0 x1 x2 x3 x4 x5 x6 x7 x8 x9 x10 H
/-! ### Words of the shallow forms -/
end
end Go.Cn
