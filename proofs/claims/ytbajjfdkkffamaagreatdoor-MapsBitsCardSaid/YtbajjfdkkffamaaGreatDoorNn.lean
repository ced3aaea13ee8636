/- ops.Name and ops.Shape at the opcodes that the chapter's rows name: closed runs. Written by a program. -/
import Derived.Test.YtbajjfdkkffamaaGreatDoorNm
import Derived.Test.YtbajjfdkkffamaaGreatDoorTb
namespace Go.Cn
set_option maxRecDepth 20000
set_option linter.unusedVariables false
theorem name_65' : ((hyb Go.Proofs.Tryz.prog KZ S1 dC dL 60).call 115 [.int .i64 65] H0).map (·.1) = some (.string ⟨⟨[105, 51, 50, 46, 99, 111, 110, 115, 116]⟩⟩) := by kernel_rfl
theorem name_65 : ((orcS Go.Proofs.Tryz.prog KZ S1 60).call 115 [.int .i64 65] H0).map (·.1) = some (.string ⟨⟨[105, 51, 50, 46, 99, 111, 110, 115, 116]⟩⟩) := by
  rw [← hyb_call dC_ok dL_ok]; exact name_65'
theorem name_208' : ((hyb Go.Proofs.Tryz.prog KZ S1 dC dL 60).call 115 [.int .i64 208] H0).map (·.1) = some (.string ⟨⟨[114, 101, 102, 46, 110, 117, 108, 108]⟩⟩) := by kernel_rfl
theorem name_208 : ((orcS Go.Proofs.Tryz.prog KZ S1 60).call 115 [.int .i64 208] H0).map (·.1) = some (.string ⟨⟨[114, 101, 102, 46, 110, 117, 108, 108]⟩⟩) := by
  rw [← hyb_call dC_ok dL_ok]; exact name_208'
theorem name_26' : ((hyb Go.Proofs.Tryz.prog KZ S1 dC dL 60).call 115 [.int .i64 26] H0).map (·.1) = some (.string ⟨⟨[100, 114, 111, 112]⟩⟩) := by kernel_rfl
theorem name_26 : ((orcS Go.Proofs.Tryz.prog KZ S1 60).call 115 [.int .i64 26] H0).map (·.1) = some (.string ⟨⟨[100, 114, 111, 112]⟩⟩) := by
  rw [← hyb_call dC_ok dL_ok]; exact name_26'
theorem name_11' : ((hyb Go.Proofs.Tryz.prog KZ S1 dC dL 60).call 115 [.int .i64 11] H0).map (·.1) = some (.string ⟨⟨[101, 110, 100]⟩⟩) := by kernel_rfl
theorem name_11 : ((orcS Go.Proofs.Tryz.prog KZ S1 60).call 115 [.int .i64 11] H0).map (·.1) = some (.string ⟨⟨[101, 110, 100]⟩⟩) := by
  rw [← hyb_call dC_ok dL_ok]; exact name_11'
theorem shape_65' : ((hyb Go.Proofs.Tryz.prog KZ S1 dC dL 60).call 119 [.int .i64 65] H0).map (·.1) = some (.int .i64 9) := by kernel_rfl
theorem shape_65 : ((orcS Go.Proofs.Tryz.prog KZ S1 60).call 119 [.int .i64 65] H0).map (·.1) = some (.int .i64 9) := by
  rw [← hyb_call dC_ok dL_ok]; exact shape_65'
theorem shape_208' : ((hyb Go.Proofs.Tryz.prog KZ S1 dC dL 60).call 119 [.int .i64 208] H0).map (·.1) = some (.int .i64 11) := by kernel_rfl
theorem shape_208 : ((orcS Go.Proofs.Tryz.prog KZ S1 60).call 119 [.int .i64 208] H0).map (·.1) = some (.int .i64 11) := by
  rw [← hyb_call dC_ok dL_ok]; exact shape_208'
theorem shape_26' : ((hyb Go.Proofs.Tryz.prog KZ S1 dC dL 60).call 119 [.int .i64 26] H0).map (·.1) = some (.int .i64 1) := by kernel_rfl
theorem shape_26 : ((orcS Go.Proofs.Tryz.prog KZ S1 60).call 119 [.int .i64 26] H0).map (·.1) = some (.int .i64 1) := by
  rw [← hyb_call dC_ok dL_ok]; exact shape_26'
theorem shape_11' : ((hyb Go.Proofs.Tryz.prog KZ S1 dC dL 60).call 119 [.int .i64 11] H0).map (·.1) = some (.int .i64 1) := by kernel_rfl
theorem shape_11 : ((orcS Go.Proofs.Tryz.prog KZ S1 60).call 119 [.int .i64 11] H0).map (·.1) = some (.int .i64 1) := by
  rw [← hyb_call dC_ok dL_ok]; exact shape_11'
def nameT (n : Int) : Option Value := if n = 65 then some (.string ⟨⟨[105, 51, 50, 46, 99, 111, 110, 115, 116]⟩⟩) else if n = 208 then some (.string ⟨⟨[114, 101, 102, 46, 110, 117, 108, 108]⟩⟩) else if n = 26 then some (.string ⟨⟨[100, 114, 111, 112]⟩⟩) else if n = 11 then some (.string ⟨⟨[101, 110, 100]⟩⟩) else none
def shapeT (n : Int) : Option Value := if n = 65 then some (.int .i64 9) else if n = 208 then some (.int .i64 11) else if n = 26 then some (.int .i64 1) else if n = 11 then some (.int .i64 1) else none
def opT (f : FuncId) (n : Int) : Option Value := cond (Nat.beq f 115) (nameT n) (cond (Nat.beq f 119) (shapeT n) none)
/-- The summaries: the two functions at these opcodes. -/
def S2 : Sums := fun f args H =>
  match args with
  | [.int .i64 n] => (opT f n).map fun v => (v, H)
  | _ => none
theorem nameT_ok {n : Int} {v : Value} (h : nameT n = some v) : clean v = true ∧ ∀ w, Facts w → Calls Go.Proofs.Tryz.prog 115 ⟨[.int .i64 n]⟩ w (fun e w' => e = .returned v ∧ Go.RowKit.Below w.heap.size w w') := by
  unfold nameT at h
  split at h
  · rename_i e; subst e; cases h
    exact ⟨rfl, fun w hw => calls_bareS (keep := KZ) (k := 60) (by kernel_rfl) rfl rfl name_65 w (S1_ok hw)⟩
  split at h
  · rename_i e; subst e; cases h
    exact ⟨rfl, fun w hw => calls_bareS (keep := KZ) (k := 60) (by kernel_rfl) rfl rfl name_208 w (S1_ok hw)⟩
  split at h
  · rename_i e; subst e; cases h
    exact ⟨rfl, fun w hw => calls_bareS (keep := KZ) (k := 60) (by kernel_rfl) rfl rfl name_26 w (S1_ok hw)⟩
  split at h
  · rename_i e; subst e; cases h
    exact ⟨rfl, fun w hw => calls_bareS (keep := KZ) (k := 60) (by kernel_rfl) rfl rfl name_11 w (S1_ok hw)⟩
  · cases h
theorem shapeT_ok {n : Int} {v : Value} (h : shapeT n = some v) : clean v = true ∧ ∀ w, Facts w → Calls Go.Proofs.Tryz.prog 119 ⟨[.int .i64 n]⟩ w (fun e w' => e = .returned v ∧ Go.RowKit.Below w.heap.size w w') := by
  unfold shapeT at h
  split at h
  · rename_i e; subst e; cases h
    exact ⟨rfl, fun w hw => calls_bareS (keep := KZ) (k := 60) (by kernel_rfl) rfl rfl shape_65 w (S1_ok hw)⟩
  split at h
  · rename_i e; subst e; cases h
    exact ⟨rfl, fun w hw => calls_bareS (keep := KZ) (k := 60) (by kernel_rfl) rfl rfl shape_208 w (S1_ok hw)⟩
  split at h
  · rename_i e; subst e; cases h
    exact ⟨rfl, fun w hw => calls_bareS (keep := KZ) (k := 60) (by kernel_rfl) rfl rfl shape_26 w (S1_ok hw)⟩
  split at h
  · rename_i e; subst e; cases h
    exact ⟨rfl, fun w hw => calls_bareS (keep := KZ) (k := 60) (by kernel_rfl) rfl rfl shape_11 w (S1_ok hw)⟩
  · cases h
theorem S2_ok {W : World} (hW : Facts W) (U : Nat → Prop) (f : FuncId) (args : List Value) (H : CH) (v : Value) (H' : CH) (h : S2 f args H = some (v, H')) : CallOK Go.Proofs.Tryz.prog ⟨W, U⟩ f args H v H' := by
  unfold S2 at h
  split at h
  · rename_i n
    rw [Option.map_eq_some_iff] at h
    obtain ⟨v1, h1, h2⟩ := h
    simp only [Prod.mk.injEq] at h2
    obtain ⟨rfl, rfl⟩ := h2
    unfold opT at h1
    cases e1 : Nat.beq f 115 with
    | true =>
      rw [e1, cond_true] at h1
      have hf : f = 115 := Nat.eq_of_beq_eq_true e1
      subst hf
      obtain ⟨c1, c2⟩ := nameT_ok h1
      exact sum_bareF Facts.stays rfl c1 c2 hW U H
    | false =>
      rw [e1, cond_false] at h1
      cases e2 : Nat.beq f 119 with
      | true =>
        rw [e2, cond_true] at h1
        have hf : f = 119 := Nat.eq_of_beq_eq_true e2
        subst hf
        obtain ⟨c1, c2⟩ := shapeT_ok h1
        exact sum_bareF Facts.stays rfl c1 c2 hW U H
      | false => rw [e2] at h1; cases h1
  · cases h
end Go.Cn
