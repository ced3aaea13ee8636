/- The law, as the canonical run makes it. -/
import Derived.Test.YtolbpklaniifhaaLSn
import Derived.Test.YtolbpklaniifhaaLFeb
import Derived.Test.YtolbpklaniifhaaLCnQ
namespace Go.Cn
set_option linter.unusedVariables false
set_option linter.unusedSimpArgs false
set_option maxRecDepth 8000
theorem v_tail2 {l len : Nat} {lo : Nat} (h1 : lo ≤ len) (k : IntKind) : sliceSl 1 (.slice (some ⟨l, 0, none⟩) len 2) (some (.int k lo)) none none = some (.slice (some ⟨l, lo, none⟩) (len - lo) 2) := by
  simp only [sliceSl, cSliceSl, hiOf, loOf, asI, obs]
  rw [if_neg (by omega), if_pos ⟨trivial, by omega, by omega, by omega⟩]
  simp [addA]
theorem v_head2 {l len : Nat} {hi : Nat} (h1 : hi ≤ len) (k : IntKind) : sliceSl 1 (.slice (some ⟨l, 0, none⟩) len 2) none (some (.int k hi)) none = some (.slice (some ⟨l, 0, none⟩) hi 2) := by
  simp only [sliceSl, cSliceSl, hiOf, loOf, asI, obs]
  rw [if_neg (by omega), if_pos ⟨trivial, by omega, by omega, by omega⟩]
  simp [addA]
theorem v_slice2 {l len : Nat} {lo n : Nat} (h1 : lo + n ≤ len) (k k' : IntKind) : sliceSl 1 (.slice (some ⟨l, 0, none⟩) len 2) (some (.int k lo)) (some (.int k' ((lo + n : Nat) : Int))) none = some (.slice (some ⟨l, lo, none⟩) n 2) := by
  simp only [sliceSl, cSliceSl, hiOf, loOf, asI, obs]
  rw [if_neg (by omega), if_pos ⟨trivial, by omega, by omega, by omega⟩]
  simp [addA]
  omega
theorem v_shl32 (t : TypeId) (k : IntKind) (a : Int) : cBin Go.Proofs.Try.prog .shl t (.int .u64 a) (.int k 32) = some (.int .u64 (IntKind.u64.wrap (a * 2 ^ 32))) := by
  show cShift .shl .u64 a 32 = _
  simp only [cShift, IntKind.bits]
  rw [if_neg (by omega)]
  rfl
theorem keep_loop {b l c : Nat} {mn mx other : Int} {hm : Bool} (t0 t1 t3 t4 t5 t12 t14 t16 t18 t20 t22 t24 t26 t28 : Value) (ds : List Deferred) : ∀ (d K i : Nat) (H : CH) (W : List Int), 300 - i ≤ d → d + 40 < K → i ≤ 300 → Mem H b mn mx hm l c W → W.length = 65536 →
    ∃ H' W', (orc Go.Proofs.Try.prog KT K).loop 5 none C5_35 [t0, t1, .int .u64 other, t3, t4, t5, t12, .pointer (some ⟨b, 0, none⟩), t14, .int .u64 i, t16, t18, t20, t22, t24, t26, t28] ds H =
      some (2, [t0, t1, .int .u64 other, t3, t4, t5, t12, .pointer (some ⟨b, 0, none⟩), t14, .int .u64 300, t16, t18, t20, t22, t24, t26, t28], ds, H') ∧ Mem H' b mn mx hm l c W' ∧ W'.length = 65536 ∧ Fx l H H'
  | d, K, i, H, W, hd, hK, hi, hM, hW => by
    obtain ⟨K, rfl⟩ : ∃ j, K = j + 1 := ⟨K - 1, by omega⟩
    by_cases hm : i = 300
    · subst hm
      have e : decide (((300 : Nat) : Int) < 300) = false := by decide
      refine ⟨H, W, ?_, hM, hW, Fx.refl _ _⟩
      rw [lp5_34]
      simp only [jn5, n5_1, n5_4, n5_7, n5_8, n5_6, n5_9, n5_5t, n5_5f, n5_3, e5_12_0, e5_12_1, e5_12_2, e5_12_3, e5_12_4, e5_12_5, e5_12_6, e5_12_7, e5_12_8, n5_12, q5_12_0, q5_12_1f, q5_12_1t, q5_12_2f, q5_12_2t, q5_12_3, q5_12_4f, q5_12_4t, q5_12_5f, q5_12_5t, q5_12_6, q5_12_7f, q5_12_7t, q5_12_8f, q5_12_8t, g5_12, n5_15, n5_16, n5_14, n5_17, n5_13t, n5_13f, n5_11, n5_19, n5_22, n5_25, n5_26, n5_24, n5_27, n5_23t, n5_23f, n5_21, n5_29, n5_32, n5_37, n5_39, n5_40, n5_38t, n5_38f, n5_36, n5_43, n5_42, n5_44, n5_41, n5_35, n5_34, it5_34, ix5_34, n5_33, n5_31, n5_46, n5_49, n5_52, n5_54, n5_55, n5_53, n5_51, n5_56, n5_50t, n5_50f, n5_48, n5_58, n5_60, n5_62, n5_64, e5_67_0, e5_67_1, e5_67_2, e5_67_3, e5_67_4, e5_67_5, e5_67_6, e5_67_7, e5_67_8, n5_67, q5_67_0, q5_67_1f, q5_67_1t, q5_67_2f, q5_67_2t, q5_67_3, q5_67_4f, q5_67_4t, q5_67_5f, q5_67_5t, q5_67_6, q5_67_7f, q5_67_7t, q5_67_8f, q5_67_8t, g5_67, n5_70, n5_71, n5_69, n5_72, n5_68t, n5_68f, n5_66, n5_74, n5_76, n5_79, n5_82, n5_83, n5_81, n5_84, n5_80t, n5_80f, n5_78, e5_86_0, e5_86_1, e5_86_2, e5_86_3, e5_86_4, e5_86_5, e5_86_6, e5_86_7, e5_86_8, e5_86_9, e5_86_10, e5_86_11, n5_86, q5_86_0, q5_86_1f, q5_86_1t, q5_86_2f, q5_86_2t, q5_86_3f, q5_86_3t, q5_86_4, q5_86_5f, q5_86_5t, q5_86_6f, q5_86_6t, q5_86_7, q5_86_8f, q5_86_8t, q5_86_9f, q5_86_9t, q5_86_10f, q5_86_10t, q5_86_11, g5_86, n5_87, n5_85, n5_77, n5_75, n5_73, n5_65, n5_63, n5_61, n5_59, n5_57, n5_47, n5_45, n5_30, n5_28, n5_20, n5_18, n5_10, n5_2, n5_0, lk5, fin5_0, fin5_1, seqK_0, seqK_s, jnK_t, jnK_f, blkK_f0, blkK_t0, blkK_f1, blkK_t1, blkK_fx, blkK_tx, obs, List.set_cons_succ, List.set_cons_zero, Nat.reduceAdd, opK_go, v_lss, e]
      rfl
    · obtain ⟨d, rfl⟩ : ∃ j, d = j + 1 := ⟨d - 1, by omega⟩
      have e : decide ((i : Int) < 300) = true := by simp; omega
      have w8 : IntKind.u64.wrap ((i : Int) * 8) = ((i * 8 : Nat) : Int) := by rw [u_id (by omega) (by omega)]; omega
      have w1 : IntKind.u64.wrap ((i : Int) + 1) = ((i + 1 : Nat) : Int) := by rw [u_id (by omega) (by omega)]; omega
      obtain ⟨H1, y1, y2, y3⟩ := store_ok (K := K) (by omega) hM (a := ((i * 8 : Nat) : Int)) (o := 0) (k := 8) (IntKind.u64.wrap ((i : Int) * other)) (by omega) (by omega) (by unfold Sz; omega) (by omega)
      obtain ⟨H2, W2, z1, z2, z3, z4⟩   := keep_loop (other := other) t0 t1 t3 t4 t5 t12 t14 t16 t18 t20 t22 t24 t26 t28 ds d K (i + 1) H1 _ (by omega) (by omega) (by omega) y2 (by rw [spl_len (by simp [rowB]; omega), hW])
      refine ⟨H2, W2, ?_, z2, z3, y3.trans z4⟩
      rw [lp5_34]
      simp only [jn5, n5_1, n5_4, n5_7, n5_8, n5_6, n5_9, n5_5t, n5_5f, n5_3, e5_12_0, e5_12_1, e5_12_2, e5_12_3, e5_12_4, e5_12_5, e5_12_6, e5_12_7, e5_12_8, n5_12, q5_12_0, q5_12_1f, q5_12_1t, q5_12_2f, q5_12_2t, q5_12_3, q5_12_4f, q5_12_4t, q5_12_5f, q5_12_5t, q5_12_6, q5_12_7f, q5_12_7t, q5_12_8f, q5_12_8t, g5_12, n5_15, n5_16, n5_14, n5_17, n5_13t, n5_13f, n5_11, n5_19, n5_22, n5_25, n5_26, n5_24, n5_27, n5_23t, n5_23f, n5_21, n5_29, n5_32, n5_37, n5_39, n5_40, n5_38t, n5_38f, n5_36, n5_43, n5_42, n5_44, n5_41, n5_35, n5_34, it5_34, ix5_34, n5_33, n5_31, n5_46, n5_49, n5_52, n5_54, n5_55, n5_53, n5_51, n5_56, n5_50t, n5_50f, n5_48, n5_58, n5_60, n5_62, n5_64, e5_67_0, e5_67_1, e5_67_2, e5_67_3, e5_67_4, e5_67_5, e5_67_6, e5_67_7, e5_67_8, n5_67, q5_67_0, q5_67_1f, q5_67_1t, q5_67_2f, q5_67_2t, q5_67_3, q5_67_4f, q5_67_4t, q5_67_5f, q5_67_5t, q5_67_6, q5_67_7f, q5_67_7t, q5_67_8f, q5_67_8t, g5_67, n5_70, n5_71, n5_69, n5_72, n5_68t, n5_68f, n5_66, n5_74, n5_76, n5_79, n5_82, n5_83, n5_81, n5_84, n5_80t, n5_80f, n5_78, e5_86_0, e5_86_1, e5_86_2, e5_86_3, e5_86_4, e5_86_5, e5_86_6, e5_86_7, e5_86_8, e5_86_9, e5_86_10, e5_86_11, n5_86, q5_86_0, q5_86_1f, q5_86_1t, q5_86_2f, q5_86_2t, q5_86_3f, q5_86_3t, q5_86_4, q5_86_5f, q5_86_5t, q5_86_6f, q5_86_6t, q5_86_7, q5_86_8f, q5_86_8t, q5_86_9f, q5_86_9t, q5_86_10f, q5_86_10t, q5_86_11, g5_86, n5_87, n5_85, n5_77, n5_75, n5_73, n5_65, n5_63, n5_61, n5_59, n5_57, n5_47, n5_45, n5_30, n5_28, n5_20, n5_18, n5_10, n5_2, n5_0, lk5, fin5_0, fin5_1, seqK_0, seqK_s, jnK_t, jnK_f, blkK_f0, blkK_t0, blkK_f1, blkK_t1, blkK_fx, blkK_tx, obs, List.set_cons_succ, List.set_cons_zero, Nat.reduceAdd, opK_go, v_lss, e, v_mul, w8, y1, v_add, w1, z1]
theorem keep_far {K : Nat} (hK : 100 ≤ K) {H : CH} (hl : H.lim ≤ H.n) (A S T N : Nat) (x other : Value) (hf : 70000 < A ∨ 70000 < S ∨ 70000 < T ∨ 200 < N) :
    ∃ H', (orc Go.Proofs.Try.prog KT K).call 5 [.int .u64 A, x, other, .int .u64 S, .int .u64 T, .int .u64 N] H = some (.bool true, H') := by
  obtain ⟨K, rfl⟩ : ∃ j, K = j + 1 := ⟨K - 1, by omega⟩
  obtain ⟨H1, k1, k2⟩ := known_spec (K := K) (by omega) hl
  refine ⟨H1, ?_⟩
  rw [call5]
  by_cases h1 : 70000 < A
  · have e1 : decide ((A : Int) > 70000) = true := by simp; omega
    simp only [jn5, n5_1, n5_4, n5_7, n5_8, n5_6, n5_9, n5_5t, n5_5f, n5_3, e5_12_0, e5_12_1, e5_12_2, e5_12_3, e5_12_4, e5_12_5, e5_12_6, e5_12_7, e5_12_8, n5_12, q5_12_0, q5_12_1f, q5_12_1t, q5_12_2f, q5_12_2t, q5_12_3, q5_12_4f, q5_12_4t, q5_12_5f, q5_12_5t, q5_12_6, q5_12_7f, q5_12_7t, q5_12_8f, q5_12_8t, g5_12, n5_15, n5_16, n5_14, n5_17, n5_13t, n5_13f, n5_11, n5_19, n5_22, n5_25, n5_26, n5_24, n5_27, n5_23t, n5_23f, n5_21, n5_29, n5_32, n5_37, n5_39, n5_40, n5_38t, n5_38f, n5_36, n5_43, n5_42, n5_44, n5_41, n5_35, n5_34, it5_34, ix5_34, n5_33, n5_31, n5_46, n5_49, n5_52, n5_54, n5_55, n5_53, n5_51, n5_56, n5_50t, n5_50f, n5_48, n5_58, n5_60, n5_62, n5_64, e5_67_0, e5_67_1, e5_67_2, e5_67_3, e5_67_4, e5_67_5, e5_67_6, e5_67_7, e5_67_8, n5_67, q5_67_0, q5_67_1f, q5_67_1t, q5_67_2f, q5_67_2t, q5_67_3, q5_67_4f, q5_67_4t, q5_67_5f, q5_67_5t, q5_67_6, q5_67_7f, q5_67_7t, q5_67_8f, q5_67_8t, g5_67, n5_70, n5_71, n5_69, n5_72, n5_68t, n5_68f, n5_66, n5_74, n5_76, n5_79, n5_82, n5_83, n5_81, n5_84, n5_80t, n5_80f, n5_78, e5_86_0, e5_86_1, e5_86_2, e5_86_3, e5_86_4, e5_86_5, e5_86_6, e5_86_7, e5_86_8, e5_86_9, e5_86_10, e5_86_11, n5_86, q5_86_0, q5_86_1f, q5_86_1t, q5_86_2f, q5_86_2t, q5_86_3f, q5_86_3t, q5_86_4, q5_86_5f, q5_86_5t, q5_86_6f, q5_86_6t, q5_86_7, q5_86_8f, q5_86_8t, q5_86_9f, q5_86_9t, q5_86_10f, q5_86_10t, q5_86_11, g5_86, n5_87, n5_85, n5_77, n5_75, n5_73, n5_65, n5_63, n5_61, n5_59, n5_57, n5_47, n5_45, n5_30, n5_28, n5_20, n5_18, n5_10, n5_2, n5_0, lk5, fin5_0, fin5_1, seqK_0, seqK_s, jnK_t, jnK_f, blkK_f0, blkK_t0, blkK_f1, blkK_t1, blkK_fx, blkK_tx, obs, List.set_cons_succ, List.set_cons_zero, Nat.reduceAdd, opK_go, k1, v_asB, cond_true, cond_false, setAll1, v_not, Bool.not_true, v_gtr, e1]
  have e1 : decide ((A : Int) > 70000) = false := by simp; omega
  by_cases h2 : 70000 < S
  · have e2 : decide ((S : Int) > 70000) = true := by simp; omega
    simp only [jn5, n5_1, n5_4, n5_7, n5_8, n5_6, n5_9, n5_5t, n5_5f, n5_3, e5_12_0, e5_12_1, e5_12_2, e5_12_3, e5_12_4, e5_12_5, e5_12_6, e5_12_7, e5_12_8, n5_12, q5_12_0, q5_12_1f, q5_12_1t, q5_12_2f, q5_12_2t, q5_12_3, q5_12_4f, q5_12_4t, q5_12_5f, q5_12_5t, q5_12_6, q5_12_7f, q5_12_7t, q5_12_8f, q5_12_8t, g5_12, n5_15, n5_16, n5_14, n5_17, n5_13t, n5_13f, n5_11, n5_19, n5_22, n5_25, n5_26, n5_24, n5_27, n5_23t, n5_23f, n5_21, n5_29, n5_32, n5_37, n5_39, n5_40, n5_38t, n5_38f, n5_36, n5_43, n5_42, n5_44, n5_41, n5_35, n5_34, it5_34, ix5_34, n5_33, n5_31, n5_46, n5_49, n5_52, n5_54, n5_55, n5_53, n5_51, n5_56, n5_50t, n5_50f, n5_48, n5_58, n5_60, n5_62, n5_64, e5_67_0, e5_67_1, e5_67_2, e5_67_3, e5_67_4, e5_67_5, e5_67_6, e5_67_7, e5_67_8, n5_67, q5_67_0, q5_67_1f, q5_67_1t, q5_67_2f, q5_67_2t, q5_67_3, q5_67_4f, q5_67_4t, q5_67_5f, q5_67_5t, q5_67_6, q5_67_7f, q5_67_7t, q5_67_8f, q5_67_8t, g5_67, n5_70, n5_71, n5_69, n5_72, n5_68t, n5_68f, n5_66, n5_74, n5_76, n5_79, n5_82, n5_83, n5_81, n5_84, n5_80t, n5_80f, n5_78, e5_86_0, e5_86_1, e5_86_2, e5_86_3, e5_86_4, e5_86_5, e5_86_6, e5_86_7, e5_86_8, e5_86_9, e5_86_10, e5_86_11, n5_86, q5_86_0, q5_86_1f, q5_86_1t, q5_86_2f, q5_86_2t, q5_86_3f, q5_86_3t, q5_86_4, q5_86_5f, q5_86_5t, q5_86_6f, q5_86_6t, q5_86_7, q5_86_8f, q5_86_8t, q5_86_9f, q5_86_9t, q5_86_10f, q5_86_10t, q5_86_11, g5_86, n5_87, n5_85, n5_77, n5_75, n5_73, n5_65, n5_63, n5_61, n5_59, n5_57, n5_47, n5_45, n5_30, n5_28, n5_20, n5_18, n5_10, n5_2, n5_0, lk5, fin5_0, fin5_1, seqK_0, seqK_s, jnK_t, jnK_f, blkK_f0, blkK_t0, blkK_f1, blkK_t1, blkK_fx, blkK_tx, obs, List.set_cons_succ, List.set_cons_zero, Nat.reduceAdd, opK_go, k1, v_asB, cond_true, cond_false, setAll1, v_not, Bool.not_true, v_gtr, e1, e2]
  have e2 : decide ((S : Int) > 70000) = false := by simp; omega
  by_cases h3 : 70000 < T
  · have e3 : decide ((T : Int) > 70000) = true := by simp; omega
    simp only [jn5, n5_1, n5_4, n5_7, n5_8, n5_6, n5_9, n5_5t, n5_5f, n5_3, e5_12_0, e5_12_1, e5_12_2, e5_12_3, e5_12_4, e5_12_5, e5_12_6, e5_12_7, e5_12_8, n5_12, q5_12_0, q5_12_1f, q5_12_1t, q5_12_2f, q5_12_2t, q5_12_3, q5_12_4f, q5_12_4t, q5_12_5f, q5_12_5t, q5_12_6, q5_12_7f, q5_12_7t, q5_12_8f, q5_12_8t, g5_12, n5_15, n5_16, n5_14, n5_17, n5_13t, n5_13f, n5_11, n5_19, n5_22, n5_25, n5_26, n5_24, n5_27, n5_23t, n5_23f, n5_21, n5_29, n5_32, n5_37, n5_39, n5_40, n5_38t, n5_38f, n5_36, n5_43, n5_42, n5_44, n5_41, n5_35, n5_34, it5_34, ix5_34, n5_33, n5_31, n5_46, n5_49, n5_52, n5_54, n5_55, n5_53, n5_51, n5_56, n5_50t, n5_50f, n5_48, n5_58, n5_60, n5_62, n5_64, e5_67_0, e5_67_1, e5_67_2, e5_67_3, e5_67_4, e5_67_5, e5_67_6, e5_67_7, e5_67_8, n5_67, q5_67_0, q5_67_1f, q5_67_1t, q5_67_2f, q5_67_2t, q5_67_3, q5_67_4f, q5_67_4t, q5_67_5f, q5_67_5t, q5_67_6, q5_67_7f, q5_67_7t, q5_67_8f, q5_67_8t, g5_67, n5_70, n5_71, n5_69, n5_72, n5_68t, n5_68f, n5_66, n5_74, n5_76, n5_79, n5_82, n5_83, n5_81, n5_84, n5_80t, n5_80f, n5_78, e5_86_0, e5_86_1, e5_86_2, e5_86_3, e5_86_4, e5_86_5, e5_86_6, e5_86_7, e5_86_8, e5_86_9, e5_86_10, e5_86_11, n5_86, q5_86_0, q5_86_1f, q5_86_1t, q5_86_2f, q5_86_2t, q5_86_3f, q5_86_3t, q5_86_4, q5_86_5f, q5_86_5t, q5_86_6f, q5_86_6t, q5_86_7, q5_86_8f, q5_86_8t, q5_86_9f, q5_86_9t, q5_86_10f, q5_86_10t, q5_86_11, g5_86, n5_87, n5_85, n5_77, n5_75, n5_73, n5_65, n5_63, n5_61, n5_59, n5_57, n5_47, n5_45, n5_30, n5_28, n5_20, n5_18, n5_10, n5_2, n5_0, lk5, fin5_0, fin5_1, seqK_0, seqK_s, jnK_t, jnK_f, blkK_f0, blkK_t0, blkK_f1, blkK_t1, blkK_fx, blkK_tx, obs, List.set_cons_succ, List.set_cons_zero, Nat.reduceAdd, opK_go, k1, v_asB, cond_true, cond_false, setAll1, v_not, Bool.not_true, v_gtr, e1, e2, e3]
  have e3 : decide ((T : Int) > 70000) = false := by simp; omega
  have e4 : decide ((N : Int) > 200) = true := by simp; omega
  simp only [jn5, n5_1, n5_4, n5_7, n5_8, n5_6, n5_9, n5_5t, n5_5f, n5_3, e5_12_0, e5_12_1, e5_12_2, e5_12_3, e5_12_4, e5_12_5, e5_12_6, e5_12_7, e5_12_8, n5_12, q5_12_0, q5_12_1f, q5_12_1t, q5_12_2f, q5_12_2t, q5_12_3, q5_12_4f, q5_12_4t, q5_12_5f, q5_12_5t, q5_12_6, q5_12_7f, q5_12_7t, q5_12_8f, q5_12_8t, g5_12, n5_15, n5_16, n5_14, n5_17, n5_13t, n5_13f, n5_11, n5_19, n5_22, n5_25, n5_26, n5_24, n5_27, n5_23t, n5_23f, n5_21, n5_29, n5_32, n5_37, n5_39, n5_40, n5_38t, n5_38f, n5_36, n5_43, n5_42, n5_44, n5_41, n5_35, n5_34, it5_34, ix5_34, n5_33, n5_31, n5_46, n5_49, n5_52, n5_54, n5_55, n5_53, n5_51, n5_56, n5_50t, n5_50f, n5_48, n5_58, n5_60, n5_62, n5_64, e5_67_0, e5_67_1, e5_67_2, e5_67_3, e5_67_4, e5_67_5, e5_67_6, e5_67_7, e5_67_8, n5_67, q5_67_0, q5_67_1f, q5_67_1t, q5_67_2f, q5_67_2t, q5_67_3, q5_67_4f, q5_67_4t, q5_67_5f, q5_67_5t, q5_67_6, q5_67_7f, q5_67_7t, q5_67_8f, q5_67_8t, g5_67, n5_70, n5_71, n5_69, n5_72, n5_68t, n5_68f, n5_66, n5_74, n5_76, n5_79, n5_82, n5_83, n5_81, n5_84, n5_80t, n5_80f, n5_78, e5_86_0, e5_86_1, e5_86_2, e5_86_3, e5_86_4, e5_86_5, e5_86_6, e5_86_7, e5_86_8, e5_86_9, e5_86_10, e5_86_11, n5_86, q5_86_0, q5_86_1f, q5_86_1t, q5_86_2f, q5_86_2t, q5_86_3f, q5_86_3t, q5_86_4, q5_86_5f, q5_86_5t, q5_86_6f, q5_86_6t, q5_86_7, q5_86_8f, q5_86_8t, q5_86_9f, q5_86_9t, q5_86_10f, q5_86_10t, q5_86_11, g5_86, n5_87, n5_85, n5_77, n5_75, n5_73, n5_65, n5_63, n5_61, n5_59, n5_57, n5_47, n5_45, n5_30, n5_28, n5_20, n5_18, n5_10, n5_2, n5_0, lk5, fin5_0, fin5_1, seqK_0, seqK_s, jnK_t, jnK_f, blkK_f0, blkK_t0, blkK_f1, blkK_t1, blkK_fx, blkK_tx, obs, List.set_cons_succ, List.set_cons_zero, Nat.reduceAdd, opK_go, k1, v_asB, cond_true, cond_false, setAll1, v_not, Bool.not_true, v_gtr, e1, e2, e3, e4]
theorem v_lim1 : cBuild Go.Proofs.Try.prog 30 [(1, .int .u64 1)] = some (.agg ⟨lx (1 : Nat) 0 false⟩) := by kernel_rfl
/-- All the bytes of a memory of one page. -/
theorem all_bytes {K : Nat} (hK : 2 ≤ K) {H : CH} {b l c : Nat} {mn mx : Int} {hm : Bool} {w : List Int} (h : Mem H b mn mx hm l c w) (hw : w.length = 65536) :
    ∃ H' r, (orc Go.Proofs.Try.prog KT K).call 22 [.pointer (some ⟨b, 0, none⟩), .int .u64 0, .int .u64 65536] H = some (.tuple ⟨[.slice (some ⟨r, 0, none⟩) 65536 2, .int .i64 0]⟩, H') ∧ H'.get r = some (.cells (wc w) 5) ∧ Fx H.n H H' ∧ H.n ≤ r ∧ r < H'.n := by
  obtain ⟨H', r, y1, y2, y⟩ := bytes_ok hK h (a := 0) (n := 65536) (by omega) (by omega)
  rw [show ((0 : Nat) : Int) = 0 from rfl, show ((65536 : Nat) : Int) = 65536 from rfl] at y1
  rw [List.drop_zero, List.take_of_length_le (by omega)] at y2
  exact ⟨H', r, y1, y2, y⟩
theorem keep_spec {K : Nat} (hK : 1000 ≤ K) {H : CH} (hl : H.lim ≤ H.n) {A S T N X : Nat} (other : Int) (hA : A ≤ 70000) (hS : S ≤ 70000) (hT : T ≤ 70000) (hN : N ≤ 200) (hX : X < 2 ^ 64) :
    ∃ H', (orc Go.Proofs.Try.prog KT K).call 5 [.int .u64 A, .int .u64 X, .int .u64 other, .int .u64 S, .int .u64 T, .int .u64 N] H = some (.bool true, H') := by
  obtain ⟨K, rfl⟩ : ∃ j, K = j + 1 := ⟨K - 1, by omega⟩
  obtain ⟨H1, k1, k2⟩ := known_spec (K := K) (by omega) hl
  have e1 : decide ((A : Int) > 70000) = false := by simp; omega
  have e2 : decide ((S : Int) > 70000) = false := by simp; omega
  have e3 : decide ((T : Int) > 70000) = false := by simp; omega
  have e4 : decide ((N : Int) > 200) = false := by simp; omega
  have hl1 : H1.lim ≤ H1.n := by rw [k2.lim]; have := k2.n; omega
  obtain ⟨H2, b, l, a1, a2, a3, a4, a5⟩ := new_spec (K := K) (by omega) hl1 (n := 1) (by omega) 0 false
  obtain ⟨Z, eZ, lZ⟩ : ∃ Z, Z = List.replicate (1 * 65536) (0 : Int) ∧ Z.length = 65536 := ⟨_, rfl, by rw [List.length_replicate]⟩
  rw [← eZ] at a2
  obtain ⟨H3, b1, b2, b3⟩ := store_ok (K := K) (by omega) a2 (a := 0) (o := 65528) (k := 8) other (by omega) (by omega) (by unfold Sz; omega) (by omega)
  obtain ⟨H4, W2, c1, c2, c3, c4⟩ := keep_loop (K := K) (other := other) (.int .u64 A) (.int .u64 X) (.int .u64 S) (.int .u64 T) (.int .u64 N) (.bool false) (.int .i64 0) undef undef undef undef undef undef undef [] 300 0 H3 _ (by omega) (by omega) (by omega) b2 (by rw [spl_len (by simp [rowB]; omega), lZ])
  rw [show ((0 : Nat) : Int) = 0 from rfl] at c1
  obtain ⟨H5, r0, d1, d2, d3, d4, d5⟩ := all_bytes (K := K) (by omega) c2 c3
  have m5 := c2.fxn d3
  have q00 : ((0 : Int) != 0) = false := rfl
  have q0 : ((0 : Int) == 0) = true := rfl
  have q260 : ((260 : Int) != 0) = true := rfl
  have q261 : ((260 : Int) == 260) = true := rfl
  have hln := c2.ln
  by_cases hat : A + 8 ≤ 65536
  · obtain ⟨H6, f1, f2, f3⟩ := store_ok (K := K) (by omega) m5 (a := A) (o := 0) (k := 8) X (by omega) (by omega) (by unfold Sz; omega) (by omega)
    have rl : (rowB (X : Int) 8).length = 8 := by simp [rowB]
    rw [show ((A : Int) + 0).toNat = A by omega, show (8 : Int).toNat = 8 from rfl, List.take_of_length_le (by omega)] at f2
    obtain ⟨W3, eW3⟩ : ∃ V, V = spl W2 A (rowB (X : Int) 8) := ⟨_, rfl⟩
    have lW3 : W3.length = 65536 := by rw [eW3, spl_len (by omega), c3]
    obtain ⟨H7, g1, g2⟩ := load_ok (K := K) (by omega) f2 (a := A) (o := 0) (k := 8) (by omega) (by omega) (by unfold Sz; omega) (by rw [← eW3]; omega)
    rw [show ((A : Int) + 0).toNat = A by omega, show (8 : Int).toNat = 8 from rfl, spl_sub (by omega) (by omega) (by omega), Nat.sub_self, val8 hX] at g1
    have m7 := f2.fxn g2
    obtain ⟨H8, h1, h2⟩ := load_ok (K := K) (by omega) m7 (a := A) (o := 0) (k := 4) (by omega) (by omega) (by unfold Sz; omega) (by rw [← eW3]; omega)
    rw [show ((A : Int) + 0).toNat = A by omega, show (4 : Int).toNat = 4 from rfl, spl_sub (by omega) (by omega) (by omega), Nat.sub_self, val4a hX] at h1
    have m8 := m7.fxn h2
    obtain ⟨H9, i1, i2⟩ := load_ok (K := K) (by omega) m8 (a := A) (o := 4) (k := 4) (by omega) (by omega) (by unfold Sz; omega) (by rw [← eW3]; omega)
    rw [show ((A : Int) + 4).toNat = A + 4 by omega, show (4 : Int).toNat = 4 from rfl, spl_sub (by omega) (by omega) (by omega), show A + 4 - A = 4 by omega, val4b hX] at i1
    have m9 := m8.fxn i2
    rw [← eW3] at m9
    obtain ⟨H10, r2, j1, j2, j3, j4, j5⟩ := all_bytes (K := K) (by omega) m9 lW3
    have m10 := m9.fxn j3
    have n6 := f3.n
    have n7 := g2.n
    have n8 := h2.n
    have n9 := i2.n
    have n10 := j3.n
    have s10 : H10.get r0 = some (.cells (wc W2) 5) :=
      (j3.get r0 (by omega) (by omega)).trans ((i2.get r0 (by omega) (by omega)).trans ((h2.get r0 (by omega) (by omega)).trans ((g2.get r0 (by omega) (by omega)).trans ((f3.get r0 (by omega) (by omega)).trans d2))))
    have addv : IntKind.u64.wrap (((X % 2 ^ 32 : Nat) : Int) + IntKind.u64.wrap (((X / 2 ^ 32 : Nat) : Int) * 2 ^ 32)) = X := by
      rw [u_id (n := ((X / 2 ^ 32 : Nat) : Int) * 2 ^ 32) (by omega) (by omega), u_id (by omega) (by omega)]; omega
    have qX : ((X : Int) != X) = false := by simp
    have wA8 : IntKind.u64.wrap ((A : Int) + 8) = ((A + 8 : Nat) : Int) := by rw [u_id (by omega) (by omega)]; omega
    have sg1 : (W3.drop 0).take A = (W2.drop 0).take A := by rw [eW3]; exact spl_out (by omega) (by omega)
    have sg2 : (W3.drop (A + 8)).take (65536 - (A + 8)) = (W2.drop (A + 8)).take (65536 - (A + 8)) := by rw [eW3]; exact spl_out (by omega) (by omega)
    have st1 := v_str (n := A) (o := 0) (c := 2) j2 (by omega)
    have st2 := v_str (n := A) (o := 0) (c := 2) s10 (by omega)
    have st3 := v_str (n := 65536 - (A + 8)) (o := A + 8) (c := 2) j2 (by omega)
    have st4 := v_str (n := 65536 - (A + 8)) (o := A + 8) (c := 2) s10 (by omega)
    rw [sg1] at st1
    rw [sg2] at st3
    have wS : IntKind.u64.wrap ((S : Int) + N) = ((S + N : Nat) : Int) := by rw [u_id (by omega) (by omega)]; omega
    have wT : IntKind.u64.wrap ((T : Int) + N) = ((T + N : Nat) : Int) := by rw [u_id (by omega) (by omega)]; omega
    by_cases hok : S + N ≤ 65536 ∧ T + N ≤ 65536
    · obtain ⟨H11, p1, p2, p3⟩ := copy_ok (K := K) (by omega) m10 (a := T) (s := S) (k := N) (by omega) (by omega) (by omega) (by omega) (by omega)
      simp only [Int.toNat_natCast] at p2
      obtain ⟨W4, eW4⟩ : ∃ V, V = spl W3 T ((W3.drop S).take N) := ⟨_, rfl⟩
      have sl : ((W3.drop S).take N).length = N := by simp; omega
      have lW4 : W4.length = 65536 := by rw [eW4, spl_len (by omega), lW3]
      rw [← eW4] at p2
      obtain ⟨H12, r3, u1, u2, u3, u4, u5⟩ := all_bytes (K := K) (by omega) p2 lW4
      have n11 := p3.n
      have s12 : H12.get r2 = some (.cells (wc W3) 5) := (u3.get r2 (by omega) (by omega)).trans ((p3.get r2 (by omega) (by have := m9.ln; omega)).trans j2)
      have x1 : decide (((S + N : Nat) : Int) > 65536) = false := by simp; omega
      have x2 : decide (((T + N : Nat) : Int) > 65536) = false := by simp; omega
      have tg1 : (W4.drop T).take N = (W3.drop S).take N := by
        rw [eW4, spl_sub (by omega) (by omega) (by omega), Nat.sub_self, List.drop_zero, List.take_of_length_le (by omega)]
      have tg2 : (W4.drop 0).take T = (W3.drop 0).take T := by rw [eW4]; exact spl_out (by omega) (by omega)
      have tg3 : (W4.drop (T + N)).take (65536 - (T + N)) = (W3.drop (T + N)).take (65536 - (T + N)) := by rw [eW4]; exact spl_out (by omega) (by omega)
      have y1 := v_str (n := N) (o := T) (c := 2) u2 (by omega)
      have y2 := v_str (n := N) (o := S) (c := 2) s12 (by omega)
      have y3 := v_str (n := T) (o := 0) (c := 2) u2 (by omega)
      have y4 := v_str (n := T) (o := 0) (c := 2) s12 (by omega)
      have y5 := v_str (n := 65536 - (T + N)) (o := T + N) (c := 2) u2 (by omega)
      have y6 := v_str (n := 65536 - (T + N)) (o := T + N) (c := 2) s12 (by omega)
      rw [tg1] at y1
      rw [tg2] at y3
      rw [tg3] at y5
      refine ⟨H12, ?_⟩
      rw [call5]
      simp only [jn5, n5_1, n5_4, n5_7, n5_8, n5_6, n5_9, n5_5t, n5_5f, n5_3, e5_12_0, e5_12_1, e5_12_2, e5_12_3, e5_12_4, e5_12_5, e5_12_6, e5_12_7, e5_12_8, n5_12, q5_12_0, q5_12_1f, q5_12_1t, q5_12_2f, q5_12_2t, q5_12_3, q5_12_4f, q5_12_4t, q5_12_5f, q5_12_5t, q5_12_6, q5_12_7f, q5_12_7t, q5_12_8f, q5_12_8t, g5_12, n5_15, n5_16, n5_14, n5_17, n5_13t, n5_13f, n5_11, n5_19, n5_22, n5_25, n5_26, n5_24, n5_27, n5_23t, n5_23f, n5_21, n5_29, n5_32, n5_37, n5_39, n5_40, n5_38t, n5_38f, n5_36, n5_43, n5_42, n5_44, n5_41, n5_35, n5_34, it5_34, ix5_34, n5_33, n5_31, n5_46, n5_49, n5_52, n5_54, n5_55, n5_53, n5_51, n5_56, n5_50t, n5_50f, n5_48, n5_58, n5_60, n5_62, n5_64, e5_67_0, e5_67_1, e5_67_2, e5_67_3, e5_67_4, e5_67_5, e5_67_6, e5_67_7, e5_67_8, n5_67, q5_67_0, q5_67_1f, q5_67_1t, q5_67_2f, q5_67_2t, q5_67_3, q5_67_4f, q5_67_4t, q5_67_5f, q5_67_5t, q5_67_6, q5_67_7f, q5_67_7t, q5_67_8f, q5_67_8t, g5_67, n5_70, n5_71, n5_69, n5_72, n5_68t, n5_68f, n5_66, n5_74, n5_76, n5_79, n5_82, n5_83, n5_81, n5_84, n5_80t, n5_80f, n5_78, e5_86_0, e5_86_1, e5_86_2, e5_86_3, e5_86_4, e5_86_5, e5_86_6, e5_86_7, e5_86_8, e5_86_9, e5_86_10, e5_86_11, n5_86, q5_86_0, q5_86_1f, q5_86_1t, q5_86_2f, q5_86_2t, q5_86_3f, q5_86_3t, q5_86_4, q5_86_5f, q5_86_5t, q5_86_6f, q5_86_6t, q5_86_7, q5_86_8f, q5_86_8t, q5_86_9f, q5_86_9t, q5_86_10f, q5_86_10t, q5_86_11, g5_86, n5_87, n5_85, n5_77, n5_75, n5_73, n5_65, n5_63, n5_61, n5_59, n5_57, n5_47, n5_45, n5_30, n5_28, n5_20, n5_18, n5_10, n5_2, n5_0, lk5, fin5_0, fin5_1, seqK_0, seqK_s, jnK_t, jnK_f, blkK_f0, blkK_t0, blkK_f1, blkK_t1, blkK_fx, blkK_tx, obs, List.set_cons_succ, List.set_cons_zero, Nat.reduceAdd, opK_go, k1, v_asB, cond_true, cond_false, setAll1, v_not, Bool.not_true, v_gtr, e1, e2, e3, e4, v_lim1, a1, v_ex0, v_ex1, v_neq, q00, v_ptr, b1, c1, d1, f1, g1, h1, i1, j1, qX, v_shl32, v_add, addv, v_head2 (show A ≤ 65536 by omega), st1, st2, v_sne, wA8, v_tail2 (show A + 8 ≤ 65536 by omega), st3, st4,
        p1, u1, wS, wT, x1, x2, v_eql, q0, v_slice2 (show T + N ≤ 65536 by omega), v_slice2 (show S + N ≤ 65536 by omega), y1, y2, v_seq, v_head2 (show T ≤ 65536 by omega), y3, y4, v_tail2 (show T + N ≤ 65536 by omega), y5, y6]
    · have p1 := copy_bad (K := K) (by omega) m10 (a := T) (s := S) (k := N) (by omega) (by omega) (by omega) (by omega) (by omega) (by omega) (by omega)
      obtain ⟨H12, r3, u1, u2, u3, u4, u5⟩ := all_bytes (K := K) (by omega) m10 lW3
      have s12 : H12.get r2 = some (.cells (wc W3) 5) := (u3.get r2 (by omega) (by omega)).trans j2
      have y1 := v_str (n := 65536) (o := 0) (c := 2) u2 (by omega)
      have y2 := v_str (n := 65536) (o := 0) (c := 2) s12 (by omega)
      refine ⟨H12, ?_⟩
      rw [call5]
      by_cases h9 : S + N ≤ 65536
      · have x1 : decide (((S + N : Nat) : Int) > 65536) = false := by simp; omega
        have x2 : decide (((T + N : Nat) : Int) > 65536) = true := by simp; omega
        simp only [jn5, n5_1, n5_4, n5_7, n5_8, n5_6, n5_9, n5_5t, n5_5f, n5_3, e5_12_0, e5_12_1, e5_12_2, e5_12_3, e5_12_4, e5_12_5, e5_12_6, e5_12_7, e5_12_8, n5_12, q5_12_0, q5_12_1f, q5_12_1t, q5_12_2f, q5_12_2t, q5_12_3, q5_12_4f, q5_12_4t, q5_12_5f, q5_12_5t, q5_12_6, q5_12_7f, q5_12_7t, q5_12_8f, q5_12_8t, g5_12, n5_15, n5_16, n5_14, n5_17, n5_13t, n5_13f, n5_11, n5_19, n5_22, n5_25, n5_26, n5_24, n5_27, n5_23t, n5_23f, n5_21, n5_29, n5_32, n5_37, n5_39, n5_40, n5_38t, n5_38f, n5_36, n5_43, n5_42, n5_44, n5_41, n5_35, n5_34, it5_34, ix5_34, n5_33, n5_31, n5_46, n5_49, n5_52, n5_54, n5_55, n5_53, n5_51, n5_56, n5_50t, n5_50f, n5_48, n5_58, n5_60, n5_62, n5_64, e5_67_0, e5_67_1, e5_67_2, e5_67_3, e5_67_4, e5_67_5, e5_67_6, e5_67_7, e5_67_8, n5_67, q5_67_0, q5_67_1f, q5_67_1t, q5_67_2f, q5_67_2t, q5_67_3, q5_67_4f, q5_67_4t, q5_67_5f, q5_67_5t, q5_67_6, q5_67_7f, q5_67_7t, q5_67_8f, q5_67_8t, g5_67, n5_70, n5_71, n5_69, n5_72, n5_68t, n5_68f, n5_66, n5_74, n5_76, n5_79, n5_82, n5_83, n5_81, n5_84, n5_80t, n5_80f, n5_78, e5_86_0, e5_86_1, e5_86_2, e5_86_3, e5_86_4, e5_86_5, e5_86_6, e5_86_7, e5_86_8, e5_86_9, e5_86_10, e5_86_11, n5_86, q5_86_0, q5_86_1f, q5_86_1t, q5_86_2f, q5_86_2t, q5_86_3f, q5_86_3t, q5_86_4, q5_86_5f, q5_86_5t, q5_86_6f, q5_86_6t, q5_86_7, q5_86_8f, q5_86_8t, q5_86_9f, q5_86_9t, q5_86_10f, q5_86_10t, q5_86_11, g5_86, n5_87, n5_85, n5_77, n5_75, n5_73, n5_65, n5_63, n5_61, n5_59, n5_57, n5_47, n5_45, n5_30, n5_28, n5_20, n5_18, n5_10, n5_2, n5_0, lk5, fin5_0, fin5_1, seqK_0, seqK_s, jnK_t, jnK_f, blkK_f0, blkK_t0, blkK_f1, blkK_t1, blkK_fx, blkK_tx, obs, List.set_cons_succ, List.set_cons_zero, Nat.reduceAdd, opK_go, k1, v_asB, cond_true, cond_false, setAll1, v_not, Bool.not_true, v_gtr, e1, e2, e3, e4, v_lim1, a1, v_ex0, v_ex1, v_neq, q00, v_ptr, b1, c1, d1, f1, g1, h1, i1, j1, qX, v_shl32, v_add, addv, v_head2 (show A ≤ 65536 by omega), st1, st2, v_sne, wA8, v_tail2 (show A + 8 ≤ 65536 by omega), st3, st4,
          p1, u1, wS, wT, x1, x2, v_eql, q261, y1, y2, v_seq]
      · have x1 : decide (((S + N : Nat) : Int) > 65536) = true := by simp; omega
        simp only [jn5, n5_1, n5_4, n5_7, n5_8, n5_6, n5_9, n5_5t, n5_5f, n5_3, e5_12_0, e5_12_1, e5_12_2, e5_12_3, e5_12_4, e5_12_5, e5_12_6, e5_12_7, e5_12_8, n5_12, q5_12_0, q5_12_1f, q5_12_1t, q5_12_2f, q5_12_2t, q5_12_3, q5_12_4f, q5_12_4t, q5_12_5f, q5_12_5t, q5_12_6, q5_12_7f, q5_12_7t, q5_12_8f, q5_12_8t, g5_12, n5_15, n5_16, n5_14, n5_17, n5_13t, n5_13f, n5_11, n5_19, n5_22, n5_25, n5_26, n5_24, n5_27, n5_23t, n5_23f, n5_21, n5_29, n5_32, n5_37, n5_39, n5_40, n5_38t, n5_38f, n5_36, n5_43, n5_42, n5_44, n5_41, n5_35, n5_34, it5_34, ix5_34, n5_33, n5_31, n5_46, n5_49, n5_52, n5_54, n5_55, n5_53, n5_51, n5_56, n5_50t, n5_50f, n5_48, n5_58, n5_60, n5_62, n5_64, e5_67_0, e5_67_1, e5_67_2, e5_67_3, e5_67_4, e5_67_5, e5_67_6, e5_67_7, e5_67_8, n5_67, q5_67_0, q5_67_1f, q5_67_1t, q5_67_2f, q5_67_2t, q5_67_3, q5_67_4f, q5_67_4t, q5_67_5f, q5_67_5t, q5_67_6, q5_67_7f, q5_67_7t, q5_67_8f, q5_67_8t, g5_67, n5_70, n5_71, n5_69, n5_72, n5_68t, n5_68f, n5_66, n5_74, n5_76, n5_79, n5_82, n5_83, n5_81, n5_84, n5_80t, n5_80f, n5_78, e5_86_0, e5_86_1, e5_86_2, e5_86_3, e5_86_4, e5_86_5, e5_86_6, e5_86_7, e5_86_8, e5_86_9, e5_86_10, e5_86_11, n5_86, q5_86_0, q5_86_1f, q5_86_1t, q5_86_2f, q5_86_2t, q5_86_3f, q5_86_3t, q5_86_4, q5_86_5f, q5_86_5t, q5_86_6f, q5_86_6t, q5_86_7, q5_86_8f, q5_86_8t, q5_86_9f, q5_86_9t, q5_86_10f, q5_86_10t, q5_86_11, g5_86, n5_87, n5_85, n5_77, n5_75, n5_73, n5_65, n5_63, n5_61, n5_59, n5_57, n5_47, n5_45, n5_30, n5_28, n5_20, n5_18, n5_10, n5_2, n5_0, lk5, fin5_0, fin5_1, seqK_0, seqK_s, jnK_t, jnK_f, blkK_f0, blkK_t0, blkK_f1, blkK_t1, blkK_fx, blkK_tx, obs, List.set_cons_succ, List.set_cons_zero, Nat.reduceAdd, opK_go, k1, v_asB, cond_true, cond_false, setAll1, v_not, Bool.not_true, v_gtr, e1, e2, e3, e4, v_lim1, a1, v_ex0, v_ex1, v_neq, q00, v_ptr, b1, c1, d1, f1, g1, h1, i1, j1, qX, v_shl32, v_add, addv, v_head2 (show A ≤ 65536 by omega), st1, st2, v_sne, wA8, v_tail2 (show A + 8 ≤ 65536 by omega), st3, st4,
          p1, u1, wS, wT, x1, v_eql, q261, y1, y2, v_seq]
  · have f1 := store_bad (K := K) (by omega) m5 (a := A) (o := 0) (k := 8) (.int .u64 X) (by omega) (by omega) (by unfold Sz; omega) (by omega) (by omega) (by omega)
    obtain ⟨H6, r1, g1, g2, g3, g4, g5⟩ := all_bytes (K := K) (by omega) m5 c3
    have s6 : H6.get r0 = some (.cells (wc W2) 5) := (g3.get r0 (by omega) (by omega)).trans d2
    have y1 := v_str (n := 65536) (o := 0) (c := 2) g2 (by omega)
    have y2 := v_str (n := 65536) (o := 0) (c := 2) s6 (by omega)
    have x1 : decide ((A : Int) > 65528) = true := by simp; omega
    refine ⟨H6, ?_⟩
    rw [call5]
    simp only [jn5, n5_1, n5_4, n5_7, n5_8, n5_6, n5_9, n5_5t, n5_5f, n5_3, e5_12_0, e5_12_1, e5_12_2, e5_12_3, e5_12_4, e5_12_5, e5_12_6, e5_12_7, e5_12_8, n5_12, q5_12_0, q5_12_1f, q5_12_1t, q5_12_2f, q5_12_2t, q5_12_3, q5_12_4f, q5_12_4t, q5_12_5f, q5_12_5t, q5_12_6, q5_12_7f, q5_12_7t, q5_12_8f, q5_12_8t, g5_12, n5_15, n5_16, n5_14, n5_17, n5_13t, n5_13f, n5_11, n5_19, n5_22, n5_25, n5_26, n5_24, n5_27, n5_23t, n5_23f, n5_21, n5_29, n5_32, n5_37, n5_39, n5_40, n5_38t, n5_38f, n5_36, n5_43, n5_42, n5_44, n5_41, n5_35, n5_34, it5_34, ix5_34, n5_33, n5_31, n5_46, n5_49, n5_52, n5_54, n5_55, n5_53, n5_51, n5_56, n5_50t, n5_50f, n5_48, n5_58, n5_60, n5_62, n5_64, e5_67_0, e5_67_1, e5_67_2, e5_67_3, e5_67_4, e5_67_5, e5_67_6, e5_67_7, e5_67_8, n5_67, q5_67_0, q5_67_1f, q5_67_1t, q5_67_2f, q5_67_2t, q5_67_3, q5_67_4f, q5_67_4t, q5_67_5f, q5_67_5t, q5_67_6, q5_67_7f, q5_67_7t, q5_67_8f, q5_67_8t, g5_67, n5_70, n5_71, n5_69, n5_72, n5_68t, n5_68f, n5_66, n5_74, n5_76, n5_79, n5_82, n5_83, n5_81, n5_84, n5_80t, n5_80f, n5_78, e5_86_0, e5_86_1, e5_86_2, e5_86_3, e5_86_4, e5_86_5, e5_86_6, e5_86_7, e5_86_8, e5_86_9, e5_86_10, e5_86_11, n5_86, q5_86_0, q5_86_1f, q5_86_1t, q5_86_2f, q5_86_2t, q5_86_3f, q5_86_3t, q5_86_4, q5_86_5f, q5_86_5t, q5_86_6f, q5_86_6t, q5_86_7, q5_86_8f, q5_86_8t, q5_86_9f, q5_86_9t, q5_86_10f, q5_86_10t, q5_86_11, g5_86, n5_87, n5_85, n5_77, n5_75, n5_73, n5_65, n5_63, n5_61, n5_59, n5_57, n5_47, n5_45, n5_30, n5_28, n5_20, n5_18, n5_10, n5_2, n5_0, lk5, fin5_0, fin5_1, seqK_0, seqK_s, jnK_t, jnK_f, blkK_f0, blkK_t0, blkK_f1, blkK_t1, blkK_fx, blkK_tx, obs, List.set_cons_succ, List.set_cons_zero, Nat.reduceAdd, opK_go, k1, v_asB, cond_true, cond_false, setAll1, v_not, Bool.not_true, v_gtr, e1, e2, e3, e4, v_lim1, a1, v_ex0, v_ex1, v_neq, q00, v_ptr, b1, c1, d1, f1, q260, g1, x1, y1, y2, v_seq]
end Go.Cn
