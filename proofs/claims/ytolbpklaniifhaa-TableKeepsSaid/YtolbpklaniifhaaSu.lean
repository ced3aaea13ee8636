/- The law's own loops. -/
import Derived.Test.YtolbpklaniifhaaSr
import Derived.Test.YtolbpklaniifhaaFcb
namespace Go.Cn
set_option linter.unusedVariables false
set_option linter.unusedSimpArgs false
set_option maxRecDepth 4000
theorem v_beq (a b : Bool) : cBin Go.Proofs.Try.prog .eql 4 (.bool a) (.bool b) = some (.bool (a == b)) := by cases a <;> cases b <;> kernel_rfl
theorem v_bne (a b : Bool) : cBin Go.Proofs.Try.prog .neq 4 (.bool a) (.bool b) = some (.bool (!(a == b))) := by cases a <;> cases b <;> kernel_rfl
theorem n_word {H : CH} {r : Nat} {W : List Int} (hr : H.get r = some (.cells (wc W) 23)) {i : Int} (h0 : 0 ≤ i) (hi : i < W.length) : ld1 (.pointer (some ⟨r, 0 + i.toNat * 1, none⟩)) H = some (.int .u64 (W.getD i.toNat 0)) := by
  rw [h_ld hr (by simp; omega)]
  simp [wc, List.getD_eq_getElem?_getD, show i.toNat < W.length by omega]
/-- What the copy must have made. -/
def Want (f : Int) (src at_ n : Int) (W D : List Int) : Prop := ∀ k : Nat, k < W.length → D.getD k 0 = if f = 0 ∧ at_ ≤ k ∧ (k : Int) < at_ + n then W.getD (src + k - at_).toNat 0 else W.getD k 0
theorem main_loop1 {T lT cT r rc : Nat} {mm f src at_ n : Int} {D W : List Int} (t0 t1 t2 t12 t15 t17 t23 t24 t25 t26 t28 : Value) (ds : List Deferred) {H : CH} (hT : Tab H T mm lT cT D) (hD : D.length = W.length) (hr : H.get r = some (.cells (wc W) 23))
    (hs : 0 ≤ src) (ha : 0 ≤ at_) (hn : 0 ≤ n) (hs2 : src < 2 ^ 62) (ha2 : at_ < 2 ^ 62) (hn2 : n < 2 ^ 62) (hf : f = 0 → src + n ≤ W.length ∧ at_ + n ≤ W.length) (hw : Want f src at_ n W D) :
    ∀ (d K j : Nat) (t20 t21 t22 : Value), W.length - j ≤ d → d + 5 < K → j ≤ W.length →
    ∃ t20' t21' t22', (orc Go.Proofs.Try.prog KT K).loop 3 none C3_55 [t0, t1, t2, .int .u64 src, .int .u64 at_, .int .u64 n, t12, .int .u64 W.length, .pointer (some ⟨T, 0, none⟩), t15, .slice (some ⟨r, 0, none⟩) W.length rc, t17, .int .i64 f, .int .u64 j, t20, t21, t22, t23, t24, t25, t26, t28] ds H =
      some (2, [t0, t1, t2, .int .u64 src, .int .u64 at_, .int .u64 n, t12, .int .u64 W.length, .pointer (some ⟨T, 0, none⟩), t15, .slice (some ⟨r, 0, none⟩) W.length rc, t17, .int .i64 f, .int .u64 W.length, t20', t21', t22', t23, t24, t25, t26, t28], ds, H)
  | d, K, j, t20, t21, t22, hd, hK, hj => by
    obtain ⟨K, rfl⟩ : ∃ j, K = j + 1 := ⟨K - 1, by omega⟩
    have hsh := hT.short
    by_cases hm : j = W.length
    · subst hm
      have e : decide ((W.length : Int) < (W.length : Int)) = false := by simp
      refine ⟨t20, t21, t22, ?_⟩
      rw [lp3_54]
      simp only [jn3, n3_1, n3_4, n3_7, n3_8, n3_6, n3_9, n3_5t, n3_5f, n3_3, n3_12, n3_15, n3_16, n3_14, n3_17, n3_13t, n3_13f, n3_11, n3_19, n3_21, n3_24, n3_27, n3_28, n3_26, n3_29, n3_25t, n3_25f, n3_23, n3_31, n3_33, n3_35, n3_37, n3_39, n3_41, n3_44, n3_47, n3_48, n3_46, n3_49, n3_45t, n3_45f, n3_43, n3_52, n3_57, n3_59, n3_60, n3_58t, n3_58f, n3_56, n3_64, n3_66, n3_69, n3_71, n3_72, n3_70t, n3_70f, n3_68, n3_74, n3_77, n3_78, n3_76, n3_79, n3_75t, n3_75f, n3_73, n3_67, n3_65, n3_63, n3_62, n3_80, n3_61, n3_55, n3_54, it3_54, ix3_54, n3_53, n3_51, n3_82, n3_85, n3_88, n3_89, n3_87, n3_90, n3_86t, n3_86f, n3_84, n3_92, n3_94, n3_97, n3_102, n3_104, n3_105, n3_103t, n3_103f, n3_101, n3_108, n3_107, n3_109, n3_106, n3_100, n3_99, it3_99, ix3_99, n3_98, n3_96, n3_112, n3_117, n3_119, n3_120, n3_118t, n3_118f, n3_116, n3_124, n3_126, n3_128, n3_131, n3_132, n3_130, n3_133, n3_129t, n3_129f, n3_127, n3_125, n3_123, n3_122, n3_134, n3_121, n3_115, n3_114, it3_114, ix3_114, n3_113, n3_111, n3_136, n3_137, n3_135, n3_110, n3_95, n3_93, n3_91, n3_83, n3_81, n3_50, n3_42, n3_40, n3_38, n3_36, n3_34, n3_32, n3_30, n3_22, n3_20, n3_18, n3_10, n3_2, n3_0, lk3, fin3_0, fin3_1, seqK_0, seqK_s, jnK_t, jnK_f, blkK_f0, blkK_t0, blkK_f1, blkK_t1, blkK_fx, blkK_tx, obs, List.set_cons_succ, List.set_cons_zero, Nat.reduceAdd, v_lss, e]
    · obtain ⟨d, rfl⟩ : ∃ j, d = j + 1 := ⟨d - 1, by omega⟩
      have e : decide ((j : Int) < (W.length : Int)) = true := by simp; omega
      have g := get_spec (K := K) (by omega) hT (i := (j : Int)) (by omega) (by omega)
      rw [Int.toNat_natCast] at g
      have hwj := hw j (by omega)
      have wj : IntKind.u64.wrap ((j : Int) + 1) = ((j + 1 : Nat) : Int) := by rw [u_id (by omega) (by omega)]; omega
      have rd := n_word hr (i := (j : Int)) (by omega) (by omega)
      rw [Int.toNat_natCast] at rd
      have w1 : IntKind.u64.wrap (at_ + n) = at_ + n := u_id (by omega) (by omega)
      have w2 : IntKind.u64.wrap (src + (j : Int)) = src + j := u_id (by omega) (by omega)
      have ix := v_idx 1 r 0 W.length rc .u64 (j : Int) (by omega) (by omega)
      rw [Int.toNat_natCast] at ix
      have e00 : ((0 : Int) != 0) = false := rfl
      by_cases h1 : f = 0
      · by_cases h2 : at_ ≤ j
        · by_cases h3 : (j : Int) < at_ + n
          · rw [if_pos ⟨h1, h2, h3⟩] at hwj
            have hb := hf h1
            have w3 : IntKind.u64.wrap (src + (j : Int) - at_) = src + j - at_ := u_id (by omega) (by omega)
            have ix2 := v_idx 1 r 0 W.length rc .u64 (src + j - at_) (by omega) (by omega)
            have rd2 := n_word hr (i := src + j - at_) (by omega) (by omega)
            have f1 : (f == 0) = true := by simp [h1]
            have f2 : decide ((j : Int) ≥ at_) = true := by simp [h2]
            have f3 : decide ((j : Int) < at_ + n) = true := by simp [h3]
            have q : (D.getD j 0 != W.getD (src + j - at_).toNat 0) = false := by rw [hwj]; simp
            obtain ⟨x, y, z, IH⟩ := main_loop1 (rc := rc) t0 t1 t2 t12 t15 t17 t23 t24 t25 t26 t28 ds hT hD hr hs ha hn hs2 ha2 hn2 hf hw d K (j + 1) (.int .u64 (D.getD j 0)) (.int .i64 0) (.int .u64 (W.getD (src + j - at_).toNat 0)) (by omega) (by omega) (by omega)
            refine ⟨x, y, z, ?_⟩
            rw [lp3_54]
            simp only [jn3, n3_1, n3_4, n3_7, n3_8, n3_6, n3_9, n3_5t, n3_5f, n3_3, n3_12, n3_15, n3_16, n3_14, n3_17, n3_13t, n3_13f, n3_11, n3_19, n3_21, n3_24, n3_27, n3_28, n3_26, n3_29, n3_25t, n3_25f, n3_23, n3_31, n3_33, n3_35, n3_37, n3_39, n3_41, n3_44, n3_47, n3_48, n3_46, n3_49, n3_45t, n3_45f, n3_43, n3_52, n3_57, n3_59, n3_60, n3_58t, n3_58f, n3_56, n3_64, n3_66, n3_69, n3_71, n3_72, n3_70t, n3_70f, n3_68, n3_74, n3_77, n3_78, n3_76, n3_79, n3_75t, n3_75f, n3_73, n3_67, n3_65, n3_63, n3_62, n3_80, n3_61, n3_55, n3_54, it3_54, ix3_54, n3_53, n3_51, n3_82, n3_85, n3_88, n3_89, n3_87, n3_90, n3_86t, n3_86f, n3_84, n3_92, n3_94, n3_97, n3_102, n3_104, n3_105, n3_103t, n3_103f, n3_101, n3_108, n3_107, n3_109, n3_106, n3_100, n3_99, it3_99, ix3_99, n3_98, n3_96, n3_112, n3_117, n3_119, n3_120, n3_118t, n3_118f, n3_116, n3_124, n3_126, n3_128, n3_131, n3_132, n3_130, n3_133, n3_129t, n3_129f, n3_127, n3_125, n3_123, n3_122, n3_134, n3_121, n3_115, n3_114, it3_114, ix3_114, n3_113, n3_111, n3_136, n3_137, n3_135, n3_110, n3_95, n3_93, n3_91, n3_83, n3_81, n3_50, n3_42, n3_40, n3_38, n3_36, n3_34, n3_32, n3_30, n3_22, n3_20, n3_18, n3_10, n3_2, n3_0, lk3, fin3_0, fin3_1, seqK_0, seqK_s, jnK_t, jnK_f, blkK_f0, blkK_t0, blkK_f1, blkK_t1, blkK_fx, blkK_tx, obs, List.set_cons_succ, List.set_cons_zero, Nat.reduceAdd, v_lss, e, g, v_ex0, v_ex1, ix, rd, v_eql, f1, v_asB, cond_true, cond_false, v_geq, f2, v_add, w1, f3, setAll1, w2, v_sub, w3, ix2, rd2, v_neq, e00, q, wj, IH]
          · rw [if_neg (by omega)] at hwj
            have f1 : (f == 0) = true := by simp [h1]
            have f2 : decide ((j : Int) ≥ at_) = true := by simp [h2]
            have f3 : decide ((j : Int) < at_ + n) = false := by simp; omega
            have q : (D.getD j 0 != W.getD j 0) = false := by rw [hwj]; simp
            obtain ⟨x, y, z, IH⟩ := main_loop1 (rc := rc) t0 t1 t2 t12 t15 t17 t23 t24 t25 t26 t28 ds hT hD hr hs ha hn hs2 ha2 hn2 hf hw d K (j + 1) (.int .u64 (D.getD j 0)) (.int .i64 0) (.int .u64 (W.getD j 0)) (by omega) (by omega) (by omega)
            refine ⟨x, y, z, ?_⟩
            rw [lp3_54]
            simp only [jn3, n3_1, n3_4, n3_7, n3_8, n3_6, n3_9, n3_5t, n3_5f, n3_3, n3_12, n3_15, n3_16, n3_14, n3_17, n3_13t, n3_13f, n3_11, n3_19, n3_21, n3_24, n3_27, n3_28, n3_26, n3_29, n3_25t, n3_25f, n3_23, n3_31, n3_33, n3_35, n3_37, n3_39, n3_41, n3_44, n3_47, n3_48, n3_46, n3_49, n3_45t, n3_45f, n3_43, n3_52, n3_57, n3_59, n3_60, n3_58t, n3_58f, n3_56, n3_64, n3_66, n3_69, n3_71, n3_72, n3_70t, n3_70f, n3_68, n3_74, n3_77, n3_78, n3_76, n3_79, n3_75t, n3_75f, n3_73, n3_67, n3_65, n3_63, n3_62, n3_80, n3_61, n3_55, n3_54, it3_54, ix3_54, n3_53, n3_51, n3_82, n3_85, n3_88, n3_89, n3_87, n3_90, n3_86t, n3_86f, n3_84, n3_92, n3_94, n3_97, n3_102, n3_104, n3_105, n3_103t, n3_103f, n3_101, n3_108, n3_107, n3_109, n3_106, n3_100, n3_99, it3_99, ix3_99, n3_98, n3_96, n3_112, n3_117, n3_119, n3_120, n3_118t, n3_118f, n3_116, n3_124, n3_126, n3_128, n3_131, n3_132, n3_130, n3_133, n3_129t, n3_129f, n3_127, n3_125, n3_123, n3_122, n3_134, n3_121, n3_115, n3_114, it3_114, ix3_114, n3_113, n3_111, n3_136, n3_137, n3_135, n3_110, n3_95, n3_93, n3_91, n3_83, n3_81, n3_50, n3_42, n3_40, n3_38, n3_36, n3_34, n3_32, n3_30, n3_22, n3_20, n3_18, n3_10, n3_2, n3_0, lk3, fin3_0, fin3_1, seqK_0, seqK_s, jnK_t, jnK_f, blkK_f0, blkK_t0, blkK_f1, blkK_t1, blkK_fx, blkK_tx, obs, List.set_cons_succ, List.set_cons_zero, Nat.reduceAdd, v_lss, e, g, v_ex0, v_ex1, ix, rd, v_eql, f1, v_asB, cond_true, cond_false, v_geq, f2, v_add, w1, f3, setAll1, v_neq, e00, q, wj, IH]
        · rw [if_neg (by omega)] at hwj
          have f1 : (f == 0) = true := by simp [h1]
          have f2 : decide ((j : Int) ≥ at_) = false := by simp; omega
          have q : (D.getD j 0 != W.getD j 0) = false := by rw [hwj]; simp
          obtain ⟨x, y, z, IH⟩ := main_loop1 (rc := rc) t0 t1 t2 t12 t15 t17 t23 t24 t25 t26 t28 ds hT hD hr hs ha hn hs2 ha2 hn2 hf hw d K (j + 1) (.int .u64 (D.getD j 0)) (.int .i64 0) (.int .u64 (W.getD j 0)) (by omega) (by omega) (by omega)
          refine ⟨x, y, z, ?_⟩
          rw [lp3_54]
          simp only [jn3, n3_1, n3_4, n3_7, n3_8, n3_6, n3_9, n3_5t, n3_5f, n3_3, n3_12, n3_15, n3_16, n3_14, n3_17, n3_13t, n3_13f, n3_11, n3_19, n3_21, n3_24, n3_27, n3_28, n3_26, n3_29, n3_25t, n3_25f, n3_23, n3_31, n3_33, n3_35, n3_37, n3_39, n3_41, n3_44, n3_47, n3_48, n3_46, n3_49, n3_45t, n3_45f, n3_43, n3_52, n3_57, n3_59, n3_60, n3_58t, n3_58f, n3_56, n3_64, n3_66, n3_69, n3_71, n3_72, n3_70t, n3_70f, n3_68, n3_74, n3_77, n3_78, n3_76, n3_79, n3_75t, n3_75f, n3_73, n3_67, n3_65, n3_63, n3_62, n3_80, n3_61, n3_55, n3_54, it3_54, ix3_54, n3_53, n3_51, n3_82, n3_85, n3_88, n3_89, n3_87, n3_90, n3_86t, n3_86f, n3_84, n3_92, n3_94, n3_97, n3_102, n3_104, n3_105, n3_103t, n3_103f, n3_101, n3_108, n3_107, n3_109, n3_106, n3_100, n3_99, it3_99, ix3_99, n3_98, n3_96, n3_112, n3_117, n3_119, n3_120, n3_118t, n3_118f, n3_116, n3_124, n3_126, n3_128, n3_131, n3_132, n3_130, n3_133, n3_129t, n3_129f, n3_127, n3_125, n3_123, n3_122, n3_134, n3_121, n3_115, n3_114, it3_114, ix3_114, n3_113, n3_111, n3_136, n3_137, n3_135, n3_110, n3_95, n3_93, n3_91, n3_83, n3_81, n3_50, n3_42, n3_40, n3_38, n3_36, n3_34, n3_32, n3_30, n3_22, n3_20, n3_18, n3_10, n3_2, n3_0, lk3, fin3_0, fin3_1, seqK_0, seqK_s, jnK_t, jnK_f, blkK_f0, blkK_t0, blkK_f1, blkK_t1, blkK_fx, blkK_tx, obs, List.set_cons_succ, List.set_cons_zero, Nat.reduceAdd, v_lss, e, g, v_ex0, v_ex1, ix, rd, v_eql, f1, v_asB, cond_true, cond_false, v_geq, f2, v_add, w1, setAll1, v_neq, e00, q, wj, IH]
      · rw [if_neg (by omega)] at hwj
        have f1 : (f == 0) = false := by simp [h1]
        have q : (D.getD j 0 != W.getD j 0) = false := by rw [hwj]; simp
        obtain ⟨x, y, z, IH⟩ := main_loop1 (rc := rc) t0 t1 t2 t12 t15 t17 t23 t24 t25 t26 t28 ds hT hD hr hs ha hn hs2 ha2 hn2 hf hw d K (j + 1) (.int .u64 (D.getD j 0)) (.int .i64 0) (.int .u64 (W.getD j 0)) (by omega) (by omega) (by omega)
        refine ⟨x, y, z, ?_⟩
        rw [lp3_54]
        simp only [jn3, n3_1, n3_4, n3_7, n3_8, n3_6, n3_9, n3_5t, n3_5f, n3_3, n3_12, n3_15, n3_16, n3_14, n3_17, n3_13t, n3_13f, n3_11, n3_19, n3_21, n3_24, n3_27, n3_28, n3_26, n3_29, n3_25t, n3_25f, n3_23, n3_31, n3_33, n3_35, n3_37, n3_39, n3_41, n3_44, n3_47, n3_48, n3_46, n3_49, n3_45t, n3_45f, n3_43, n3_52, n3_57, n3_59, n3_60, n3_58t, n3_58f, n3_56, n3_64, n3_66, n3_69, n3_71, n3_72, n3_70t, n3_70f, n3_68, n3_74, n3_77, n3_78, n3_76, n3_79, n3_75t, n3_75f, n3_73, n3_67, n3_65, n3_63, n3_62, n3_80, n3_61, n3_55, n3_54, it3_54, ix3_54, n3_53, n3_51, n3_82, n3_85, n3_88, n3_89, n3_87, n3_90, n3_86t, n3_86f, n3_84, n3_92, n3_94, n3_97, n3_102, n3_104, n3_105, n3_103t, n3_103f, n3_101, n3_108, n3_107, n3_109, n3_106, n3_100, n3_99, it3_99, ix3_99, n3_98, n3_96, n3_112, n3_117, n3_119, n3_120, n3_118t, n3_118f, n3_116, n3_124, n3_126, n3_128, n3_131, n3_132, n3_130, n3_133, n3_129t, n3_129f, n3_127, n3_125, n3_123, n3_122, n3_134, n3_121, n3_115, n3_114, it3_114, ix3_114, n3_113, n3_111, n3_136, n3_137, n3_135, n3_110, n3_95, n3_93, n3_91, n3_83, n3_81, n3_50, n3_42, n3_40, n3_38, n3_36, n3_34, n3_32, n3_30, n3_22, n3_20, n3_18, n3_10, n3_2, n3_0, lk3, fin3_0, fin3_1, seqK_0, seqK_s, jnK_t, jnK_f, blkK_f0, blkK_t0, blkK_f1, blkK_t1, blkK_fx, blkK_tx, obs, List.set_cons_succ, List.set_cons_zero, Nat.reduceAdd, v_lss, e, g, v_ex0, v_ex1, ix, rd, v_eql, f1, v_asB, cond_true, cond_false, v_add, w1, setAll1, v_neq, e00, q, wj, IH]
end Go.Cn
