/- A law's early end, and what its chapter's rows come to. -/
import Derived.Test.YtolbpklaniifhaaSw
import Derived.Test.YtolbpklaniifhaaCnQ
namespace Go.Cn
set_option linter.unusedVariables false
set_option linter.unusedSimpArgs false
set_option maxRecDepth 4000
theorem main_short {K : Nat} (hK : 2 ≤ K) {H Hk : CH} (hk : (orc Go.Proofs.Try.prog KT K).call 7 [] H = some (.bool true, Hk)) {A : Option Addr} {len cc : Nat} (h : len < 1 ∨ 200 < len) (t1 t2 t3 t4 t5 : Value) :
    (orc Go.Proofs.Try.prog KT (K + 1)).call 3 [.slice A len cc, t1, t2, t3, t4, t5] H = some (.bool true, Hk) := by
  rw [call3]
  by_cases h0 : len < 1
  · have e1 : decide ((len : Int) < 1) = true := by simp; omega
    simp only [jn3, n3_1, n3_4, n3_7, n3_8, n3_6, n3_9, n3_5t, n3_5f, n3_3, n3_12, n3_15, n3_16, n3_14, n3_17, n3_13t, n3_13f, n3_11, n3_19, n3_21, n3_24, n3_27, n3_28, n3_26, n3_29, n3_25t, n3_25f, n3_23, n3_31, n3_33, n3_35, n3_37, n3_39, n3_41, n3_44, n3_47, n3_48, n3_46, n3_49, n3_45t, n3_45f, n3_43, n3_52, n3_57, n3_59, n3_60, n3_58t, n3_58f, n3_56, n3_64, n3_66, n3_69, n3_71, n3_72, n3_70t, n3_70f, n3_68, n3_74, n3_77, n3_78, n3_76, n3_79, n3_75t, n3_75f, n3_73, n3_67, n3_65, n3_63, n3_62, n3_80, n3_61, n3_55, n3_54, it3_54, ix3_54, n3_53, n3_51, n3_82, n3_85, n3_88, n3_89, n3_87, n3_90, n3_86t, n3_86f, n3_84, n3_92, n3_94, n3_97, n3_102, n3_104, n3_105, n3_103t, n3_103f, n3_101, n3_108, n3_107, n3_109, n3_106, n3_100, n3_99, it3_99, ix3_99, n3_98, n3_96, n3_112, n3_117, n3_119, n3_120, n3_118t, n3_118f, n3_116, n3_124, n3_126, n3_128, n3_131, n3_132, n3_130, n3_133, n3_129t, n3_129f, n3_127, n3_125, n3_123, n3_122, n3_134, n3_121, n3_115, n3_114, it3_114, ix3_114, n3_113, n3_111, n3_136, n3_137, n3_135, n3_110, n3_95, n3_93, n3_91, n3_83, n3_81, n3_50, n3_42, n3_40, n3_38, n3_36, n3_34, n3_32, n3_30, n3_22, n3_20, n3_18, n3_10, n3_2, n3_0, lk3, fin3_0, fin3_1, seqK_0, seqK_s, jnK_t, jnK_f, blkK_f0, blkK_t0, blkK_f1, blkK_t1, blkK_fx, blkK_tx, obs, List.set_cons_succ, List.set_cons_zero, Nat.reduceAdd, hk, v_not, Bool.not_true, v_len, v_lss, e1, v_asB, cond_true, cond_false, setAll1]
  · have e1 : decide ((len : Int) < 1) = false := by simp; omega
    have e2 : decide ((len : Int) > 200) = true := by simp; omega
    simp only [jn3, n3_1, n3_4, n3_7, n3_8, n3_6, n3_9, n3_5t, n3_5f, n3_3, n3_12, n3_15, n3_16, n3_14, n3_17, n3_13t, n3_13f, n3_11, n3_19, n3_21, n3_24, n3_27, n3_28, n3_26, n3_29, n3_25t, n3_25f, n3_23, n3_31, n3_33, n3_35, n3_37, n3_39, n3_41, n3_44, n3_47, n3_48, n3_46, n3_49, n3_45t, n3_45f, n3_43, n3_52, n3_57, n3_59, n3_60, n3_58t, n3_58f, n3_56, n3_64, n3_66, n3_69, n3_71, n3_72, n3_70t, n3_70f, n3_68, n3_74, n3_77, n3_78, n3_76, n3_79, n3_75t, n3_75f, n3_73, n3_67, n3_65, n3_63, n3_62, n3_80, n3_61, n3_55, n3_54, it3_54, ix3_54, n3_53, n3_51, n3_82, n3_85, n3_88, n3_89, n3_87, n3_90, n3_86t, n3_86f, n3_84, n3_92, n3_94, n3_97, n3_102, n3_104, n3_105, n3_103t, n3_103f, n3_101, n3_108, n3_107, n3_109, n3_106, n3_100, n3_99, it3_99, ix3_99, n3_98, n3_96, n3_112, n3_117, n3_119, n3_120, n3_118t, n3_118f, n3_116, n3_124, n3_126, n3_128, n3_131, n3_132, n3_130, n3_133, n3_129t, n3_129f, n3_127, n3_125, n3_123, n3_122, n3_134, n3_121, n3_115, n3_114, it3_114, ix3_114, n3_113, n3_111, n3_136, n3_137, n3_135, n3_110, n3_95, n3_93, n3_91, n3_83, n3_81, n3_50, n3_42, n3_40, n3_38, n3_36, n3_34, n3_32, n3_30, n3_22, n3_20, n3_18, n3_10, n3_2, n3_0, lk3, fin3_0, fin3_1, seqK_0, seqK_s, jnK_t, jnK_f, blkK_f0, blkK_t0, blkK_f1, blkK_t1, blkK_fx, blkK_tx, obs, List.set_cons_succ, List.set_cons_zero, Nat.reduceAdd, hk, v_not, Bool.not_true, v_len, v_lss, v_gtr, e1, e2, v_asB, cond_true, cond_false, setAll1]
theorem known0 (k : Nat) : ((orc Go.Proofs.Try.prog KT (k + 60)).call 7 [] H0).map (·.1) = some (.bool true) := by kernel_rfl
theorem known1 (k : Nat) (cs : List Value) : ((orc Go.Proofs.Try.prog KT (k + 60)).call 7 [] (H1 cs 23)).map (fun r => (r.1, r.2.get 0, r.2.lim, Nat.ble 1 r.2.n)) = some (.bool true, some (.cells cs 23), 1, true) := by kernel_rfl
theorem known_at0 {K : Nat} (hK : 60 ≤ K) : ∃ Hk, (orc Go.Proofs.Try.prog KT K).call 7 [] H0 = some (.bool true, Hk) := by
  obtain ⟨k, rfl⟩ : ∃ k, K = k + 60 := ⟨K - 60, by omega⟩
  have := known0 k
  rw [Option.map_eq_some_iff] at this
  obtain ⟨⟨v, H'⟩, h, e⟩ := this
  simp only at e; subst e
  exact ⟨H', h⟩
theorem known_at1 {K : Nat} (hK : 60 ≤ K) (cs : List Value) : ∃ Hk, (orc Go.Proofs.Try.prog KT K).call 7 [] (H1 cs 23) = some (.bool true, Hk) ∧ Fx (H1 cs 23).n (H1 cs 23) Hk := by
  obtain ⟨k, rfl⟩ : ∃ k, K = k + 60 := ⟨K - 60, by omega⟩
  have := known1 k cs
  rw [Option.map_eq_some_iff] at this
  obtain ⟨⟨v, H'⟩, h, e⟩ := this
  simp only [Prod.mk.injEq] at e
  obtain ⟨rfl, e2, e3, e4⟩ := e
  refine ⟨H', h, ⟨Nat.le_of_ble_eq_true e4, e3, fun b hb _ => ?_⟩⟩
  have : b = 0 := by have : b < 1 := hb; omega
  subst this
  exact e2
end Go.Cn
