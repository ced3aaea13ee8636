/- The law, as the canonical run makes it. -/
import Derived.Test.YtolbpklaniifhaaSv
namespace Go.Cn
set_option linter.unusedVariables false
set_option linter.unusedSimpArgs false
set_option maxRecDepth 4000
theorem v_lim (m : Int) : cBuild Go.Proofs.Try.prog 30 [(1, .int .u64 m)] = some (.agg ⟨[.bool false, .int .u64 m, .int .u64 0, .bool false]⟩) := by kernel_rfl
theorem v_tt (m : Int) : cBuild Go.Proofs.Try.prog 38 [(1, .agg ⟨[.bool false, .int .u64 m, .int .u64 0, .bool false]⟩)] = some (.agg ⟨tx m⟩) := by kernel_rfl
theorem app_lit {H : CH} {q s c : Nat} {w : List Int} (hq : H.get q = some (.cells [] 23)) (hs : H.get s = some (.cells (wc w) 23)) (h1 : 1 ≤ w.length) (h2 : w.length ≤ 200) :
    appendN 23 1 8 (.slice (some ⟨q, 0, none⟩) 0 1) (.slice (some ⟨s, 0, none⟩) w.length c) H = some (.slice (some ⟨H.n, 0, none⟩) w.length 2, H.new (.cells (wc w) 23)) := by
  have e1 : H.loadN ⟨s, 0, none⟩ (w.length * 1) = some (wc w) := by
    simp only [CH.loadN, hs]
    rw [if_pos ⟨trivial, by simp⟩]
    simp only [Nat.mul_one, List.drop_zero]
    rw [List.take_of_length_le (by simp)]
  have e2 : H.loadN ⟨q, 0, none⟩ (0 * 1) = some [] := by
    simp only [CH.loadN, hq]
    rw [if_pos ⟨trivial, by simp⟩]; rfl
  simp only [appendN, srcCells, e1, e2, Option.map_some, obs]
  rw [if_neg (by simp [wc_cell]), if_pos trivial, if_neg (show ¬ 0 + w.length ≤ 1 / 2 by omega), if_pos ⟨by omega, by omega⟩]
  simp
theorem tmod_mk {a b : Int} (ha : 0 ≤ a) (hb : 0 < b) : 0 ≤ a.tmod b ∧ a.tmod b < b := ⟨Int.tmod_nonneg _ ha, Int.tmod_lt_of_pos _ hb⟩
set_option maxHeartbeats 2000000 in
theorem main_spec {K : Nat} (hK : 300000 ≤ K) {H Hk : CH} (hk : (orc Go.Proofs.Try.prog KT K).call 7 [] H = some (.bool true, Hk)) (fk : Fx H.n H Hk) (hlim : H.lim ≤ H.n) {s cc : Nat} {w : List Int} (hs : H.get s = some (.cells (wc w) 23)) (hsn : s < H.n)
    (h1 : 1 ≤ w.length) (h2 : w.length ≤ 200) (hc : Cap cc w.length) {i v src at_ n : Int} (hi : 0 ≤ i) (hr : 0 ≤ src) (ha : 0 ≤ at_) (hn : 0 ≤ n) :
    ∃ H', (orc Go.Proofs.Try.prog KT (K + 1)).call 3 [.slice (some ⟨s, 0, none⟩) w.length cc, .int .u64 i, .int .u64 v, .int .u64 src, .int .u64 at_, .int .u64 n] H = some (.bool true, H') := by
  have sk : Hk.get s = some (.cells (wc w) 23) := (fk.get s hsn (by omega)).trans hs
  have nk := fk.n
  obtain ⟨H2, T, l, a1, a2, a3, a4, a5⟩ := new_spec (K := K) (by omega) (H := Hk) (by rw [fk.lim]; omega) (n := w.length) (by omega) 0
  have s2 : H2.get s = some (.cells (wc w) 23) := (a3.get s (by omega) (by omega)).trans sk
  obtain ⟨H3, b1, b2, b3, b4⟩ := init_ok (K := K) (by omega) a2 s2 rfl hc (by omega) (at_ := 0) (src := 0) (k := w.length) (by omega) (by omega) (by omega) (by simp) (by omega)
  have g : spl (List.replicate w.length 0) (0 : Int).toNat ((w.drop (0 : Int).toNat).take (w.length : Int).toNat) = w := by simp [spl]
  rw [g] at b2
  have n2 := a3.n
  have s3 : H3.get s = some (.cells (wc w) 23) := (b3.get s (by omega) (by omega)).trans s2
  have un : IntKind.u64.wrap (w.length : Int) = w.length := u_id (by omega) (by omega)
  have un1 : IntKind.u64.wrap ((w.length : Int) + 1) = w.length + 1 := u_id (by omega) (by omega)
  obtain ⟨I, eI⟩ : ∃ X, X = i.tmod w.length := ⟨_, rfl⟩
  obtain ⟨A, eA⟩ : ∃ X, X = at_.tmod w.length := ⟨_, rfl⟩
  obtain ⟨S, eS⟩ : ∃ X, X = src.tmod w.length := ⟨_, rfl⟩
  obtain ⟨N, eN⟩ : ∃ X, X = n.tmod ((w.length : Int) + 1) := ⟨_, rfl⟩
  obtain ⟨I0, I1⟩ := tmod_mk (b := w.length) hi (by omega)
  obtain ⟨A0, A1⟩ := tmod_mk (b := w.length) ha (by omega)
  obtain ⟨S0, S1⟩ := tmod_mk (b := w.length) hr (by omega)
  obtain ⟨N0, N1⟩ := tmod_mk (b := (w.length : Int) + 1) hn (by omega)
  rw [← eI] at I0 I1
  rw [← eA] at A0 A1
  rw [← eS] at S0 S1
  rw [← eN] at N0 N1
  obtain ⟨H4, c1, c2, c3, c4⟩ := set_spec (K := K) (by omega) b2 (i := I) (v := v) I0 I1
  have s4 : H4.get s = some (.cells (wc w) 23) := (c3.get s (by omega) (by omega)).trans s3
  obtain ⟨H5, e5⟩ : ∃ X, X = H4.new (.cells [] 23) := ⟨_, rfl⟩
  obtain ⟨H6, e6⟩ : ∃ X, X = H5.new (.cells (wc w) 23) := ⟨_, rfl⟩
  have n5 : H5.n = H4.n + 1 := by rw [e5]; rfl
  have n6 : H6.n = H4.n + 2 := by rw [e6]; show H5.n + 1 = _; omega
  have q5 : H5.get H4.n = some (.cells [] 23) := by rw [e5]; exact CH.get_new _ _
  have s5 : H5.get s = some (.cells (wc w) 23) := by rw [e5, CH.get_new_ne _ _ _ (by omega)]; exact s4
  have r6 : H6.get H5.n = some (.cells (wc w) 23) := by rw [e6]; exact CH.get_new _ _
  have ap := app_lit (c := cc) q5 s5 h1 h2
  rw [← e6] at ap
  have l5 : H5.lim = H4.lim := by rw [e5]; rfl
  have l6 : H6.lim = H4.lim := by rw [e6]; exact l5
  have lim4 : H4.lim ≤ H4.n := by have := c2.own; have := c2.ln; omega
  obtain ⟨W, eW⟩ : ∃ X, X = spl w I.toNat [v] := ⟨_, rfl⟩
  have hW : W.length = w.length := by rw [eW]; exact spl_len (by simp; omega)
  obtain ⟨H7, e7⟩ : ∃ X, X = H6.put H5.n (some (.cells (wc W) 23)) := ⟨_, rfl⟩
  have st : stN 1 (.pointer (some ⟨H5.n, 0 + I.toNat * 1, none⟩)) (.int .u64 v) H6 = some H7 := by
    rw [h_st r6 (by simp; omega) (by omega), e7, eW]
    have := wc_splice w I.toNat [v]
    simp only [wc, List.map_cons, List.map_nil] at this ⊢
    rw [show 0 + I.toNat * 1 = I.toNat by omega, this]
  rw [← eW] at c2
  have r7 : H7.get H5.n = some (.cells (wc W) 23) := by rw [e7]; exact CH.get_put _ _ _
  have n7 : H7.n = H4.n + 2 := by rw [e7]; exact n6
  have f7 : Fx H4.n H4 H7 := ⟨by omega, by rw [e7]; exact l6, fun b hb _ => by rw [e7, CH.get_put_ne _ _ _ _ (by omega), e6, CH.get_new_ne _ _ _ (by omega), e5, CH.get_new_ne _ _ _ (by omega)]⟩
  have T7 := c2.fx f7 (by have := c2.bn; omega) (by have := c2.ln; omega)
  obtain ⟨H8, C, lC, d1, d2, d3, d4, d5⟩ := clone_spec (K := K) (by omega) (by rw [f7.lim]; omega) T7 (by intro h; rw [h] at hW; simp at hW; omega)
  have T8 := T7.fx d3 (by have := T7.bn; omega) (by have := T7.ln; omega)
  have r8 : H8.get H5.n = some (.cells (wc W) 23) := (d3.get _ (by omega) (by omega)).trans r7
  have ix := v_idx 1 H5.n 0 w.length 2 .u64 I I0 I1
  have wA : IntKind.u64.wrap (A + N) = A + N := u_id (by omega) (by omega)
  have wS : IntKind.u64.wrap (S + N) = S + N := u_id (by omega) (by omega)
  have ez : decide ((w.length : Int) < 1) = false := by simp; omega
  have ey : decide ((w.length : Int) > 200) = false := by simp; omega
  have e00 : ((0 : Int) != 0) = false := rfl
  have z0 : ((0 : Nat) : Int) = 0 := rfl
  have wne : (w.length : Int) ≠ 0 := by omega
  have wne1 : (w.length : Int) + 1 ≠ 0 := by omega
  by_cases hok : A + N ≤ w.length ∧ S + N ≤ w.length
  · obtain ⟨H9, f1, f2, f3, f4⟩ := copy_ok (K := K) (by omega) T8 (at_ := A) (src := S) (k := N) A0 S0 N0 (by omega) (by omega)
    have r9 : H9.get H5.n = some (.cells (wc W) 23) := (f3.get _ (by have := d3.n; omega) (by have := c2.ln; omega)).trans r8
    have C9 : Tab H9 C _ lC 2 W := d2.fx f3 (by have := T7.ln; omega) (by have := T7.ln; omega)
    have hseg : ((W.drop S.toNat).take N.toNat).length = N.toNat := by simp; omega
    have want : Want 0 S A N W (spl W A.toNat ((W.drop S.toNat).take N.toNat)) := by
      intro k hkW
      rw [spl_getD (by omega), hseg]
      by_cases hin : A.toNat ≤ k ∧ k < A.toNat + N.toNat
      · rw [if_pos hin, if_pos ⟨rfl, by omega, by omega⟩]
        rw [show (S + (k : Int) - A).toNat = S.toNat + (k - A.toNat) by omega]
        simp only [List.getD_eq_getElem?_getD]
        rw [List.getElem?_take_of_lt (by omega), List.getElem?_drop]
      · rw [if_neg hin, if_neg (by omega)]
    obtain ⟨x, y, z, lp⟩ := main_loop1 (K := K) (rc := 2) (t0 := .slice (some ⟨s, 0, none⟩) w.length cc) (t1 := .int .u64 I) (t2 := .int .u64 v) (t12 := .bool false) (t15 := .int .i64 0) (t17 := .pointer (some ⟨C, 0, none⟩)) (t23 := undef) (t24 := undef) (t25 := undef) (t26 := undef) (t28 := undef) (ds := []) f2 (by rw [spl_len (by omega)]) r9 S0 A0 N0 (by omega) (by omega) (by omega) (fun _ => by omega) want W.length 0 undef undef undef (by omega) (by omega) (by omega)
    rw [hW, z0] at lp
    have e1 : decide (A + N ≤ (w.length : Int)) = true := by simp; omega
    have e2 : decide (S + N ≤ (w.length : Int)) = true := by simp; omega
    have e3 : ((0 : Int) == 0) = true := rfl
    have e4 : (true == true) = true := rfl
    have tl := fun (t0 t1 t3 t6 t7 t8 t9 t10 t11 t12 t14 t15 t16 t18 t19 t20 t21 t22 t23 t24 t25 t26 t27 t28 t29 t30 t31 t32 t33 t34 t35 t36 t37 t38 t39 t40 t41 t42 t43 t44 t45 t46 t47 t48 t49 t50 t51 t52 t53 t54 t55 t56 t57 t58 t59 t60 t61 t62 t63 t64 t65 t66 t67 t68 t69 t70 t71 t72 t73 t74 t75 t76 t77 t78 t79 t80 t81 t82 t83 t84 t85 t86 t87 t88 t89 t90 t91 t92 t93 t94 t95 t96 t97 t98 t99 t100 t101 t102 t103 t104 t105 t106 t107 t108 t109 t110 t111 t112 t113 t114 t115 t116 t117 t118 t119 t120 t121 t122 t123 t124 t125 t126 t127 t128 t129 t130 t131 t132 t133 t134 t135 t136 t137 t138 t139 t140 t141 t142 t143 t144 t145 t146 t147 t148 t149 t150 t151 t152 t153 t154 t155 t156 t157 t158 t159 t160 t161 t162 t163 t164 t165 t166 t167 t168 t169 t170 t171 t172 t173 t174 t175 t176 t177 t178 t179 t180 t181 t182 t183 t184 t185 t186 t187 t188 t189 t190 t191 t192 t193 t194 t195 t196 t197 t198 t199 t200 t201 t202 t203 t204 t205 t206 t207 t208 t209 t210 t211 t212 t213 t214 t215 t216 t217 : Value) => main_tail (K := K) (by omega) C9 A0 (by omega) N0 (by omega) (v := v) t0 t1 t3 t6 t7 t8 t9 t10 t11 t12 t14 t15 t16 t18 t19 t20 t21 t22 t23 t24 t25 t26 t27 t28 t29 t30 t31 t32 t33 t34 t35 t36 t37 t38 t39 t40 t41 t42 t43 t44 t45 t46 t47 t48 t49 t50 t51 t52 t53 t54 t55 t56 t57 t58 t59 t60 t61 t62 t63 t64 t65 t66 t67 t68 t69 t70 t71 t72 t73 t74 t75 t76 t77 t78 t79 t80 t81 t82 t83 t84 t85 t86 t87 t88 t89 t90 t91 t92 t93 t94 t95 t96 t97 t98 t99 t100 t101 t102 t103 t104 t105 t106 t107 t108 t109 t110 t111 t112 t113 t114 t115 t116 t117 t118 t119 t120 t121 t122 t123 t124 t125 t126 t127 t128 t129 t130 t131 t132 t133 t134 t135 t136 t137 t138 t139 t140 t141 t142 t143 t144 t145 t146 t147 t148 t149 t150 t151 t152 t153 t154 t155 t156 t157 t158 t159 t160 t161 t162 t163 t164 t165 t166 t167 t168 t169 t170 t171 t172 t173 t174 t175 t176 t177 t178 t179 t180 t181 t182 t183 t184 t185 t186 t187 t188 t189 t190 t191 t192 t193 t194 t195 t196 t197 t198 t199 t200 t201 t202 t203 t204 t205 t206 t207 t208 t209 t210 t211 t212 t213 t214 t215 t216 t217
    rw [hW] at tl
    rw [call3]
    simp only [jn3, n3_1, n3_4, n3_7, n3_8, n3_6, n3_9, n3_5t, n3_5f, n3_3, n3_12, n3_15, n3_16, n3_14, n3_17, n3_13t, n3_13f, n3_11, n3_19, n3_21, n3_24, n3_27, n3_28, n3_26, n3_29, n3_25t, n3_25f, n3_23, n3_31, n3_33, n3_35, n3_37, n3_39, n3_41, n3_44, n3_47, n3_48, n3_46, n3_49, n3_45t, n3_45f, n3_43, n3_52, n3_57, n3_59, n3_60, n3_58t, n3_58f, n3_56, n3_64, n3_66, n3_69, n3_71, n3_72, n3_70t, n3_70f, n3_68, n3_74, n3_77, n3_78, n3_76, n3_79, n3_75t, n3_75f, n3_73, n3_67, n3_65, n3_63, n3_62, n3_80, n3_61, n3_55, n3_54, it3_54, ix3_54, n3_53, n3_51, n3_82, n3_85, n3_88, n3_89, n3_87, n3_90, n3_86t, n3_86f, n3_84, n3_92, n3_94, n3_97, n3_102, n3_104, n3_105, n3_103t, n3_103f, n3_101, n3_108, n3_107, n3_109, n3_106, n3_100, n3_99, it3_99, ix3_99, n3_98, n3_96, n3_112, n3_117, n3_119, n3_120, n3_118t, n3_118f, n3_116, n3_124, n3_126, n3_128, n3_131, n3_132, n3_130, n3_133, n3_129t, n3_129f, n3_127, n3_125, n3_123, n3_122, n3_134, n3_121, n3_115, n3_114, it3_114, ix3_114, n3_113, n3_111, n3_136, n3_137, n3_135, n3_110, n3_95, n3_93, n3_91, n3_83, n3_50, n3_42, n3_40, n3_38, n3_36, n3_34, n3_32, n3_30, n3_22, n3_20, n3_18, n3_10, n3_2, n3_0, lk3, fin3_0, fin3_1, seqK_0, seqK_s, jnK_t, jnK_f, blkK_f0, blkK_t0, blkK_f1, blkK_t1, blkK_fx, blkK_tx, obs, List.set_cons_succ, List.set_cons_zero, Nat.reduceAdd, hk, v_not, Bool.not_true, Bool.not_false, v_len, v_lss, v_gtr, ez, ey, v_asB, cond_true, cond_false, setAll1, v_conv, un, v_lim, v_tt, a1, v_ex0, v_ex1, v_neq, e00, b1, v_rem _ _ _ _ wne, v_add, un1, v_rem _ _ _ _ wne1, eI.symm, eA.symm, eS.symm, eN.symm, c1, v_b0, e5.symm, ap, ix, st, Option.map_some, d1, f1, v_eql, wA, wS, v_leq, e1, e2, e3, e4, v_bne, lp]
    exact tl _ _ _ _ _ _ _ _ _ _ _ _ _ _ _ _ _ _ _ _ _ _ _ _ _ _ _ _ _ _ _ _ _ _ _ _ _ _ _ _ _ _ _ _ _ _ _ _ _ _ _ _ _ _ _ _ _ _ _ _ _ _ _ _ _ _ _ _ _ _ _ _ _ _ _ _ _ _ _ _ _ _ _ _ _ _ _ _ _ _ _ _ _ _ _ _ _ _ _ _ _ _ _ _ _ _ _ _ _ _ _ _ _ _ _ _ _ _ _ _ _ _ _ _ _ _ _ _ _ _ _ _ _ _ _ _ _ _ _ _ _ _ _ _ _ _ _ _ _ _ _ _ _ _ _ _ _ _ _ _ _ _ _ _ _ _ _ _ _ _ _ _ _ _ _ _ _ _ _ _ _ _ _ _ _ _ _ _ _ _ _ _ _ _ _ _ _ _ _ _ _ _ _ _ _ _ _ _ _ _ _ _ _
  · have f1 := copy_bad (K := K) (by omega) T8 (at_ := A) (src := S) (k := N) A0 S0 N0 (by omega) (by omega)
    have want : Want 260 S A N W W := by
      intro k hkW
      rw [if_neg (by omega)]
    obtain ⟨x, y, z, lp⟩ := main_loop1 (K := K) (rc := 2) (t0 := .slice (some ⟨s, 0, none⟩) w.length cc) (t1 := .int .u64 I) (t2 := .int .u64 v) (t12 := .bool false) (t15 := .int .i64 0) (t17 := .pointer (some ⟨C, 0, none⟩)) (t23 := undef) (t24 := undef) (t25 := undef) (t26 := undef) (t28 := undef) (ds := []) T8 rfl r8 S0 A0 N0 (by omega) (by omega) (by omega) (fun h => by omega) want W.length 0 undef undef undef (by omega) (by omega) (by omega)
    rw [hW, z0] at lp
    have e3 : ((260 : Int) == 0) = false := rfl
    have e4 : (false == false) = true := rfl
    have tl := fun (t0 t1 t3 t6 t7 t8 t9 t10 t11 t12 t14 t15 t16 t18 t19 t20 t21 t22 t23 t24 t25 t26 t27 t28 t29 t30 t31 t32 t33 t34 t35 t36 t37 t38 t39 t40 t41 t42 t43 t44 t45 t46 t47 t48 t49 t50 t51 t52 t53 t54 t55 t56 t57 t58 t59 t60 t61 t62 t63 t64 t65 t66 t67 t68 t69 t70 t71 t72 t73 t74 t75 t76 t77 t78 t79 t80 t81 t82 t83 t84 t85 t86 t87 t88 t89 t90 t91 t92 t93 t94 t95 t96 t97 t98 t99 t100 t101 t102 t103 t104 t105 t106 t107 t108 t109 t110 t111 t112 t113 t114 t115 t116 t117 t118 t119 t120 t121 t122 t123 t124 t125 t126 t127 t128 t129 t130 t131 t132 t133 t134 t135 t136 t137 t138 t139 t140 t141 t142 t143 t144 t145 t146 t147 t148 t149 t150 t151 t152 t153 t154 t155 t156 t157 t158 t159 t160 t161 t162 t163 t164 t165 t166 t167 t168 t169 t170 t171 t172 t173 t174 t175 t176 t177 t178 t179 t180 t181 t182 t183 t184 t185 t186 t187 t188 t189 t190 t191 t192 t193 t194 t195 t196 t197 t198 t199 t200 t201 t202 t203 t204 t205 t206 t207 t208 t209 t210 t211 t212 t213 t214 t215 t216 t217 : Value) => main_tail (K := K) (by omega) d2 A0 (by omega) N0 (by omega) (v := v) t0 t1 t3 t6 t7 t8 t9 t10 t11 t12 t14 t15 t16 t18 t19 t20 t21 t22 t23 t24 t25 t26 t27 t28 t29 t30 t31 t32 t33 t34 t35 t36 t37 t38 t39 t40 t41 t42 t43 t44 t45 t46 t47 t48 t49 t50 t51 t52 t53 t54 t55 t56 t57 t58 t59 t60 t61 t62 t63 t64 t65 t66 t67 t68 t69 t70 t71 t72 t73 t74 t75 t76 t77 t78 t79 t80 t81 t82 t83 t84 t85 t86 t87 t88 t89 t90 t91 t92 t93 t94 t95 t96 t97 t98 t99 t100 t101 t102 t103 t104 t105 t106 t107 t108 t109 t110 t111 t112 t113 t114 t115 t116 t117 t118 t119 t120 t121 t122 t123 t124 t125 t126 t127 t128 t129 t130 t131 t132 t133 t134 t135 t136 t137 t138 t139 t140 t141 t142 t143 t144 t145 t146 t147 t148 t149 t150 t151 t152 t153 t154 t155 t156 t157 t158 t159 t160 t161 t162 t163 t164 t165 t166 t167 t168 t169 t170 t171 t172 t173 t174 t175 t176 t177 t178 t179 t180 t181 t182 t183 t184 t185 t186 t187 t188 t189 t190 t191 t192 t193 t194 t195 t196 t197 t198 t199 t200 t201 t202 t203 t204 t205 t206 t207 t208 t209 t210 t211 t212 t213 t214 t215 t216 t217
    rw [hW] at tl
    by_cases h9 : A + N ≤ w.length
    · have e1 : decide (A + N ≤ (w.length : Int)) = true := by simp; omega
      have e2 : decide (S + N ≤ (w.length : Int)) = false := by simp; omega
      rw [call3]
      simp only [jn3, n3_1, n3_4, n3_7, n3_8, n3_6, n3_9, n3_5t, n3_5f, n3_3, n3_12, n3_15, n3_16, n3_14, n3_17, n3_13t, n3_13f, n3_11, n3_19, n3_21, n3_24, n3_27, n3_28, n3_26, n3_29, n3_25t, n3_25f, n3_23, n3_31, n3_33, n3_35, n3_37, n3_39, n3_41, n3_44, n3_47, n3_48, n3_46, n3_49, n3_45t, n3_45f, n3_43, n3_52, n3_57, n3_59, n3_60, n3_58t, n3_58f, n3_56, n3_64, n3_66, n3_69, n3_71, n3_72, n3_70t, n3_70f, n3_68, n3_74, n3_77, n3_78, n3_76, n3_79, n3_75t, n3_75f, n3_73, n3_67, n3_65, n3_63, n3_62, n3_80, n3_61, n3_55, n3_54, it3_54, ix3_54, n3_53, n3_51, n3_82, n3_85, n3_88, n3_89, n3_87, n3_90, n3_86t, n3_86f, n3_84, n3_92, n3_94, n3_97, n3_102, n3_104, n3_105, n3_103t, n3_103f, n3_101, n3_108, n3_107, n3_109, n3_106, n3_100, n3_99, it3_99, ix3_99, n3_98, n3_96, n3_112, n3_117, n3_119, n3_120, n3_118t, n3_118f, n3_116, n3_124, n3_126, n3_128, n3_131, n3_132, n3_130, n3_133, n3_129t, n3_129f, n3_127, n3_125, n3_123, n3_122, n3_134, n3_121, n3_115, n3_114, it3_114, ix3_114, n3_113, n3_111, n3_136, n3_137, n3_135, n3_110, n3_95, n3_93, n3_91, n3_83, n3_50, n3_42, n3_40, n3_38, n3_36, n3_34, n3_32, n3_30, n3_22, n3_20, n3_18, n3_10, n3_2, n3_0, lk3, fin3_0, fin3_1, seqK_0, seqK_s, jnK_t, jnK_f, blkK_f0, blkK_t0, blkK_f1, blkK_t1, blkK_fx, blkK_tx, obs, List.set_cons_succ, List.set_cons_zero, Nat.reduceAdd, hk, v_not, Bool.not_true, Bool.not_false, v_len, v_lss, v_gtr, ez, ey, v_asB, cond_true, cond_false, setAll1, v_conv, un, v_lim, v_tt, a1, v_ex0, v_ex1, v_neq, e00, b1, v_rem _ _ _ _ wne, v_add, un1, v_rem _ _ _ _ wne1, eI.symm, eA.symm, eS.symm, eN.symm, c1, v_b0, e5.symm, ap, ix, st, Option.map_some, d1, f1, v_eql, wA, wS, v_leq, e1, e2, e3, e4, v_bne, lp]
      exact tl _ _ _ _ _ _ _ _ _ _ _ _ _ _ _ _ _ _ _ _ _ _ _ _ _ _ _ _ _ _ _ _ _ _ _ _ _ _ _ _ _ _ _ _ _ _ _ _ _ _ _ _ _ _ _ _ _ _ _ _ _ _ _ _ _ _ _ _ _ _ _ _ _ _ _ _ _ _ _ _ _ _ _ _ _ _ _ _ _ _ _ _ _ _ _ _ _ _ _ _ _ _ _ _ _ _ _ _ _ _ _ _ _ _ _ _ _ _ _ _ _ _ _ _ _ _ _ _ _ _ _ _ _ _ _ _ _ _ _ _ _ _ _ _ _ _ _ _ _ _ _ _ _ _ _ _ _ _ _ _ _ _ _ _ _ _ _ _ _ _ _ _ _ _ _ _ _ _ _ _ _ _ _ _ _ _ _ _ _ _ _ _ _ _ _ _ _ _ _ _ _ _ _ _ _ _ _ _ _ _ _ _ _
    · have e1 : decide (A + N ≤ (w.length : Int)) = false := by simp; omega
      rw [call3]
      simp only [jn3, n3_1, n3_4, n3_7, n3_8, n3_6, n3_9, n3_5t, n3_5f, n3_3, n3_12, n3_15, n3_16, n3_14, n3_17, n3_13t, n3_13f, n3_11, n3_19, n3_21, n3_24, n3_27, n3_28, n3_26, n3_29, n3_25t, n3_25f, n3_23, n3_31, n3_33, n3_35, n3_37, n3_39, n3_41, n3_44, n3_47, n3_48, n3_46, n3_49, n3_45t, n3_45f, n3_43, n3_52, n3_57, n3_59, n3_60, n3_58t, n3_58f, n3_56, n3_64, n3_66, n3_69, n3_71, n3_72, n3_70t, n3_70f, n3_68, n3_74, n3_77, n3_78, n3_76, n3_79, n3_75t, n3_75f, n3_73, n3_67, n3_65, n3_63, n3_62, n3_80, n3_61, n3_55, n3_54, it3_54, ix3_54, n3_53, n3_51, n3_82, n3_85, n3_88, n3_89, n3_87, n3_90, n3_86t, n3_86f, n3_84, n3_92, n3_94, n3_97, n3_102, n3_104, n3_105, n3_103t, n3_103f, n3_101, n3_108, n3_107, n3_109, n3_106, n3_100, n3_99, it3_99, ix3_99, n3_98, n3_96, n3_112, n3_117, n3_119, n3_120, n3_118t, n3_118f, n3_116, n3_124, n3_126, n3_128, n3_131, n3_132, n3_130, n3_133, n3_129t, n3_129f, n3_127, n3_125, n3_123, n3_122, n3_134, n3_121, n3_115, n3_114, it3_114, ix3_114, n3_113, n3_111, n3_136, n3_137, n3_135, n3_110, n3_95, n3_93, n3_91, n3_83, n3_50, n3_42, n3_40, n3_38, n3_36, n3_34, n3_32, n3_30, n3_22, n3_20, n3_18, n3_10, n3_2, n3_0, lk3, fin3_0, fin3_1, seqK_0, seqK_s, jnK_t, jnK_f, blkK_f0, blkK_t0, blkK_f1, blkK_t1, blkK_fx, blkK_tx, obs, List.set_cons_succ, List.set_cons_zero, Nat.reduceAdd, hk, v_not, Bool.not_true, Bool.not_false, v_len, v_lss, v_gtr, ez, ey, v_asB, cond_true, cond_false, setAll1, v_conv, un, v_lim, v_tt, a1, v_ex0, v_ex1, v_neq, e00, b1, v_rem _ _ _ _ wne, v_add, un1, v_rem _ _ _ _ wne1, eI.symm, eA.symm, eS.symm, eN.symm, c1, v_b0, e5.symm, ap, ix, st, Option.map_some, d1, f1, v_eql, wA, wS, v_leq, e1, e3, e4, v_bne, lp]
      exact tl _ _ _ _ _ _ _ _ _ _ _ _ _ _ _ _ _ _ _ _ _ _ _ _ _ _ _ _ _ _ _ _ _ _ _ _ _ _ _ _ _ _ _ _ _ _ _ _ _ _ _ _ _ _ _ _ _ _ _ _ _ _ _ _ _ _ _ _ _ _ _ _ _ _ _ _ _ _ _ _ _ _ _ _ _ _ _ _ _ _ _ _ _ _ _ _ _ _ _ _ _ _ _ _ _ _ _ _ _ _ _ _ _ _ _ _ _ _ _ _ _ _ _ _ _ _ _ _ _ _ _ _ _ _ _ _ _ _ _ _ _ _ _ _ _ _ _ _ _ _ _ _ _ _ _ _ _ _ _ _ _ _ _ _ _ _ _ _ _ _ _ _ _ _ _ _ _ _ _ _ _ _ _ _ _ _ _ _ _ _ _ _ _ _ _ _ _ _ _ _ _ _ _ _ _ _ _ _ _ _ _ _ _
end Go.Cn
