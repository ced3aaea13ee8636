/- The chapter's rows, as the canonical run makes them. -/
import Derived.Test.YtolbpklaniifhaaLSs
namespace Go.Cn
set_option linter.unusedVariables false
set_option linter.unusedSimpArgs false
set_option maxRecDepth 4000
theorem spl_sub {w s : List Int} {i o k : Nat} (hi : i + s.length ≤ w.length) (ho : i ≤ o) (hk : o - i + k ≤ s.length) : ((spl w i s).drop o).take k = (s.drop (o - i)).take k := by
  have hl : (spl w i s).length = w.length := spl_len hi
  apply ext0
  · simp [hl]; omega
  · intro j hj
    simp [hl] at hj
    simp only [List.getD_eq_getElem?_getD]
    rw [List.getElem?_take_of_lt (by omega), List.getElem?_take_of_lt (by omega), List.getElem?_drop, List.getElem?_drop]
    have := spl_getD (w := w) (i := i) (s := s) hi (o + j)
    rw [if_pos (by omega)] at this
    simp only [List.getD_eq_getElem?_getD] at this
    rw [this]
    congr 2; omega
theorem val_a : accB (pad ((((rowB 258 8).take 4).drop 0).take 1)) 8 = 2 := by decide +kernel
theorem val_b : accB (pad ((((rowB 258 8).take 4).drop 1).take 2)) 8 = 1 := by decide +kernel
theorem v_lim12 : cBuild Go.Proofs.Try.prog 30 [(1, .int .u64 1), (2, .int .u64 2), (3, .bool true)] = some (.agg ⟨lx (1 : Nat) 2 true⟩) := by kernel_rfl
theorem known_spec {K : Nat} (hK : 50 ≤ K) {H : CH} (hl : H.lim ≤ H.n) : ∃ H', (orc Go.Proofs.Try.prog KT K).call 19 [] H = some (.bool true, H') ∧ Fx H.n H H' := by
  obtain ⟨K, rfl⟩ : ∃ j, K = j + 1 := ⟨K - 1, by omega⟩
  obtain ⟨H1, b, l, a1, a2, a3, a4, a5⟩ := new_spec (K := K) (by omega) hl (n := 1) (by omega) 2 true
  have n1 := a3.n
  obtain ⟨Z, eZ, lZ⟩ : ∃ Z, Z = List.replicate (1 * 65536) (0 : Int) ∧ Z.length = 65536 := ⟨_, rfl, by rw [List.length_replicate]⟩
  obtain ⟨Y, eY, lY⟩ : ∃ Z, Z = List.replicate (1 * 65536) (0 : Int) ∧ Z.length = 65536 := ⟨_, rfl, by rw [List.length_replicate]⟩
  rw [← eZ] at a2
  obtain ⟨H2, b1, b2, b3⟩ := store_ok (K := K) (by omega) a2 (a := 0) (o := 1) (k := 4) 258 (by omega) (by omega) (by unfold Sz; omega) (by omega)
  have rl : ((rowB 258 8).take 4).length = 4 := by simp [rowB]
  rw [show ((0 : Int) + 1).toNat = 1 from rfl, show (4 : Int).toNat = 4 from rfl] at b2
  obtain ⟨W, eW⟩ : ∃ X, X = spl Z 1 ((rowB 258 8).take 4) := ⟨_, rfl⟩
  have lW : W.length = 65536 := by rw [eW, spl_len (by omega), lZ]
  obtain ⟨H3, c1, c2⟩ := load_ok (K := K) (by omega) b2 (a := 0) (o := 1) (k := 1) (by omega) (by omega) (by unfold Sz; omega) (by rw [← eW]; omega)
  rw [show ((0 : Int) + 1).toNat = 1 from rfl, show (1 : Int).toNat = 1 from rfl, spl_sub (by omega) (by omega) (by omega), val_a] at c1
  have m3 := b2.fxn c2
  obtain ⟨H4, d1, d2⟩ := load_ok (K := K) (by omega) m3 (a := 0) (o := 2) (k := 2) (by omega) (by omega) (by unfold Sz; omega) (by rw [← eW]; omega)
  rw [show ((0 : Int) + 2).toNat = 2 from rfl, show (2 : Int).toNat = 2 from rfl, spl_sub (by omega) (by omega) (by omega), val_b] at d1
  have m4 := m3.fxn d2
  rw [← eW] at m4
  have e1 := load_bad (K := K) (by omega) m4 (a := 65533) (o := 0) (k := 4) (by omega) (by omega) (by unfold Sz; omega) (by omega) (by omega) (by omega)
  have e2 := load_bad (K := K) (by omega) m4 (a := 18446744073709551615) (o := 2) (k := 1) (by omega) (by omega) (by unfold Sz; omega) (by omega) (by omega) (by omega)
  obtain ⟨H5, l5, f1, f2, f3⟩ := grow_ok (K := K) (by omega) m4 (p := 1) (by omega) (by omega) (by omega) (by omega) (by omega)
  rw [← eY] at f2
  have l5w : (W ++ Y).length = 131072 := by rw [List.length_append, lW, lY]
  have g1 := grow_bad (K := K) (by omega) f2 (p := 1) (by omega) (by omega) (by omega) (by omega)
  obtain ⟨H6, h1, h2⟩ := fill0_spec (K := K) (by omega) f2 (a := 65536) 0 (by omega) (by omega)
  have m6 := f2.fxn h2
  have s6 := size_spec (K := K) (by omega) m6
  rw [l5w, show 131072 / 65536 = 2 from rfl, show ((2 : Nat) : Int) = 2 from rfl] at s6
  rw [lW, show 65536 / 65536 = 1 from rfl, show ((1 : Nat) : Int) = 1 from rfl] at f1
  have q00 : ((0 : Int) != 0) = false := rfl
  have q0 : ((0 : Int) == 0) = true := rfl
  have q1 : ((1 : Int) == 1) = true := rfl
  have q2 : ((2 : Int) == 2) = true := rfl
  have q3 : ((260 : Int) == 260) = true := rfl
  refine ⟨H6, ?_, ((((a3.later b3 a5).later c2 (by have := b3.n; omega)).later d2 (by have := b3.n; have := c2.n; omega)).later f3 a4).later h2 (by have := b3.n; have := c2.n; have := d2.n; have := f3.n; omega)⟩
  rw [call19]
  simp only [jn19, n19_1, n19_3, e19_6_0, e19_6_1, e19_6_2, e19_6_3, e19_6_4, e19_6_5, n19_6, q19_6_0, q19_6_1f, q19_6_1t, q19_6_2f, q19_6_2t, q19_6_3, q19_6_4f, q19_6_4t, q19_6_5f, q19_6_5t, g19_6, n19_9, n19_10, n19_8, n19_11, n19_7t, n19_7f, n19_5, n19_13, n19_15, n19_17, n19_19, n19_21, n19_23, e19_25_0, e19_25_1, e19_25_2, e19_25_3, e19_25_4, e19_25_5, e19_25_6, e19_25_7, e19_25_8, e19_25_9, e19_25_10, e19_25_11, e19_25_12, e19_25_13, e19_25_14, e19_25_15, e19_25_16, e19_25_17, e19_25_18, e19_25_19, e19_25_20, e19_25_21, e19_25_22, e19_25_23, e19_25_24, n19_25, q19_25_0, q19_25_1f, q19_25_1t, q19_25_2f, q19_25_2t, q19_25_3, q19_25_4f, q19_25_4t, q19_25_5f, q19_25_5t, q19_25_6, q19_25_7f, q19_25_7t, q19_25_8f, q19_25_8t, q19_25_9, q19_25_10f, q19_25_10t, q19_25_11f, q19_25_11t, q19_25_12, q19_25_13f, q19_25_13t, q19_25_14f, q19_25_14t, q19_25_15, q19_25_16f, q19_25_16t, q19_25_17f, q19_25_17t, q19_25_18, q19_25_19f, q19_25_19t, q19_25_20f, q19_25_20t, q19_25_21, q19_25_22f, q19_25_22t, q19_25_23f, q19_25_23t, q19_25_24, g19_25, n19_26, n19_24, n19_22, n19_20, n19_18, n19_16, n19_14, n19_12, n19_4, n19_2, n19_0, lk19, fin19_0, fin19_1, seqK_0, seqK_s, jnK_t, jnK_f, blkK_f0, blkK_t0, blkK_f1, blkK_t1, blkK_fx, blkK_tx, obs, List.set_cons_succ, List.set_cons_zero, Nat.reduceAdd, opK_go, v_lim12, a1, v_ex0, v_ex1, v_neq, q00, v_ptr, b1, c1, d1, e1, e2, f1, g1, v_eql, q0, q1, q2, q3, h1, v_not, Bool.not_false, Bool.not_true, s6]
end Go.Cn
