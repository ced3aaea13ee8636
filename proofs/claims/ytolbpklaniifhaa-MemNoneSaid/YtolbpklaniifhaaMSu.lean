/- The law of a memory that is not there, as the canonical run makes it. -/
import Derived.Test.YtolbpklaniifhaaMSt
import Derived.Test.YtolbpklaniifhaaMFd
import Derived.Test.YtolbpklaniifhaaMCnQ
namespace Go.Cn
set_option linter.unusedVariables false
set_option linter.unusedSimpArgs false
set_option maxRecDepth 4000
section
variable {K : Nat} {H : CH}
theorem grow_nil (hK : 1 ≤ K) (a : Value) : (orc Go.Proofs.Try.prog KT K).call 25 [.pointer none, a] H = some (.tuple ⟨[.int .u64 0, .bool false]⟩, H) := by
  obtain ⟨K, rfl⟩ : ∃ j, K = j + 1 := ⟨K - 1, by omega⟩
  rw [call25]
  simp only [jn25, n25_1, n25_4, n25_7, n25_8, n25_6, n25_9, n25_5t, n25_5f, n25_3, n25_11, n25_14, e25_16_0, e25_16_1, e25_16_2, e25_16_3, e25_16_4, n25_16, q25_16_0, q25_16_1f, q25_16_1t, q25_16_2f, q25_16_2t, q25_16_3ff, q25_16_3t, q25_16_3ft, q25_16_4f, q25_16_4t, g25_16, n25_19, n25_20, n25_18, n25_21, n25_17t, n25_17f, n25_15, n25_13, n25_23, n25_25, n25_26, n25_24, n25_22, n25_12, n25_10, n25_2, n25_0, lk25, fin25_0, fin25_1, seqK_0, seqK_s, jnK_t, jnK_f, blkK_f0, blkK_t0, blkK_f1, blkK_t1, blkK_fx, blkK_tx, obs, List.set_cons_succ, List.set_cons_zero, Nat.reduceAdd, opK_go, v_pn, v_asB, cond_true, cond_false, setAll1]
theorem bytes_nil (hK : 1 ≤ K) (a k : Value) : (orc Go.Proofs.Try.prog KT K).call 22 [.pointer none, a, k] H = some (.tuple ⟨[.slice none 0 0, .int .i64 1]⟩, H) := by
  obtain ⟨K, rfl⟩ : ∃ j, K = j + 1 := ⟨K - 1, by omega⟩
  rw [call22]
  simp only [jn22, n22_1, n22_5, n22_8, n22_9, n22_7, n22_11, n22_14, n22_15, n22_13, n22_16, n22_12t, n22_12f, n22_10, n22_6t, n22_6f, n22_4, n22_3, n22_18, n22_19, n22_17, n22_2, n22_0, lk22, fin22_0, fin22_1, seqK_0, seqK_s, jnK_t, jnK_f, blkK_f0, blkK_t0, blkK_f1, blkK_t1, blkK_fx, blkK_tx, obs, List.set_cons_succ, List.set_cons_zero, Nat.reduceAdd, opK_go, v_pn]
theorem fill_nil (hK : 1 ≤ K) (a x k : Value) : (orc Go.Proofs.Try.prog KT K).call 26 [.pointer none, a, x, k] H = some (.int .i64 1, H) := by
  obtain ⟨K, rfl⟩ : ∃ j, K = j + 1 := ⟨K - 1, by omega⟩
  rw [call26]
  simp only [jn26, n26_1, n26_5, n26_8, n26_9, n26_7, n26_11, n26_14, n26_15, n26_13, n26_16, n26_12t, n26_12f, n26_10, n26_6t, n26_6f, n26_4, n26_3, n26_18, n26_20, n26_21, n26_19, n26_17, n26_2, n26_0, lk26, fin26_0, fin26_1, seqK_0, seqK_s, jnK_t, jnK_f, blkK_f0, blkK_t0, blkK_f1, blkK_t1, blkK_fx, blkK_tx, obs, List.set_cons_succ, List.set_cons_zero, Nat.reduceAdd, opK_go, v_pn]
theorem init_nil (hK : 1 ≤ K) (a s r k : Value) : (orc Go.Proofs.Try.prog KT K).call 27 [.pointer none, a, s, r, k] H = some (.int .i64 1, H) := by
  obtain ⟨K, rfl⟩ : ∃ j, K = j + 1 := ⟨K - 1, by omega⟩
  rw [call27]
  simp only [jn27, n27_1, n27_5, n27_8, n27_9, n27_7, n27_11, n27_14, n27_15, n27_13, n27_16, n27_12t, n27_12f, n27_10, n27_6t, n27_6f, n27_4, n27_3, n27_18, n27_20, n27_21, n27_19, n27_17, n27_2, n27_0, lk27, fin27_0, fin27_1, seqK_0, seqK_s, jnK_t, jnK_f, blkK_f0, blkK_t0, blkK_f1, blkK_t1, blkK_fx, blkK_tx, obs, List.set_cons_succ, List.set_cons_zero, Nat.reduceAdd, opK_go, v_pn]
theorem copy_nil (hK : 1 ≤ K) (a s r k : Value) : (orc Go.Proofs.Try.prog KT K).call 24 [.pointer none, a, s, r, k] H = some (.int .i64 1, H) := by
  obtain ⟨K, rfl⟩ : ∃ j, K = j + 1 := ⟨K - 1, by omega⟩
  rw [call24]
  simp only [jn24, n24_1, n24_4, n24_7, n24_8, n24_6, n24_9, n24_5t, n24_5f, n24_3, n24_11, n24_12, n24_10, n24_2, n24_0, lk24, fin24_0, fin24_1, seqK_0, seqK_s, jnK_t, jnK_f, blkK_f0, blkK_t0, blkK_f1, blkK_t1, blkK_fx, blkK_tx, obs, List.set_cons_succ, List.set_cons_zero, Nat.reduceAdd, opK_go, v_pn, v_asB, cond_true, cond_false, setAll1]
theorem copy_nil2 (hK : 1 ≤ K) (b : Addr) (a r k : Value) : (orc Go.Proofs.Try.prog KT K).call 24 [.pointer (some b), a, .pointer none, r, k] H = some (.int .i64 1, H) := by
  obtain ⟨K, rfl⟩ : ∃ j, K = j + 1 := ⟨K - 1, by omega⟩
  rw [call24]
  simp only [jn24, n24_1, n24_4, n24_7, n24_8, n24_6, n24_9, n24_5t, n24_5f, n24_3, n24_11, n24_12, n24_10, n24_2, n24_0, lk24, fin24_0, fin24_1, seqK_0, seqK_s, jnK_t, jnK_f, blkK_f0, blkK_t0, blkK_f1, blkK_t1, blkK_fx, blkK_tx, obs, List.set_cons_succ, List.set_cons_zero, Nat.reduceAdd, opK_go, v_ptr, v_pn, v_asB, cond_true, cond_false, setAll1]
theorem size_nil (hK : 1 ≤ K) : (orc Go.Proofs.Try.prog KT K).call 28 [.pointer none] H = some (.int .u64 0, H) := by
  obtain ⟨K, rfl⟩ : ∃ j, K = j + 1 := ⟨K - 1, by omega⟩
  rw [call28]
  simp only [jn28, n28_1, n28_4, n28_7, n28_8, n28_6, n28_9, n28_5t, n28_5f, n28_3, n28_11, n28_12, n28_10, n28_2, n28_0, lk28, fin28_0, fin28_1, seqK_0, seqK_s, jnK_t, jnK_f, blkK_f0, blkK_t0, blkK_f1, blkK_t1, blkK_fx, blkK_tx, obs, List.set_cons_succ, List.set_cons_zero, Nat.reduceAdd, opK_go, v_pn]
theorem clone_nil (hK : 1 ≤ K) : (orc Go.Proofs.Try.prog KT K).call 30 [.pointer none] H = some (.pointer none, H) := by
  obtain ⟨K, rfl⟩ : ∃ j, K = j + 1 := ⟨K - 1, by omega⟩
  rw [call30]
  simp only [jn30, n30_1, n30_4, n30_7, n30_8, n30_6, n30_9, n30_5t, n30_5f, n30_3, n30_11, n30_12, n30_10, n30_2, n30_0, lk30, fin30_0, fin30_1, seqK_0, seqK_s, jnK_t, jnK_f, blkK_f0, blkK_t0, blkK_f1, blkK_t1, blkK_fx, blkK_tx, obs, List.set_cons_succ, List.set_cons_zero, Nat.reduceAdd, opK_go, v_pn]
theorem v_lim0 : cBuild Go.Proofs.Try.prog 30 [] = some (.agg ⟨lx (0 : Nat) 0 false⟩) := by kernel_rfl
theorem v_leq0 : cBin Go.Proofs.Try.prog .eql 30 (.agg ⟨lx (0 : Nat) 0 false⟩) (.agg ⟨lx (0 : Nat) 0 false⟩) = some (.bool true) := by kernel_rfl
theorem fin29 (t0 t1 t2 t3 t4 t5 t6 t7 t8 t9 t10 t11 t12 t13 t14 : Value) (H : CH) : finK Go.Proofs.Try.prog 29 1 ⟨[t0, t1, t2, t3, t4, t5, t6, t7, t8, t9, t10, t11, t12, t13, t14], []⟩ H = ((ldN 4 t2 H).bind fun v => (some ([] : List Value)).map (v :: ·)).bind fun vs => some (one vs, H) := by kernel_rfl
theorem limits_nil (hK : 1 ≤ K) (hl : H.lim ≤ H.n) : ∃ H', (orc Go.Proofs.Try.prog KT K).call 29 [.pointer none] H = some (.agg ⟨lx (0 : Nat) 0 false⟩, H') ∧ Fx H.n H H' := by
  obtain ⟨K, rfl⟩ : ∃ j, K = j + 1 := ⟨K - 1, by omega⟩
  obtain ⟨H1, e1⟩ : ∃ X, X = H.new (.cells [.bool false, .int .u64 0, .int .u64 0, .bool false] 30) := ⟨_, rfl⟩
  have g1 : H1.get H.n = some (.cells [.bool false, .int .u64 0, .int .u64 0, .bool false] 30) := by rw [e1]; exact CH.get_new _ _
  obtain ⟨H2, e2⟩ : ∃ X, X = H1.put H.n (some (.cells (CH.splice [.bool false, .int .u64 0, .int .u64 0, .bool false] 0 (lx (0 : Nat) 0 false)) 30)) := ⟨_, rfl⟩
  have l1 : H1.lim = H.lim := by rw [e1]; rfl
  have st : stN 4 (.pointer (some ⟨H.n, 0, none⟩)) (.agg ⟨lx (0 : Nat) 0 false⟩) H1 = some H2 := by
    simp only [stN, asP, v_agg, obs]
    rw [if_pos ⟨by simp [lx], by simp [lx, isCell]⟩]
    simp only [CH.storeN, g1]
    rw [if_pos ⟨trivial, by simp [lx], by omega⟩, e2]
  have g2 : H2.get H.n = some (.cells (lx (0 : Nat) 0 false) 30) := by rw [e2]; exact CH.get_put _ _ _
  refine ⟨H2, ?_, ?_⟩
  · rw [call29]
    have ld : ldN 4 (.pointer (some ⟨H.n, 0, none⟩)) H2 = some (.agg ⟨lx (0 : Nat) 0 false⟩) := by
      simp only [ldN, asP, obs, CH.loadN, g2]
      rw [if_pos ⟨trivial, by simp [lx]⟩]; rfl
    simp only [jn29, n29_1, n29_4, n29_7, n29_8, n29_6, n29_9, n29_5t, n29_5f, n29_3, n29_11, n29_13, n29_15, n29_16, n29_14, n29_12, n29_10, n29_2, n29_0, lk29, seqK_0, seqK_s, jnK_t, jnK_f, blkK_f0, blkK_t0, blkK_f1, blkK_t1, blkK_fx, blkK_tx, obs, List.set_cons_succ, List.set_cons_zero, Nat.reduceAdd, opK_go, e1.symm, v_pn, v_lim0, st, Option.map_some, fin29, ld]
    rfl
  · have f1 : Fx H.n H H1 := by rw [e1]; exact Fx.new _ _ _
    exact f1.trans (by rw [e2]; exact Fx.put _ _ _)
theorem none_spec (hK : 60 ≤ K) (hl : H.lim ≤ H.n) (a b : Int) (n : Value) : ∃ H', (orc Go.Proofs.Try.prog KT K).call 6 [.int .u64 a, .int .u64 b, n] H = some (.bool true, H') := by
  obtain ⟨K, rfl⟩ : ∃ j, K = j + 1 := ⟨K - 1, by omega⟩
  obtain ⟨H1, x, l, a1, a2, a3, a4, a5⟩ := new_spec (K := K) (by omega) hl (n := 0) (by omega) 0 false
  obtain ⟨H2, b1, b2⟩ := limits_nil (K := K) (H := H1) (by omega) a2.lim
  have m2 := a2.fxn b2
  obtain ⟨H3, c1, c2⟩ := known_spec (K := K) (by omega) m2.lim
  have q0 : ((0 : Int) == 0) = true := rfl
  have q1 : ((1 : Int) == 1) = true := rfl
  refine ⟨H3, ?_⟩
  rw [call6]
  simp only [jn6, n6_1, n6_3, n6_5, n6_7, n6_9, n6_11, e6_13_0, e6_13_1, e6_13_2, e6_13_3, e6_13_4, e6_13_5, e6_13_6, e6_13_7, e6_13_8, e6_13_9, e6_13_10, e6_13_11, e6_13_12, e6_13_13, e6_13_14, e6_13_15, e6_13_16, e6_13_17, e6_13_18, e6_13_19, e6_13_20, e6_13_21, e6_13_22, e6_13_23, e6_13_24, e6_13_25, e6_13_26, e6_13_27, e6_13_28, e6_13_29, e6_13_30, e6_13_31, e6_13_32, e6_13_33, n6_13, q6_13_0, q6_13_1f, q6_13_1t, q6_13_2f, q6_13_2t, q6_13_3, q6_13_4f, q6_13_4t, q6_13_5f, q6_13_5t, q6_13_6, q6_13_7f, q6_13_7t, q6_13_8f, q6_13_8t, q6_13_9, q6_13_10f, q6_13_10t, q6_13_11f, q6_13_11t, q6_13_12, q6_13_13f, q6_13_13t, q6_13_14f, q6_13_14t, q6_13_15, q6_13_16f, q6_13_16t, q6_13_17f, q6_13_17t, q6_13_18, q6_13_19f, q6_13_19t, q6_13_20f, q6_13_20t, q6_13_21, q6_13_22f, q6_13_22t, q6_13_23f, q6_13_23t, q6_13_24, q6_13_25f, q6_13_25t, q6_13_26f, q6_13_26t, q6_13_27, q6_13_28f, q6_13_28t, q6_13_29f, q6_13_29t, q6_13_30, q6_13_31f, q6_13_31t, q6_13_32f, q6_13_32t, q6_13_33, g6_13, n6_14, n6_12, n6_10, n6_8, n6_6, n6_4, n6_2, n6_0, lk6, fin6_0, fin6_1, seqK_0, seqK_s, jnK_t, jnK_f, blkK_f0, blkK_t0, blkK_f1, blkK_t1, blkK_fx, blkK_tx, obs, List.set_cons_succ, List.set_cons_zero, Nat.reduceAdd, opK_go, v_lim0, a1, v_ex0, v_ex1, load_nil (show 1 ≤ K by omega), grow_nil (show 1 ≤ K by omega), bytes_nil (show 1 ≤ K by omega), v_eql, q0, q1, v_not, Bool.not_false, store_nil (show 2 ≤ K by omega), fill_nil (show 1 ≤ K by omega),
    copy_nil (show 1 ≤ K by omega), copy_nil2 (show 1 ≤ K by omega), init_nil (show 1 ≤ K by omega), size_nil (show 1 ≤ K by omega), b1, v_leq0, clone_nil (show 1 ≤ K by omega), v_pn, c1]
end
end Go.Cn
