/- A memory's functions, as the canonical run makes them: rows of its bytes, copies. -/
import Derived.Test.YtolbpklaniifhaaLSm
namespace Go.Cn
set_option linter.unusedVariables false
set_option linter.unusedSimpArgs false
set_option maxRecDepth 4000
section
variable {H : CH} {b : Nat} {mn mx : Int} {hm : Bool} {l c : Nat} {w : List Int} {K : Nat}
theorem app_lit {H : CH} {q s o n c : Nat} {w : List Int} (hq : H.get q = some (.cells [] 5)) (hs : H.get s = some (.cells (wc w) 5)) (h1 : 1 ≤ n) (h2 : o + n ≤ w.length) (h3 : n ≤ 2097152) :
    appendN 5 1 1 (.slice (some ⟨q, 0, none⟩) 0 1) (.slice (some ⟨s, o, none⟩) n c) H = some (.slice (some ⟨H.n, 0, none⟩) n 2, H.new (.cells (wc ((w.drop o).take n)) 5)) := by
  have e1 : H.loadN ⟨s, o, none⟩ (n * 1) = some (wc ((w.drop o).take n)) := by
    simp only [CH.loadN, hs]
    rw [if_pos ⟨trivial, by simp; omega⟩, Nat.mul_one, wc_seg]
  have e2 : H.loadN ⟨q, 0, none⟩ (0 * 1) = some [] := by
    simp only [CH.loadN, hq]
    rw [if_pos ⟨trivial, by simp⟩]; rfl
  simp only [appendN, srcCells, e1, e2, Option.map_some, obs]
  rw [if_neg (by simp [wc_cell]), if_pos trivial, if_neg (show ¬ 0 + n ≤ 1 / 2 by omega), if_pos ⟨by omega, by omega⟩]
  simp
theorem dup_spec (hK : 1 ≤ K) {s o n c : Nat} {w : List Int} (hs : H.get s = some (.cells (wc w) 5)) (hsn : s < H.n) (h1 : 1 ≤ n) (h2 : o + n ≤ w.length) (h3 : n ≤ 2097152) :
    ∃ H' r, (orc Go.Proofs.Try.prog KT K).call 37 [.slice (some ⟨s, o, none⟩) n c] H = some (.slice (some ⟨r, 0, none⟩) n 2, H') ∧ H'.get r = some (.cells (wc ((w.drop o).take n)) 5) ∧ Fx H.n H H' ∧ H.n ≤ r ∧ r < H'.n := by
  obtain ⟨K, rfl⟩ : ∃ j, K = j + 1 := ⟨K - 1, by omega⟩
  obtain ⟨H1, e1⟩ : ∃ X, X = H.new (.cells [] 5) := ⟨_, rfl⟩
  obtain ⟨H2, e2⟩ : ∃ X, X = H1.new (.cells (wc ((w.drop o).take n)) 5) := ⟨_, rfl⟩
  have n1 : H1.n = H.n + 1 := by rw [e1]; rfl
  have f1 : Fx H.n H H1 := by rw [e1]; exact Fx.new _ _ _
  have f2 : Fx H1.n H1 H2 := by rw [e2]; exact Fx.new _ _ _
  have ap := app_lit (H := H1) (q := H.n) (s := s) (o := o) (n := n) (c := c) (w := w) (by rw [e1]; exact CH.get_new _ _) ((f1.get s hsn (by omega)).trans hs) h1 h2 h3
  rw [← e2] at ap
  refine ⟨H2, H1.n, ?_, by rw [e2]; exact CH.get_new _ _, f1.later f2 f1.n, by omega, by rw [e2]; show H1.n < H1.n + 1; omega⟩
  rw [call37]
  simp only [jn37, n37_1, n37_4, n37_7, n37_8, n37_6, n37_9, n37_5t, n37_5f, n37_3, n37_11, n37_12, n37_10, n37_2, n37_0, lk37, fin37_0, fin37_1, seqK_0, seqK_s, jnK_t, jnK_f, blkK_f0, blkK_t0, blkK_f1, blkK_t1, blkK_fx, blkK_tx, obs, List.set_cons_succ, List.set_cons_zero, Nat.reduceAdd, opK_go, v_sn, v_b0, e1.symm, ap]
theorem bytes_ok (hK : 2 ≤ K) (h : Mem H b mn mx hm l c w) {a n : Nat} (hn : 1 ≤ n) (hb : a + n ≤ w.length) :
    ∃ H' r, (orc Go.Proofs.Try.prog KT K).call 22 [.pointer (some ⟨b, 0, none⟩), .int .u64 a, .int .u64 n] H = some (.tuple ⟨[.slice (some ⟨r, 0, none⟩) n 2, .int .i64 0]⟩, H') ∧ H'.get r = some (.cells (wc ((w.drop a).take n)) 5) ∧ Fx H.n H H' ∧ H.n ≤ r ∧ r < H'.n := by
  obtain ⟨K, rfl⟩ : ∃ j, K = j + 1 := ⟨K - 1, by omega⟩
  have hsh := h.short
  have i1 := fun H => in_spec (H := H) (K := K) (by omega) (n := w.length) (a := a) (o := 0) (k := n) (by omega) (by omega) (by omega) (by omega) (by omega) (by omega) (by omega)
  have e1 : decide ((a : Int) + 0 + n ≤ (w.length : Int)) = true := by simp; omega
  have ua : IntKind.u64.wrap ((a : Int) + n) = a + n := u_id (by omega) (by omega)
  obtain ⟨o1, c1, s1, s1a, s1b⟩ := v_slice (l := l) (len := w.length) h.cap (lo := a) (hi := (a : Int) + n) (by omega) (by omega) (by omega) .u64 .u64
  have o1e := s1a (by omega)
  rw [o1e, Int.toNat_natCast, show ((a : Int) + n).toNat - a = n by omega] at s1
  obtain ⟨H1, r, d1, d2, d3, d4, d5⟩ := dup_spec (K := K) (by omega) (c := c1) h.row h.ln hn hb (by omega)
  refine ⟨H1, r, ?_, d2, d3, d4, d5⟩
  rw [call22]
  simp only [jn22, n22_1, n22_5, n22_8, n22_9, n22_7, n22_11, n22_14, n22_15, n22_13, n22_16, n22_12t, n22_12f, n22_10, n22_6t, n22_6f, n22_4, n22_3, n22_18, n22_19, n22_17, n22_2, n22_0, lk22, fin22_0, fin22_1, seqK_0, seqK_s, jnK_t, jnK_f, blkK_f0, blkK_t0, blkK_f1, blkK_t1, blkK_fx, blkK_tx, obs, List.set_cons_succ, List.set_cons_zero, Nat.reduceAdd, opK_go, v_ptr, v_nilC, v_field, mem_slice h, v_len, i1, e1, v_not, Bool.not_true, v_add, ua, s1, d1]
theorem copy_bad (hK : 3 ≤ K) (h : Mem H b mn mx hm l c w) {a s k : Int} (ha : 0 ≤ a) (hs : 0 ≤ s) (hk : 0 ≤ k) (ha2 : a < 2 ^ 64) (hs2 : s < 2 ^ 64) (hk2 : k < 2 ^ 64) (hb : ¬ (a + k ≤ w.length ∧ s + k ≤ w.length)) :
    (orc Go.Proofs.Try.prog KT K).call 24 [.pointer (some ⟨b, 0, none⟩), .int .u64 a, .pointer (some ⟨b, 0, none⟩), .int .u64 s, .int .u64 k] H = some (.int .i64 260, H) := by
  obtain ⟨K, rfl⟩ : ∃ j, K = j + 1 + 1 := ⟨K - 2, by omega⟩
  have hsh := h.short
  have i1 := fun H => in_spec (H := H) (K := K) (by omega) (n := w.length) (o := 0) ha (by omega) hk (by omega) ha2 (by omega) hk2
  have i2 := fun H => in_spec (H := H) (K := K) (by omega) (n := w.length) (o := 0) hs (by omega) hk (by omega) hs2 (by omega) hk2
  have c27 : (orc Go.Proofs.Try.prog KT (K + 1)).call 27 [.pointer (some ⟨b, 0, none⟩), .int .u64 a, .slice (some ⟨l, 0, none⟩) w.length c, .int .u64 s, .int .u64 k] H = some (.int .i64 260, H) := by
    rw [call27]
    by_cases h1 : a + k ≤ w.length
    · have e1 : decide (a + 0 + k ≤ (w.length : Int)) = true := by simp; omega
      have e2 : decide (s + 0 + k ≤ (w.length : Int)) = false := by simp; omega
      simp only [jn27, n27_1, n27_5, n27_8, n27_9, n27_7, n27_11, n27_14, n27_15, n27_13, n27_16, n27_12t, n27_12f, n27_10, n27_6t, n27_6f, n27_4, n27_3, n27_18, n27_20, n27_21, n27_19, n27_17, n27_2, n27_0, lk27, fin27_0, fin27_1, seqK_0, seqK_s, jnK_t, jnK_f, blkK_f0, blkK_t0, blkK_f1, blkK_t1, blkK_fx, blkK_tx, obs, List.set_cons_succ, List.set_cons_zero, Nat.reduceAdd, opK_go, v_ptr, v_nilC, v_field, mem_slice h, v_len, i1, i2, e1, e2, v_not, Bool.not_true, Bool.not_false, v_asB, cond_true, cond_false, setAll1]
    · have e1 : decide (a + 0 + k ≤ (w.length : Int)) = false := by simp; omega
      simp only [jn27, n27_1, n27_5, n27_8, n27_9, n27_7, n27_11, n27_14, n27_15, n27_13, n27_16, n27_12t, n27_12f, n27_10, n27_6t, n27_6f, n27_4, n27_3, n27_18, n27_20, n27_21, n27_19, n27_17, n27_2, n27_0, lk27, fin27_0, fin27_1, seqK_0, seqK_s, jnK_t, jnK_f, blkK_f0, blkK_t0, blkK_f1, blkK_t1, blkK_fx, blkK_tx, obs, List.set_cons_succ, List.set_cons_zero, Nat.reduceAdd, opK_go, v_ptr, v_nilC, v_field, mem_slice h, v_len, i1, i2, e1, v_not, Bool.not_true, Bool.not_false, v_asB, cond_true, cond_false, setAll1]
  rw [call24]
  simp only [jn24, n24_1, n24_4, n24_7, n24_8, n24_6, n24_9, n24_5t, n24_5f, n24_3, n24_11, n24_12, n24_10, n24_2, n24_0, lk24, fin24_0, fin24_1, seqK_0, seqK_s, jnK_t, jnK_f, blkK_f0, blkK_t0, blkK_f1, blkK_t1, blkK_fx, blkK_tx, obs, List.set_cons_succ, List.set_cons_zero, Nat.reduceAdd, opK_go, v_ptr, v_asB, cond_true, cond_false, setAll1, v_nilC, v_field, mem_slice h, c27]
theorem copy_ok (hK : 3 ≤ K) (h : Mem H b mn mx hm l c w) {a s k : Int} (ha : 0 ≤ a) (hs : 0 ≤ s) (hk : 0 ≤ k) (h1 : a + k ≤ w.length) (h2 : s + k ≤ w.length) :
    ∃ H', (orc Go.Proofs.Try.prog KT K).call 24 [.pointer (some ⟨b, 0, none⟩), .int .u64 a, .pointer (some ⟨b, 0, none⟩), .int .u64 s, .int .u64 k] H = some (.int .i64 0, H') ∧
      Mem H' b mn mx hm l c (spl w a.toNat ((w.drop s.toNat).take k.toNat)) ∧ Fx l H H' := by
  obtain ⟨K, rfl⟩ : ∃ j, K = j + 1 + 1 := ⟨K - 2, by omega⟩
  have hsh := h.short
  have i1 := fun H => in_spec (H := H) (K := K) (by omega) (n := w.length) (a := a) (o := 0) (k := k) ha (by omega) hk (by omega) (by omega) (by omega) (by omega)
  have i2 := fun H => in_spec (H := H) (K := K) (by omega) (n := w.length) (a := s) (o := 0) (k := k) hs (by omega) hk (by omega) (by omega) (by omega) (by omega)
  have e1 : decide (a + 0 + k ≤ (w.length : Int)) = true := by simp; omega
  have e2 : decide (s + 0 + k ≤ (w.length : Int)) = true := by simp; omega
  have u1 : IntKind.u64.wrap (a + k) = a + k := u_id (by omega) (by omega)
  have u2 : IntKind.u64.wrap (s + k) = s + k := u_id (by omega) (by omega)
  obtain ⟨o1, c1, s1, s1a, s1b⟩ := v_slice (l := l) (len := w.length) h.cap ha (show a ≤ a + k by omega) h1 .u64 .u64
  obtain ⟨o2, c2, s2, s2a, s2b⟩ := v_slice (l := l) (len := w.length) h.cap hs (show s ≤ s + k by omega) h2 .u64 .u64
  obtain ⟨H1, y1, y2, y3, y4⟩ := h_copy (c1 := c1) (c2 := c2) (o := o1) (o2 := o2) (m := (a + k).toNat - a.toNat) (k := (s + k).toNat - s.toNat) h.row h.row (by omega) (by omega) h.own
  have hmin : min ((s + k).toNat - s.toNat) ((a + k).toNat - a.toNat) = k.toNat := by omega
  rw [hmin] at y2
  have g : spl w o1 ((w.drop o2).take k.toNat) = spl w a.toNat ((w.drop s.toNat).take k.toNat) := by
    rcases Int.le_iff_lt_or_eq.1 hk with hp | hp
    · rw [s1a (by omega), s2a (by omega)]
    · rw [← hp]; simp [spl_nil]
  rw [g] at y2
  have c27 : (orc Go.Proofs.Try.prog KT (K + 1)).call 27 [.pointer (some ⟨b, 0, none⟩), .int .u64 a, .slice (some ⟨l, 0, none⟩) w.length c, .int .u64 s, .int .u64 k] H = some (.int .i64 0, H1) := by
    rw [call27]
    simp only [jn27, n27_1, n27_5, n27_8, n27_9, n27_7, n27_11, n27_14, n27_15, n27_13, n27_16, n27_12t, n27_12f, n27_10, n27_6t, n27_6f, n27_4, n27_3, n27_18, n27_20, n27_21, n27_19, n27_17, n27_2, n27_0, lk27, fin27_0, fin27_1, seqK_0, seqK_s, jnK_t, jnK_f, blkK_f0, blkK_t0, blkK_f1, blkK_t1, blkK_fx, blkK_tx, obs, List.set_cons_succ, List.set_cons_zero, Nat.reduceAdd, opK_go, v_ptr, v_nilC, v_field, mem_slice h, v_len, i1, i2, e1, e2, v_not, Bool.not_true, Bool.not_false, v_asB, cond_true, cond_false, setAll1, v_add, u1, u2, s1, s2, y1]
  refine ⟨H1, ?_, h.words y3 (spl_len (by simp; omega)) y2, y3⟩
  rw [call24]
  simp only [jn24, n24_1, n24_4, n24_7, n24_8, n24_6, n24_9, n24_5t, n24_5f, n24_3, n24_11, n24_12, n24_10, n24_2, n24_0, lk24, fin24_0, fin24_1, seqK_0, seqK_s, jnK_t, jnK_f, blkK_f0, blkK_t0, blkK_f1, blkK_t1, blkK_fx, blkK_tx, obs, List.set_cons_succ, List.set_cons_zero, Nat.reduceAdd, opK_go, v_ptr, v_asB, cond_true, cond_false, setAll1, v_nilC, v_field, mem_slice h, c27]
end
end Go.Cn
