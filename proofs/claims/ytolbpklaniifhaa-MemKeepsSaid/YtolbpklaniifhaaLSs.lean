/- A memory's functions, as the canonical run makes them: stores, copies, growth; the chapter's rows. -/
import Derived.Test.YtolbpklaniifhaaLSr
import Derived.Test.YtolbpklaniifhaaLFc
namespace Go.Cn
set_option linter.unusedVariables false
set_option linter.unusedSimpArgs false
set_option maxRecDepth 4000
section
variable {H : CH} {b : Nat} {mn mx : Int} {hm : Bool} {l c : Nat} {w : List Int} {K : Nat}
theorem v_fn (O : Orc) (f : FuncId) (h : okFn Go.Proofs.Try.prog f = true) (args : List Value) (H : CH) : callV Go.Proofs.Try.prog O (.func (.func f) #[] #[]) args H = O.call f args H := by
  simp only [callV, h, if_true]
  congr 1
  simp
theorem ok35 : okFn Go.Proofs.Try.prog 35 = true := by kernel_rfl
theorem v_head8 (p : Nat) {k : Int} (hk : Sz k) : ∃ c', sliceSl 1 (.slice (some ⟨p, 0, none⟩) 8 17) none (some (.int .i64 k)) none = some (.slice (some ⟨p, 0, none⟩) k.toNat c') :=
  v_head (l := p) (len := 8) (Cap.of 8) (by unfold Sz at hk; omega) (by unfold Sz at hk; omega) .i64
theorem store_nil (hK : 2 ≤ K) (a o k x : Value) : (orc Go.Proofs.Try.prog KT K).call 21 [.pointer none, a, o, k, x] H = some (.int .i64 1, H) := by
  obtain ⟨K, rfl⟩ : ∃ j, K = j + 1 := ⟨K - 1, by omega⟩
  have e : ((1 : Int) != 0) = true := rfl
  rw [call21]
  simp only [jn21, n21_1, n21_4, n21_6, n21_9, n21_10, n21_8, n21_11, n21_7t, n21_7f, n21_5, n21_3, n21_13, n21_15, n21_17, n21_18, n21_16, n21_14, n21_12, n21_2, n21_0, lk21, fin21_0, fin21_1, seqK_0, seqK_s, jnK_t, jnK_f, blkK_f0, blkK_t0, blkK_f1, blkK_t1, blkK_fx, blkK_tx, obs, List.set_cons_succ, List.set_cons_zero, Nat.reduceAdd, opK_go, load_nil (show 1 ≤ K by omega), v_ex0, v_ex1, v_neq, e]
theorem store_bad (hK : 3 ≤ K) (h : Mem H b mn mx hm l c w) {a o k : Int} (x : Value) (ha : 0 ≤ a) (ho : 0 ≤ o) (hk : Sz k) (ha2 : a < 2 ^ 64) (ho2 : o < 2 ^ 64) (hb : ¬ a + o + k ≤ w.length) :
    (orc Go.Proofs.Try.prog KT K).call 21 [.pointer (some ⟨b, 0, none⟩), .int .u64 a, .int .u64 o, .int .i64 k, x] H = some (.int .i64 260, H) := by
  obtain ⟨K, rfl⟩ : ∃ j, K = j + 1 := ⟨K - 1, by omega⟩
  have e : ((260 : Int) != 0) = true := rfl
  rw [call21]
  simp only [jn21, n21_1, n21_4, n21_6, n21_9, n21_10, n21_8, n21_11, n21_7t, n21_7f, n21_5, n21_3, n21_13, n21_15, n21_17, n21_18, n21_16, n21_14, n21_12, n21_2, n21_0, lk21, fin21_0, fin21_1, seqK_0, seqK_s, jnK_t, jnK_f, blkK_f0, blkK_t0, blkK_f1, blkK_t1, blkK_fx, blkK_tx, obs, List.set_cons_succ, List.set_cons_zero, Nat.reduceAdd, opK_go, load_bad (show 2 ≤ K by omega) h ha ho hk ha2 ho2 hb, v_ex0, v_ex1, v_neq, e]
theorem store_ok (hK : 30 ≤ K) (h : Mem H b mn mx hm l c w) {a o k : Int} (x : Int) (ha : 0 ≤ a) (ho : 0 ≤ o) (hk : Sz k) (hb : a + o + k ≤ w.length) :
    ∃ H', (orc Go.Proofs.Try.prog KT K).call 21 [.pointer (some ⟨b, 0, none⟩), .int .u64 a, .int .u64 o, .int .i64 k, .int .u64 x] H = some (.int .i64 0, H') ∧ Mem H' b mn mx hm l c (spl w (a + o).toNat ((rowB x 8).take k.toNat)) ∧ Fx l H H' := by
  obtain ⟨K, rfl⟩ : ∃ j, K = j + 1 := ⟨K - 1, by omega⟩
  have hsh := h.short
  have hk0 : 1 ≤ k ∧ k ≤ 8 := by unfold Sz at hk; omega
  have e : ((0 : Int) != 0) = false := rfl
  have ua : IntKind.u64.wrap (a + o) = a + o := u_id (by omega) (by omega)
  obtain ⟨H1, y1, f1⟩ := load_ok (K := K) (by omega) h ha ho hk hb
  have h1 := h.fxn f1
  obtain ⟨H2, r1, r2, r3, r4⟩ := row_spec (K := K) (by omega) h1.lim x
  have h2 := h1.fxn r3
  obtain ⟨o1, c1, s1, s1a, s1b, s1c⟩ := v_tail' (l := l) h.cap (lo := a + o) (by omega) (by omega) .u64
  obtain ⟨c2, s2⟩ := v_head8 H1.n hk
  have o1e := s1a (by omega)
  have rl : (rowB x 8).length = 8 := by simp [rowB]
  obtain ⟨H3, z1, z2, z3, z4⟩ := h_copy (c1 := c1) (c2 := c2) (o := o1) (o2 := 0) (m := w.length - (a + o).toNat) (k := k.toNat) h2.row r2 (by omega) (by omega) h2.own
  have hmin : min k.toNat (w.length - (a + o).toNat) = k.toNat := by omega
  rw [hmin, List.drop_zero, o1e] at z2
  refine ⟨H3, ?_, h2.words z3 (spl_len (by simp [rl]; omega)) z2, ((f1.to (m' := l) (Nat.le_refl _)).trans (r3.to (m' := l) (Nat.le_refl _))).trans z3⟩
  rw [call21]
  simp only [jn21, n21_1, n21_4, n21_6, n21_9, n21_10, n21_8, n21_11, n21_7t, n21_7f, n21_5, n21_3, n21_13, n21_15, n21_17, n21_18, n21_16, n21_14, n21_12, n21_2, n21_0, lk21, fin21_0, fin21_1, seqK_0, seqK_s, jnK_t, jnK_f, blkK_f0, blkK_t0, blkK_f1, blkK_t1, blkK_fx, blkK_tx, obs, List.set_cons_succ, List.set_cons_zero, Nat.reduceAdd, opK_go, y1, v_ex0, v_ex1, v_neq, e, v_ptr, v_nilC, v_field, mem_slice h1, mem_slice h2, v_add, ua, s1, v_fn _ _ ok35, r1, chk_self, s2, z1]
theorem clip_spec (hK : 1 ≤ K) {n : Nat} (hc : Cap c n) (hn : 0 < n) : (orc Go.Proofs.Try.prog KT K).call 38 [.slice (some ⟨l, 0, none⟩) n c] H = some (.slice (some ⟨l, 0, none⟩) n (2 * n + 1), H) := by
  obtain ⟨K, rfl⟩ : ∃ j, K = j + 1 := ⟨K - 1, by omega⟩
  have e : sliceSl 1 (.slice (some ⟨l, 0, none⟩) n c) none (some (.int .i64 n)) (some (.int .i64 n)) = some (.slice (some ⟨l, 0, none⟩) n (2 * n + 1)) := by
    simp only [sliceSl, cSliceSl, hiOf, loOf, asI, obs]
    rw [if_pos ⟨rfl, by omega, by omega, by omega, by unfold capTop; split <;> (rcases hc with ⟨_, _⟩ | rfl <;> omega)⟩]
    have : (if (n : Int) = 0 then (⟨l, 0, none⟩ : Addr) else addA ⟨l, 0, none⟩ ((0 : Int).toNat * 1)) = ⟨l, 0, none⟩ := by split <;> rfl
    rw [this]; rfl
  rw [call38]
  simp only [jn38, n38_1, n38_3, n38_4, n38_2, n38_0, lk38, fin38_0, fin38_1, seqK_0, seqK_s, jnK_t, jnK_f, blkK_f0, blkK_t0, blkK_f1, blkK_t1, blkK_fx, blkK_tx, obs, List.set_cons_succ, List.set_cons_zero, Nat.reduceAdd, opK_go, v_len, e]
theorem app_z {H : CH} {n m : Nat} (hl : H.get l = some (.cells (wc w) 5)) (hw : w.length = n) (hm0 : 0 < m) (hm : n + m ≤ 2 ^ 30) :
    appendZ 5 1 1 [.int .u8 0] (.slice (some ⟨l, 0, none⟩) n (2 * n + 1)) (.int .u64 m) H = some (.slice (some ⟨H.n, 0, none⟩) (n + m) 2, H.new (.cells (wc (w ++ List.replicate m 0)) 5)) := by
  have e2 : H.loadN ⟨l, 0, none⟩ (n * 1) = some (wc w) := by
    simp only [CH.loadN, hl]
    rw [if_pos ⟨trivial, by simp [hw]⟩]
    simp only [Nat.mul_one, List.drop_zero]
    rw [List.take_of_length_le (by simp [hw])]
  simp only [appendZ, Int.toNat_natCast]
  rw [if_pos ⟨by omega, by omega, by omega⟩, if_neg (by omega), if_pos ⟨by omega, by omega, by omega⟩, e2, obs, rep_wc]
  simp [wc]
theorem grow_bad (hK : 2 ≤ K) (h : Mem H b mn mx true l c w) {p : Int} (hp : 0 ≤ p) (hp2 : p ≤ 32) (hmx : mx < ((w.length / 65536 : Nat) : Int) + p) (hsum : ((w.length / 65536 : Nat) : Int) + p ≤ 32) :
    (orc Go.Proofs.Try.prog KT K).call 25 [.pointer (some ⟨b, 0, none⟩), .int .u64 p] H = some (.tuple ⟨[.int .u64 0, .bool false]⟩, H) := by
  obtain ⟨K, rfl⟩ : ∃ j, K = j + 1 := ⟨K - 1, by omega⟩
  have e1 : decide (p > 32) = false := by simp; omega
  have u1 : IntKind.u64.wrap (((w.length / 65536 : Nat) : Int) + p) = ((w.length / 65536 : Nat) : Int) + p := u_id (by omega) (by omega)
  have e2 : decide (((w.length / 65536 : Nat) : Int) + p > 32) = false := by simp; omega
  have e3 : decide (((w.length / 65536 : Nat) : Int) + p > mx) = true := by simp; omega
  have l1 : ld1 (.pointer (some ⟨b, 0 + 0 + 3, none⟩)) H = some (.bool true) := by rw [h_ld h.blk (by simp [lx])]; rfl
  have l2 : ld1 (.pointer (some ⟨b, 0 + 0 + 2, none⟩)) H = some (.int .u64 mx) := by rw [h_ld h.blk (by simp [lx])]; rfl
  rw [call25]
  simp only [jn25, n25_1, n25_4, n25_7, n25_8, n25_6, n25_9, n25_5t, n25_5f, n25_3, n25_11, n25_14, e25_16_0, e25_16_1, e25_16_2, e25_16_3, e25_16_4, n25_16, q25_16_0, q25_16_1f, q25_16_1t, q25_16_2f, q25_16_2t, q25_16_3ff, q25_16_3t, q25_16_3ft, q25_16_4f, q25_16_4t, g25_16, n25_19, n25_20, n25_18, n25_21, n25_17t, n25_17f, n25_15, n25_13, n25_23, n25_25, n25_26, n25_24, n25_22, n25_12, n25_10, n25_2, n25_0, lk25, fin25_0, fin25_1, seqK_0, seqK_s, jnK_t, jnK_f, blkK_f0, blkK_t0, blkK_f1, blkK_t1, blkK_fx, blkK_tx, obs, List.set_cons_succ, List.set_cons_zero, Nat.reduceAdd, opK_go, v_ptr, v_gtr, e1, v_asB, cond_true, cond_false, setAll1, size_spec (show 1 ≤ K by omega) h, v_add, u1, e2, v_nilC, v_field, l1, l2, e3]
theorem grow_ok (hK : 3 ≤ K) (h : Mem H b mn mx true l c w) {p : Nat} (hp : 0 < p) (hmx : ((w.length / 65536 : Nat) : Int) + p ≤ mx) (hsum : w.length / 65536 + p ≤ 32) (hw0 : 0 < w.length) (hw : w.length + p * 65536 ≤ 2097152) :
    ∃ H' l', (orc Go.Proofs.Try.prog KT K).call 25 [.pointer (some ⟨b, 0, none⟩), .int .u64 p] H = some (.tuple ⟨[.int .u64 ((w.length / 65536 : Nat) : Int), .bool true]⟩, H') ∧ Mem H' b mn mx true l' 2 (w ++ List.replicate (p * 65536) 0) ∧ Fx b H H' := by
  obtain ⟨K, rfl⟩ : ∃ j, K = j + 1 := ⟨K - 1, by omega⟩
  have e1 : decide ((p : Int) > 32) = false := by simp; omega
  have u1 : IntKind.u64.wrap (((w.length / 65536 : Nat) : Int) + p) = ((w.length / 65536 : Nat) : Int) + p := u_id (by omega) (by omega)
  have e2 : decide (((w.length / 65536 : Nat) : Int) + p > 32) = false := by simp; omega
  have e3 : decide (((w.length / 65536 : Nat) : Int) + p > mx) = false := by simp; omega
  have l1 : ld1 (.pointer (some ⟨b, 0 + 0 + 3, none⟩)) H = some (.bool true) := by rw [h_ld h.blk (by simp [lx])]; rfl
  have l2 : ld1 (.pointer (some ⟨b, 0 + 0 + 2, none⟩)) H = some (.int .u64 mx) := by rw [h_ld h.blk (by simp [lx])]; rfl
  have u2 : IntKind.u64.wrap ((p : Int) * 65536) = ((p * 65536 : Nat) : Int) := by rw [u_id (by omega) (by omega)]; omega
  have ap := app_z (H := H) (n := w.length) (m := p * 65536) h.row rfl (by omega) (by omega)
  obtain ⟨H1, eH1⟩ : ∃ X, X = H.new (.cells (wc (w ++ List.replicate (p * 65536) 0)) 5) := ⟨_, rfl⟩
  rw [← eH1] at ap
  have f1 : Fx H.n H H1 := by rw [eH1]; exact Fx.new _ _ _
  have hb1 : H1.get b = some (.cells (lx mn mx true ++ [.slice (some ⟨l, 0, none⟩) w.length c]) 79) := (f1.get b h.bn (by have := h.bn; omega)).trans h.blk
  have n1 : H1.n = H.n + 1 := by rw [eH1]; rfl
  obtain ⟨H2, eH2⟩ : ∃ X, X = H1.put b (some (.cells (lx mn mx true ++ [.slice (some ⟨H.n, 0, none⟩) (w.length + p * 65536) 2]) 79)) := ⟨_, rfl⟩
  have st : stN 1 (.pointer (some ⟨b, 0 + 4, none⟩)) (.slice (some ⟨H.n, 0, none⟩) (w.length + p * 65536) 2) H1 = some H2 := by
    rw [eH2]
    exact h_stv rfl rfl hb1 (by simp [lx]) (by rw [f1.lim]; exact h.ownb)
  have f2 : Fx b H1 H2 := by rw [eH2]; exact Fx.put _ _ _
  have hn := h.bn
  refine ⟨H2, H.n, ?_, ?_, (f1.to (Nat.le_refl _)).trans f2⟩
  · rw [call25]
    simp only [jn25, n25_1, n25_4, n25_7, n25_8, n25_6, n25_9, n25_5t, n25_5f, n25_3, n25_11, n25_14, e25_16_0, e25_16_1, e25_16_2, e25_16_3, e25_16_4, n25_16, q25_16_0, q25_16_1f, q25_16_1t, q25_16_2f, q25_16_2t, q25_16_3ff, q25_16_3t, q25_16_3ft, q25_16_4f, q25_16_4t, g25_16, n25_19, n25_20, n25_18, n25_21, n25_17t, n25_17f, n25_15, n25_13, n25_23, n25_25, n25_26, n25_24, n25_22, n25_12, n25_10, n25_2, n25_0, lk25, fin25_0, fin25_1, seqK_0, seqK_s, jnK_t, jnK_f, blkK_f0, blkK_t0, blkK_f1, blkK_t1, blkK_fx, blkK_tx, obs, List.set_cons_succ, List.set_cons_zero, Nat.reduceAdd, opK_go, v_ptr, v_gtr, e1, v_asB, cond_true, cond_false, setAll1, size_spec (show 1 ≤ K by omega) h, v_add, u1, e2, v_nilC, v_field, l1, l2, e3, mem_slice h, clip_spec (show 1 ≤ K by omega) h.cap hw0, v_mul, u2, ap, st, Option.map_some]
  · refine ⟨?_, ?_, by rw [f2.lim, f1.lim]; exact h.lim, by rw [f2.lim, f1.lim]; exact h.ownb, by simp; omega, .inr rfl, by rw [eH2]; show b < H1.n; omega, by rw [eH2]; show H.n < H1.n; omega, by omega⟩
    · rw [eH2, CH.get_put]; simp
    · rw [eH2, CH.get_put_ne _ _ _ _ (by omega), eH1]; exact CH.get_new _ _
theorem rep0_spec (hK : 1 ≤ K) (x : Value) : (orc Go.Proofs.Try.prog KT K).call 39 [x, .int .i64 0] H = some (.slice (some ⟨H.n, 0, none⟩) 0 1, H.new (.cells [] 5)) := by
  obtain ⟨K, rfl⟩ : ∃ j, K = j + 1 := ⟨K - 1, by omega⟩
  have e : ((0 : Int) == 0) = true := rfl
  rw [call39]
  simp only [jn39, n39_1, n39_4, n39_7, n39_8, n39_6, n39_9, n39_5t, n39_5f, n39_3, n39_12, n39_15, n39_13t, n39_13f, n39_11, n39_17, n39_20, n39_23, n39_21t, n39_21f, n39_19, n39_25, n39_28, n39_31, n39_32, n39_30, n39_33, n39_29t, n39_29f, n39_27, n39_35, n39_38, n39_41, n39_43, n39_45, n39_46, n39_44t, n39_44f, n39_42, n39_40, n39_47, n39_39t, n39_39f, n39_37, n39_51, n39_57, n39_59, n39_60, n39_58t, n39_58f, n39_56, n39_63, n39_64, n39_62, n39_61, n39_55, n39_54, it39_54, ix39_54, n39_53, n39_66, n39_67, n39_65, n39_52, n39_50, n39_48, n39_36, n39_34, n39_26, n39_24, n39_18, n39_16, n39_10, n39_2, n39_0, lk39, fin39_0, fin39_1, seqK_0, seqK_s, jnK_t, jnK_f, blkK_f0, blkK_t0, blkK_f1, blkK_t1, blkK_fx, blkK_tx, obs, List.set_cons_succ, List.set_cons_zero, Nat.reduceAdd, opK_go, v_eql, e, v_b0]
theorem fill0_spec (hK : 2 ≤ K) (h : Mem H b mn mx hm l c w) {a : Int} (x : Int) (ha : 0 ≤ a) (ha2 : a ≤ w.length) :
    ∃ H', (orc Go.Proofs.Try.prog KT K).call 26 [.pointer (some ⟨b, 0, none⟩), .int .u64 a, .int .u8 x, .int .u64 0] H = some (.int .i64 0, H') ∧ Fx H.n H H' := by
  obtain ⟨K, rfl⟩ : ∃ j, K = j + 1 := ⟨K - 1, by omega⟩
  have hsh := h.short
  have i1 := fun H => in_spec (H := H) (K := K) (by omega) (n := w.length) (a := a) (o := 0) (k := 0) ha (by omega) (by omega) (by omega) (by omega) (by omega) (by omega)
  have e1 : decide (a + 0 + 0 ≤ (w.length : Int)) = true := by simp; omega
  have i0 : IntKind.i64.wrap 0 = 0 := by decide
  obtain ⟨o1, c1, s1, s1a, s1b, s1c⟩ := v_tail' (l := l) h.cap (lo := a) ha ha2 .u64
  obtain ⟨H1, eH1⟩ : ∃ X, X = H.new (.cells [.int .u8 x] 5) := ⟨_, rfl⟩
  obtain ⟨H2, eH2⟩ : ∃ X, X = H1.new (.cells [] 5) := ⟨_, rfl⟩
  have f1 : Fx H.n H H1 := by rw [eH1]; exact Fx.new _ _ _
  have f2 : Fx H1.n H1 H2 := by rw [eH2]; exact Fx.new _ _ _
  have h1 := h.fxn f1
  have h2 := h1.fxn f2
  have cp : copyN 1 (.slice (some ⟨l, o1, none⟩) (w.length - a.toNat) c1) (.slice (some ⟨H1.n, 0, none⟩) 0 1) H2 = some (.int .i64 0, H2) := by
    have e0 : H2.loadN ⟨H1.n, 0, none⟩ (0 * 1) = some [] := by
      rw [eH2]
      simp only [CH.loadN, CH.get_new]
      rw [if_pos ⟨trivial, by simp⟩]; rfl
    simp only [copyN, srcCells, e0, Option.map_some, obs]
    simp
    rfl
  refine ⟨H2, ?_, f1.later f2 f1.n⟩
  rw [call26]
  simp only [jn26, n26_1, n26_5, n26_8, n26_9, n26_7, n26_11, n26_14, n26_15, n26_13, n26_16, n26_12t, n26_12f, n26_10, n26_6t, n26_6f, n26_4, n26_3, n26_18, n26_20, n26_21, n26_19, n26_17, n26_2, n26_0, lk26, fin26_0, fin26_1, seqK_0, seqK_s, jnK_t, jnK_f, blkK_f0, blkK_t0, blkK_f1, blkK_t1, blkK_fx, blkK_tx, obs, List.set_cons_succ, List.set_cons_zero, Nat.reduceAdd, opK_go, v_ptr, v_nilC, v_field, mem_slice h, v_len, i1, e1, v_not, Bool.not_true, s1, v_b1, eH1.symm, mem_slice h1, chk_self, v_conv, i0, rep0_spec (show 1 ≤ K by omega), eH2.symm, mem_slice h2, cp]
end
end Go.Cn
