/- A memory's functions, as the canonical run makes them: loads, stores, rows, and growth. -/
import Derived.Test.YtolbpklaniifhaaLSq
namespace Go.Cn
set_option linter.unusedVariables false
set_option linter.unusedSimpArgs false
set_option maxRecDepth 4000
section
variable {H : CH} {b : Nat} {mn mx : Int} {hm : Bool} {l c : Nat} {w : List Int} {K : Nat}
/-- So many bytes. -/
def Sz (n : Int) : Prop := n = 1 ∨ n = 2 ∨ n = 4 ∨ n = 8
theorem v_arr (x : Nat) : sliceArr 1 8 (.pointer (some ⟨x, 0, none⟩)) none none none = some (.slice (some ⟨x, 0, none⟩) 8 17) := rfl
theorem v_head' {l o len c : Nat} (hc : Cap c len) {hi : Int} (h0 : 0 ≤ hi) (h1 : hi ≤ len) (k : IntKind) :
    ∃ c', sliceSl 1 (.slice (some ⟨l, o, none⟩) len c) none (some (.int k hi)) none = some (.slice (some ⟨l, o, none⟩) hi.toNat c') := by
  simp only [sliceSl, cSliceSl, hiOf, loOf, asI, obs]
  rcases hc with ⟨hc1, hc2⟩ | rfl
  · rw [if_pos (by omega), if_pos ⟨by omega, h0, by omega⟩]
    have e : (if c / 2 = (0 : Int).toNat then (⟨l, o, none⟩ : Addr) else addA ⟨l, o, none⟩ ((0 : Int).toNat * 1)) = ⟨l, o, none⟩ := by split <;> rfl
    rw [e]
    exact ⟨_, rfl⟩
  · rw [if_neg (by omega), if_pos ⟨rfl, by omega, h0, by omega⟩]
    exact ⟨_, rfl⟩
theorem v_tail' {l len c : Nat} (hc : Cap c len) {lo : Int} (h0 : 0 ≤ lo) (h1 : lo ≤ len) (k : IntKind) :
    ∃ o c', sliceSl 1 (.slice (some ⟨l, 0, none⟩) len c) (some (.int k lo)) none none = some (.slice (some ⟨l, o, none⟩) (len - lo.toNat) c') ∧ (lo < len → o = lo.toNat) ∧ o ≤ lo.toNat ∧ Cap c' (len - lo.toNat) := by
  simp only [sliceSl, cSliceSl, hiOf, loOf, asI, obs]
  rcases hc with ⟨hc1, hc2⟩ | rfl
  · rw [if_pos (by omega), if_pos ⟨h0, h1, by omega⟩]
    by_cases he : c / 2 = lo.toNat
    · rw [if_pos he]; exact ⟨_, _, rfl, fun h => by omega, by omega, .inl ⟨by omega, by omega⟩⟩
    · rw [if_neg he]; exact ⟨_, _, rfl, fun h => by simp, by simp, .inl ⟨by omega, by omega⟩⟩
  · rw [if_neg (by omega), if_pos ⟨rfl, h0, h1, by omega⟩]
    exact ⟨_, _, rfl, fun h => by simp, by simp, .inr rfl⟩
theorem load_nil (hK : 1 ≤ K) (a o k : Value) : (orc Go.Proofs.Try.prog KT K).call 23 [.pointer none, a, o, k] H = some (.tuple ⟨[.int .u64 0, .int .i64 1]⟩, H) := by
  obtain ⟨K, rfl⟩ : ∃ j, K = j + 1 := ⟨K - 1, by omega⟩
  rw [call23]
  simp only [jn23, n23_1, n23_5, n23_8, n23_9, n23_7, e23_11_0, e23_11_1, e23_11_2, e23_11_3, e23_11_4, e23_11_5, e23_11_6, e23_11_7, e23_11_8, e23_11_9, n23_11, q23_11_0, q23_11_1f, q23_11_1t, q23_11_2f, q23_11_2t, q23_11_3, q23_11_4f, q23_11_4t, q23_11_5f, q23_11_5t, q23_11_6, q23_11_7f, q23_11_7t, q23_11_8f, q23_11_8t, q23_11_9, g23_11, n23_14, n23_15, n23_13, n23_17, n23_20, n23_21, n23_19, n23_22, n23_18t, n23_18f, n23_16, n23_12t, n23_12f, n23_10, n23_6t, n23_6f, n23_4, n23_3, n23_24, n23_26, n23_28, n23_31, n23_35, n23_38, n23_39, n23_37t, n23_37f, n23_43, n23_44, n23_42, n23_41, n23_45, n23_40, n23_36, n23_34, n23_33, it23_33, ix23_33, n23_32, n23_30, n23_47, n23_48, n23_46, n23_29, n23_27, n23_25, n23_23, n23_2, n23_0, lk23, fin23_0, fin23_1, seqK_0, seqK_s, jnK_t, jnK_f, blkK_f0, blkK_t0, blkK_f1, blkK_t1, blkK_fx, blkK_tx, obs, List.set_cons_succ, List.set_cons_zero, Nat.reduceAdd, opK_go, v_pn]
/-- The bytes that a load takes, and zeros behind them. -/
def pad (s : List Int) : List Int := spl [0, 0, 0, 0, 0, 0, 0, 0] 0 s
theorem load_bad (hK : 2 ≤ K) (h : Mem H b mn mx hm l c w) {a o k : Int} (ha : 0 ≤ a) (ho : 0 ≤ o) (hk : Sz k) (ha2 : a < 2 ^ 64) (ho2 : o < 2 ^ 64) (hb : ¬ a + o + k ≤ w.length) :
    (orc Go.Proofs.Try.prog KT K).call 23 [.pointer (some ⟨b, 0, none⟩), .int .u64 a, .int .u64 o, .int .i64 k] H = some (.tuple ⟨[.int .u64 0, .int .i64 260]⟩, H) := by
  obtain ⟨K, rfl⟩ : ∃ j, K = j + 1 := ⟨K - 1, by omega⟩
  have hsh := h.short
  have hk0 : 0 ≤ k ∧ k ≤ 8 := by unfold Sz at hk; omega
  have uk : IntKind.u64.wrap k = k := u_id (by omega) (by omega)
  have i1 := in_spec (H := H) (K := K) (by omega) (n := w.length) ha ho hk0.1 (by omega) ha2 ho2 (by omega)
  have e1 : decide (a + o + k ≤ (w.length : Int)) = false := by simp; omega
  rw [call23]
  rcases hk with rfl | rfl | rfl | rfl
  · have f1 : ((1 : Int) != 1) = false := rfl
    simp only [jn23, n23_1, n23_5, n23_8, n23_9, n23_7, e23_11_0, e23_11_1, e23_11_2, e23_11_3, e23_11_4, e23_11_5, e23_11_6, e23_11_7, e23_11_8, e23_11_9, n23_11, q23_11_0, q23_11_1f, q23_11_1t, q23_11_2f, q23_11_2t, q23_11_3, q23_11_4f, q23_11_4t, q23_11_5f, q23_11_5t, q23_11_6, q23_11_7f, q23_11_7t, q23_11_8f, q23_11_8t, q23_11_9, g23_11, n23_14, n23_15, n23_13, n23_17, n23_20, n23_21, n23_19, n23_22, n23_18t, n23_18f, n23_16, n23_12t, n23_12f, n23_10, n23_6t, n23_6f, n23_4, n23_3, n23_24, n23_26, n23_28, n23_31, n23_35, n23_38, n23_39, n23_37t, n23_37f, n23_43, n23_44, n23_42, n23_41, n23_45, n23_40, n23_36, n23_34, n23_33, it23_33, ix23_33, n23_32, n23_30, n23_47, n23_48, n23_46, n23_29, n23_27, n23_25, n23_23, n23_2, n23_0, lk23, fin23_0, fin23_1, seqK_0, seqK_s, jnK_t, jnK_f, blkK_f0, blkK_t0, blkK_f1, blkK_t1, blkK_fx, blkK_tx, obs, List.set_cons_succ, List.set_cons_zero, Nat.reduceAdd, opK_go, v_ptr, v_neq, f1, v_nilC, v_field, mem_slice h, v_len, v_conv, uk, i1, e1, v_not, Bool.not_false]
  · have f1 : ((2 : Int) != 1) = true := rfl
    have f2 : ((2 : Int) != 2) = false := rfl
    simp only [jn23, n23_1, n23_5, n23_8, n23_9, n23_7, e23_11_0, e23_11_1, e23_11_2, e23_11_3, e23_11_4, e23_11_5, e23_11_6, e23_11_7, e23_11_8, e23_11_9, n23_11, q23_11_0, q23_11_1f, q23_11_1t, q23_11_2f, q23_11_2t, q23_11_3, q23_11_4f, q23_11_4t, q23_11_5f, q23_11_5t, q23_11_6, q23_11_7f, q23_11_7t, q23_11_8f, q23_11_8t, q23_11_9, g23_11, n23_14, n23_15, n23_13, n23_17, n23_20, n23_21, n23_19, n23_22, n23_18t, n23_18f, n23_16, n23_12t, n23_12f, n23_10, n23_6t, n23_6f, n23_4, n23_3, n23_24, n23_26, n23_28, n23_31, n23_35, n23_38, n23_39, n23_37t, n23_37f, n23_43, n23_44, n23_42, n23_41, n23_45, n23_40, n23_36, n23_34, n23_33, it23_33, ix23_33, n23_32, n23_30, n23_47, n23_48, n23_46, n23_29, n23_27, n23_25, n23_23, n23_2, n23_0, lk23, fin23_0, fin23_1, seqK_0, seqK_s, jnK_t, jnK_f, blkK_f0, blkK_t0, blkK_f1, blkK_t1, blkK_fx, blkK_tx, obs, List.set_cons_succ, List.set_cons_zero, Nat.reduceAdd, opK_go, v_ptr, v_neq, f1, f2, v_nilC, v_field, mem_slice h, v_len, v_conv, uk, i1, e1, v_not, Bool.not_false]
  · have f1 : ((4 : Int) != 1) = true := rfl
    have f2 : ((4 : Int) != 2) = true := rfl
    have f3 : ((4 : Int) != 4) = false := rfl
    simp only [jn23, n23_1, n23_5, n23_8, n23_9, n23_7, e23_11_0, e23_11_1, e23_11_2, e23_11_3, e23_11_4, e23_11_5, e23_11_6, e23_11_7, e23_11_8, e23_11_9, n23_11, q23_11_0, q23_11_1f, q23_11_1t, q23_11_2f, q23_11_2t, q23_11_3, q23_11_4f, q23_11_4t, q23_11_5f, q23_11_5t, q23_11_6, q23_11_7f, q23_11_7t, q23_11_8f, q23_11_8t, q23_11_9, g23_11, n23_14, n23_15, n23_13, n23_17, n23_20, n23_21, n23_19, n23_22, n23_18t, n23_18f, n23_16, n23_12t, n23_12f, n23_10, n23_6t, n23_6f, n23_4, n23_3, n23_24, n23_26, n23_28, n23_31, n23_35, n23_38, n23_39, n23_37t, n23_37f, n23_43, n23_44, n23_42, n23_41, n23_45, n23_40, n23_36, n23_34, n23_33, it23_33, ix23_33, n23_32, n23_30, n23_47, n23_48, n23_46, n23_29, n23_27, n23_25, n23_23, n23_2, n23_0, lk23, fin23_0, fin23_1, seqK_0, seqK_s, jnK_t, jnK_f, blkK_f0, blkK_t0, blkK_f1, blkK_t1, blkK_fx, blkK_tx, obs, List.set_cons_succ, List.set_cons_zero, Nat.reduceAdd, opK_go, v_ptr, v_neq, f1, f2, f3, v_nilC, v_field, mem_slice h, v_len, v_conv, uk, i1, e1, v_not, Bool.not_false]
  · have f1 : ((8 : Int) != 1) = true := rfl
    have f2 : ((8 : Int) != 2) = true := rfl
    have f3 : ((8 : Int) != 4) = true := rfl
    have f4 : ((8 : Int) != 8) = false := rfl
    simp only [jn23, n23_1, n23_5, n23_8, n23_9, n23_7, e23_11_0, e23_11_1, e23_11_2, e23_11_3, e23_11_4, e23_11_5, e23_11_6, e23_11_7, e23_11_8, e23_11_9, n23_11, q23_11_0, q23_11_1f, q23_11_1t, q23_11_2f, q23_11_2t, q23_11_3, q23_11_4f, q23_11_4t, q23_11_5f, q23_11_5t, q23_11_6, q23_11_7f, q23_11_7t, q23_11_8f, q23_11_8t, q23_11_9, g23_11, n23_14, n23_15, n23_13, n23_17, n23_20, n23_21, n23_19, n23_22, n23_18t, n23_18f, n23_16, n23_12t, n23_12f, n23_10, n23_6t, n23_6f, n23_4, n23_3, n23_24, n23_26, n23_28, n23_31, n23_35, n23_38, n23_39, n23_37t, n23_37f, n23_43, n23_44, n23_42, n23_41, n23_45, n23_40, n23_36, n23_34, n23_33, it23_33, ix23_33, n23_32, n23_30, n23_47, n23_48, n23_46, n23_29, n23_27, n23_25, n23_23, n23_2, n23_0, lk23, fin23_0, fin23_1, seqK_0, seqK_s, jnK_t, jnK_f, blkK_f0, blkK_t0, blkK_f1, blkK_t1, blkK_fx, blkK_tx, obs, List.set_cons_succ, List.set_cons_zero, Nat.reduceAdd, opK_go, v_ptr, v_neq, f1, f2, f3, f4, v_nilC, v_field, mem_slice h, v_len, v_conv, uk, i1, e1, v_not, Bool.not_false]
theorem load_ok (hK : 20 ≤ K) (h : Mem H b mn mx hm l c w) {a o k : Int} (ha : 0 ≤ a) (ho : 0 ≤ o) (hk : Sz k) (hb : a + o + k ≤ w.length) :
    ∃ H', (orc Go.Proofs.Try.prog KT K).call 23 [.pointer (some ⟨b, 0, none⟩), .int .u64 a, .int .u64 o, .int .i64 k] H = some (.tuple ⟨[.int .u64 (accB (pad ((w.drop (a + o).toNat).take k.toNat)) 8), .int .i64 0]⟩, H') ∧ Fx H.n H H' := by
  obtain ⟨K, rfl⟩ : ∃ j, K = j + 1 := ⟨K - 1, by omega⟩
  have hsh := h.short
  have hk0 : 1 ≤ k ∧ k ≤ 8 := by unfold Sz at hk; omega
  have uk : IntKind.u64.wrap k = k := u_id (by omega) (by omega)
  have i1 := fun H => in_spec (H := H) (K := K) (by omega) (n := w.length) (k := k) ha ho (by omega) (by omega) (by omega) (by omega) (by omega)
  have e1 : decide (a + o + k ≤ (w.length : Int)) = true := by simp [hb]
  have ua : IntKind.u64.wrap (a + o) = a + o := u_id (by omega) (by omega)
  obtain ⟨H1, eH⟩ : ∃ X, X = H.new (.cells [.int .u8 0, .int .u8 0, .int .u8 0, .int .u8 0, .int .u8 0, .int .u8 0, .int .u8 0, .int .u8 0] 85) := ⟨_, rfl⟩
  have f1 : Fx H.n H H1 := by rw [eH]; exact Fx.new _ _ _
  have h1 : Mem H1 b mn mx hm l c w := h.fxn f1
  have g1 : H1.get H.n = some (.cells (wc [0, 0, 0, 0, 0, 0, 0, 0]) 85) := by rw [eH]; exact CH.get_new _ _
  obtain ⟨o1, c1, s1, s1a, s1b, s1c⟩ := v_tail' (l := l) h.cap (lo := a + o) (by omega) (by omega) .u64
  obtain ⟨c2, s2⟩ := v_head' (l := l) (o := o1) s1c (hi := k) (by omega) (by omega) .i64
  have o1e := s1a (by omega)
  have e0 : H1.loadN ⟨l, o1, none⟩ (k.toNat * 1) = some (wc ((w.drop o1).take k.toNat)) := by
    simp only [CH.loadN, h1.row]
    rw [if_pos ⟨trivial, by simp; omega⟩, Nat.mul_one, wc_seg]
  have sgl : ((w.drop o1).take k.toNat).length = k.toNat := by simp; omega
  have mink : min k.toNat 8 = k.toNat := by omega
  obtain ⟨H2, eH2⟩ : ∃ X, X = H1.put H.n (some (.cells (wc (pad ((w.drop o1).take k.toNat))) 85)) := ⟨_, rfl⟩
  have cp : copyN 1 (.slice (some ⟨H.n, 0, none⟩) 8 17) (.slice (some ⟨l, o1, none⟩) k.toNat c2) H1 = some (.int .i64 (k.toNat : Nat), H2) := by
    have t1 : (wc ((w.drop o1).take k.toNat)).take (k.toNat * 1) = wc ((w.drop o1).take k.toNat) := List.take_of_length_le (by simp; omega)
    simp only [copyN, srcCells, e0, Option.map_some, obs, mink, t1, wc_cell, if_true]
    rw [if_neg (by omega)]
    simp only [CH.storeN, g1]
    rw [if_pos ⟨trivial, by simp only [wc_len, sgl]; simp; omega, by rw [f1.lim]; exact h.lim⟩, eH2, wc_splice]
    rfl
  have g2 : H2.get H.n = some (.cells (wc (pad ((w.drop o1).take k.toNat))) 85) := by rw [eH2]; exact CH.get_put _ _ _
  have f2 : Fx H.n H1 H2 := by rw [eH2]; exact Fx.put _ _ _
  have pl : (pad ((w.drop o1).take k.toNat)).length = 8 := by unfold pad; rw [spl_len (by simp; omega)]; rfl
  have ldv : ldN 8 (.pointer (some ⟨H.n, 0, none⟩)) H2 = some (.agg ⟨wc (pad ((w.drop o1).take k.toNat))⟩) := by
    simp only [ldN, asP, obs, CH.loadN, g2]
    rw [if_pos ⟨trivial, by simp [pl]⟩, List.drop_zero, List.take_of_length_le (by simp [pl])]; rfl
  have lp := fun t0 t1 t2 t3 t8 t9 t10 t12 t13 => load_loop (H := H2) _ pl t0 t1 t2 t3 t8 t9 t10 [] 8 K 0 t12 t13 (by omega) (by omega) (by omega)
  have z0 : ((0 : Nat) : Int) = 0 := rfl
  simp only [z0, show accB (pad ((w.drop o1).take k.toNat)) 0 = 0 from rfl] at lp
  obtain ⟨x, y, lp⟩ := lp (.pointer (some ⟨b, 0, none⟩)) (.int .u64 a) (.int .u64 o) (.int .i64 k) (.int .u64 0) (.int .i64 0) (.pointer (some ⟨H.n, 0, none⟩)) undef undef
  rw [← o1e]
  refine ⟨H2, ?_, f1.trans f2⟩
  rw [call23]
  rcases hk with rfl | rfl | rfl | rfl
  · have q1 : ((1 : Int) != 1) = false := rfl
    simp only [jn23, n23_1, n23_5, n23_8, n23_9, n23_7, e23_11_0, e23_11_1, e23_11_2, e23_11_3, e23_11_4, e23_11_5, e23_11_6, e23_11_7, e23_11_8, e23_11_9, n23_11, q23_11_0, q23_11_1f, q23_11_1t, q23_11_2f, q23_11_2t, q23_11_3, q23_11_4f, q23_11_4t, q23_11_5f, q23_11_5t, q23_11_6, q23_11_7f, q23_11_7t, q23_11_8f, q23_11_8t, q23_11_9, g23_11, n23_14, n23_15, n23_13, n23_17, n23_20, n23_21, n23_19, n23_22, n23_18t, n23_18f, n23_16, n23_12t, n23_12f, n23_10, n23_6t, n23_6f, n23_4, n23_3, n23_24, n23_26, n23_28, n23_31, n23_35, n23_38, n23_39, n23_37t, n23_37f, n23_43, n23_44, n23_42, n23_41, n23_45, n23_40, n23_36, n23_34, n23_33, it23_33, ix23_33, n23_32, n23_30, n23_47, n23_48, n23_46, n23_29, n23_27, n23_25, n23_23, n23_2, n23_0, lk23, fin23_0, fin23_1, seqK_0, seqK_s, jnK_t, jnK_f, blkK_f0, blkK_t0, blkK_f1, blkK_t1, blkK_fx, blkK_tx, obs, List.set_cons_succ, List.set_cons_zero, Nat.reduceAdd, opK_go, v_ptr, v_neq, q1, v_nilC, v_field, mem_slice h, mem_slice h1, v_len, v_conv, uk, i1, e1, v_not, Bool.not_true, eH.symm, v_arr, v_add, ua, s1, s2, cp, ldv, lp]
  · have q1 : ((2 : Int) != 1) = true := rfl
    have q2 : ((2 : Int) != 2) = false := rfl
    simp only [jn23, n23_1, n23_5, n23_8, n23_9, n23_7, e23_11_0, e23_11_1, e23_11_2, e23_11_3, e23_11_4, e23_11_5, e23_11_6, e23_11_7, e23_11_8, e23_11_9, n23_11, q23_11_0, q23_11_1f, q23_11_1t, q23_11_2f, q23_11_2t, q23_11_3, q23_11_4f, q23_11_4t, q23_11_5f, q23_11_5t, q23_11_6, q23_11_7f, q23_11_7t, q23_11_8f, q23_11_8t, q23_11_9, g23_11, n23_14, n23_15, n23_13, n23_17, n23_20, n23_21, n23_19, n23_22, n23_18t, n23_18f, n23_16, n23_12t, n23_12f, n23_10, n23_6t, n23_6f, n23_4, n23_3, n23_24, n23_26, n23_28, n23_31, n23_35, n23_38, n23_39, n23_37t, n23_37f, n23_43, n23_44, n23_42, n23_41, n23_45, n23_40, n23_36, n23_34, n23_33, it23_33, ix23_33, n23_32, n23_30, n23_47, n23_48, n23_46, n23_29, n23_27, n23_25, n23_23, n23_2, n23_0, lk23, fin23_0, fin23_1, seqK_0, seqK_s, jnK_t, jnK_f, blkK_f0, blkK_t0, blkK_f1, blkK_t1, blkK_fx, blkK_tx, obs, List.set_cons_succ, List.set_cons_zero, Nat.reduceAdd, opK_go, v_ptr, v_neq, q1, q2, v_nilC, v_field, mem_slice h, mem_slice h1, v_len, v_conv, uk, i1, e1, v_not, Bool.not_true, eH.symm, v_arr, v_add, ua, s1, s2, cp, ldv, lp]
  · have q1 : ((4 : Int) != 1) = true := rfl
    have q2 : ((4 : Int) != 2) = true := rfl
    have q3 : ((4 : Int) != 4) = false := rfl
    simp only [jn23, n23_1, n23_5, n23_8, n23_9, n23_7, e23_11_0, e23_11_1, e23_11_2, e23_11_3, e23_11_4, e23_11_5, e23_11_6, e23_11_7, e23_11_8, e23_11_9, n23_11, q23_11_0, q23_11_1f, q23_11_1t, q23_11_2f, q23_11_2t, q23_11_3, q23_11_4f, q23_11_4t, q23_11_5f, q23_11_5t, q23_11_6, q23_11_7f, q23_11_7t, q23_11_8f, q23_11_8t, q23_11_9, g23_11, n23_14, n23_15, n23_13, n23_17, n23_20, n23_21, n23_19, n23_22, n23_18t, n23_18f, n23_16, n23_12t, n23_12f, n23_10, n23_6t, n23_6f, n23_4, n23_3, n23_24, n23_26, n23_28, n23_31, n23_35, n23_38, n23_39, n23_37t, n23_37f, n23_43, n23_44, n23_42, n23_41, n23_45, n23_40, n23_36, n23_34, n23_33, it23_33, ix23_33, n23_32, n23_30, n23_47, n23_48, n23_46, n23_29, n23_27, n23_25, n23_23, n23_2, n23_0, lk23, fin23_0, fin23_1, seqK_0, seqK_s, jnK_t, jnK_f, blkK_f0, blkK_t0, blkK_f1, blkK_t1, blkK_fx, blkK_tx, obs, List.set_cons_succ, List.set_cons_zero, Nat.reduceAdd, opK_go, v_ptr, v_neq, q1, q2, q3, v_nilC, v_field, mem_slice h, mem_slice h1, v_len, v_conv, uk, i1, e1, v_not, Bool.not_true, eH.symm, v_arr, v_add, ua, s1, s2, cp, ldv, lp]
  · have q1 : ((8 : Int) != 1) = true := rfl
    have q2 : ((8 : Int) != 2) = true := rfl
    have q3 : ((8 : Int) != 4) = true := rfl
    have q4 : ((8 : Int) != 8) = false := rfl
    simp only [jn23, n23_1, n23_5, n23_8, n23_9, n23_7, e23_11_0, e23_11_1, e23_11_2, e23_11_3, e23_11_4, e23_11_5, e23_11_6, e23_11_7, e23_11_8, e23_11_9, n23_11, q23_11_0, q23_11_1f, q23_11_1t, q23_11_2f, q23_11_2t, q23_11_3, q23_11_4f, q23_11_4t, q23_11_5f, q23_11_5t, q23_11_6, q23_11_7f, q23_11_7t, q23_11_8f, q23_11_8t, q23_11_9, g23_11, n23_14, n23_15, n23_13, n23_17, n23_20, n23_21, n23_19, n23_22, n23_18t, n23_18f, n23_16, n23_12t, n23_12f, n23_10, n23_6t, n23_6f, n23_4, n23_3, n23_24, n23_26, n23_28, n23_31, n23_35, n23_38, n23_39, n23_37t, n23_37f, n23_43, n23_44, n23_42, n23_41, n23_45, n23_40, n23_36, n23_34, n23_33, it23_33, ix23_33, n23_32, n23_30, n23_47, n23_48, n23_46, n23_29, n23_27, n23_25, n23_23, n23_2, n23_0, lk23, fin23_0, fin23_1, seqK_0, seqK_s, jnK_t, jnK_f, blkK_f0, blkK_t0, blkK_f1, blkK_t1, blkK_fx, blkK_tx, obs, List.set_cons_succ, List.set_cons_zero, Nat.reduceAdd, opK_go, v_ptr, v_neq, q1, q2, q3, q4, v_nilC, v_field, mem_slice h, mem_slice h1, v_len, v_conv, uk, i1, e1, v_not, Bool.not_true, eH.symm, v_arr, v_add, ua, s1, s2, cp, ldv, lp]
/-! ### A number's row -/
def byteB (x : Int) (i : Nat) : Int := IntKind.u8.wrap (x.fdiv (2 ^ (8 * i)))
def rowB (x : Int) (n : Nat) : List Int := (List.range n).map (byteB x)
theorem row_loop (x : Int) (p : Nat) (t2 : Value) (ds : List Deferred) : ∀ (d K i : Nat) (H : CH) (t4 : Value), 8 - i ≤ d → d < K → i ≤ 8 → H.get p = some (.cells (wc (rowB x i ++ List.replicate (8 - i) 0)) 5) → H.lim ≤ p →
    ∃ H' t4', (orc Go.Proofs.Try.prog KT K).loop 35 none C35_9 [.int .u64 x, t2, .slice (some ⟨p, 0, none⟩) 8 17, t4, .int .i64 8, .int .i64 i] ds H = some (2, [.int .u64 x, t2, .slice (some ⟨p, 0, none⟩) 8 17, t4', .int .i64 8, .int .i64 8], ds, H') ∧
      H'.get p = some (.cells (wc (rowB x 8)) 5) ∧ Fx p H H' ∧ H'.n = H.n
  | d, K, i, H, t4, hd, hK, hi, hp, hl => by
    obtain ⟨K, rfl⟩ : ∃ j, K = j + 1 := ⟨K - 1, by omega⟩
    by_cases hm : i = 8
    · subst hm
      have e : decide (((8 : Nat) : Int) < 8) = false := by decide
      refine ⟨H, t4, ?_, by simpa using hp, Fx.refl _ _, rfl⟩
      rw [lp35_8]
      simp only [jn35, n35_1, n35_3, n35_6, n35_10, n35_13, n35_14, n35_12t, n35_12f, n35_18, n35_19, n35_17, n35_16, n35_20, n35_15, n35_11, n35_9, n35_8, it35_8, ix35_8, n35_7, n35_5, n35_22, n35_23, n35_21, n35_4, n35_2, n35_0, lk35, fin35_0, fin35_1, seqK_0, seqK_s, jnK_t, jnK_f, blkK_f0, blkK_t0, blkK_f1, blkK_t1, blkK_fx, blkK_tx, obs, List.set_cons_succ, List.set_cons_zero, Nat.reduceAdd, opK_go, v_lss, e]
      rfl
    · obtain ⟨d, rfl⟩ : ∃ j, d = j + 1 := ⟨d - 1, by omega⟩
      have e : decide ((i : Int) < 8) = true := by simp; omega
      have w8 : IntKind.i64.wrap (8 * (i : Int)) = ((8 * i : Nat) : Int) := by rw [i_id (by omega) (by omega)]; omega
      have w1 : IntKind.i64.wrap ((i : Int) + 1) = ((i + 1 : Nat) : Int) := by rw [i_id (by omega) (by omega)]; omega
      have rl : (rowB x i).length = i := by simp [rowB]
      have st := h_st (k := .u8) (v := byteB x i) (o := 0 + (i : Int).toNat * 1) hp (by simp [rl]; omega) hl
      have sp : CH.splice (wc (rowB x i ++ List.replicate (8 - i) 0)) (0 + (i : Int).toNat * 1) [.int .u8 (byteB x i)] = wc (rowB x (i + 1) ++ List.replicate (8 - (i + 1)) 0) := by
        have := wc_splice (rowB x i ++ List.replicate (8 - i) 0) i [byteB x i]
        rw [show 0 + (i : Int).toNat * 1 = i by omega]
        rw [show [Value.int .u8 (byteB x i)] = wc [byteB x i] from rfl, this]
        congr 1
        rw [spl, List.take_append_of_le_length (by omega), List.take_of_length_le (by omega), List.drop_append, List.drop_eq_nil_of_le (by simp [rl])]
        simp only [List.nil_append, List.drop_replicate, List.length_singleton, rl]
        rw [show rowB x (i + 1) = rowB x i ++ [byteB x i] by simp [rowB, List.range_succ]]
        congr 2; omega
      rw [sp] at st
      obtain ⟨H2, t4', z1, z2, z3, z4⟩ := row_loop x p t2 ds d K (i + 1) (H.put p (some (.cells (wc (rowB x (i + 1) ++ List.replicate (8 - (i + 1)) 0)) 5))) (.int .i64 i) (by omega) (by omega) (by omega) (CH.get_put _ _ _) hl
      refine ⟨H2, t4', ?_, z2, (Fx.put _ _ _).trans z3, z4⟩
      rw [lp35_8]
      have st' : stN 1 (.pointer (some ⟨p, 0 + (i : Int).toNat * 1, none⟩)) (.int .u8 (IntKind.u8.wrap (x.fdiv (2 ^ (8 * i))))) H = some (H.put p (some (.cells (wc (rowB x (i + 1) ++ List.replicate (8 - (i + 1)) 0)) 5))) := st
      simp only [jn35, n35_1, n35_3, n35_6, n35_10, n35_13, n35_14, n35_12t, n35_12f, n35_18, n35_19, n35_17, n35_16, n35_20, n35_15, n35_11, n35_9, n35_8, it35_8, ix35_8, n35_7, n35_5, n35_22, n35_23, n35_21, n35_4, n35_2, n35_0, lk35, fin35_0, fin35_1, seqK_0, seqK_s, jnK_t, jnK_f, blkK_f0, blkK_t0, blkK_f1, blkK_t1, blkK_fx, blkK_tx, obs, List.set_cons_succ, List.set_cons_zero, Nat.reduceAdd, opK_go, v_lss, e, v_mul, w8, v_shr _ _ _ (show i < 8 by omega), v_conv, v_idx 1 p 0 8 17 .i64 (i : Int) (by omega) (by omega), st', Option.map_some, v_add, w1, z1]
theorem row_spec (hK : 12 ≤ K) {H : CH} (hl : H.lim ≤ H.n) (x : Int) : ∃ H', (orc Go.Proofs.Try.prog KT K).call 35 [.int .u64 x] H = some (.slice (some ⟨H.n, 0, none⟩) 8 17, H') ∧ H'.get H.n = some (.cells (wc (rowB x 8)) 5) ∧ Fx H.n H H' ∧ H'.n = H.n + 1 := by
  obtain ⟨K, rfl⟩ : ∃ j, K = j + 1 := ⟨K - 1, by omega⟩
  have mk := v_mk (n := 8) (by omega) .i64 .i64 H
  have e8 : ((8 : Nat) : Int) = 8 := rfl
  rw [e8] at mk
  obtain ⟨H2, t4', z1, z2, z3, z4⟩ := row_loop x H.n (.slice none 0 0) [] 8 K 0 (H.new (.cells (wc (List.replicate 8 0)) 5)) undef (by omega) (by omega) (by omega) (CH.get_new _ _) hl
  have z0 : ((0 : Nat) : Int) = 0 := rfl
  rw [z0] at z1
  refine ⟨H2, ?_, z2, (Fx.new _ _ _).trans z3, by rw [z4]; rfl⟩
  rw [call35]
  simp only [jn35, n35_1, n35_3, n35_6, n35_10, n35_13, n35_14, n35_12t, n35_12f, n35_18, n35_19, n35_17, n35_16, n35_20, n35_15, n35_11, n35_9, n35_8, it35_8, ix35_8, n35_7, n35_5, n35_22, n35_23, n35_21, n35_4, n35_2, n35_0, lk35, fin35_0, fin35_1, seqK_0, seqK_s, jnK_t, jnK_f, blkK_f0, blkK_t0, blkK_f1, blkK_t1, blkK_fx, blkK_tx, obs, List.set_cons_succ, List.set_cons_zero, Nat.reduceAdd, opK_go, mk, v_len, e8, z1]
end
end Go.Cn
