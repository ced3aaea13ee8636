/- Truths as bits, as the canonical run makes them: the document's. -/
import Derived.Test.YtbajjfdkkffamaaGreatDoorMc
namespace Go.Cn
set_option linter.unusedVariables false
set_option linter.unusedSimpArgs false
section
variable {lo : Nat} {G : CH} {L : Value} {l : List Bool}
/-- Behind n there is no truth. -/
def Cut (l : List Bool) (n : Nat) : Prop := n ≤ l.length ∧ ∀ p, n ≤ p → l.getD p false = false
theorem cut_loop (hlen : l.length ≤ 1000) {H : CH} (hr : Row H L l.length (fun j => .bool (l.getD j false))) (ds : List Deferred) : ∀ (n K : Nat), n < K → Cut l n →
    ∃ m : Nat, (cal K).sloop 8 0 none [L, .int .i64 n] ds H = some (2, [.int .i64 m], ds, H) ∧ Cut l m ∧ (m = 0 ∨ l.getD (m - 1) false = true)
  | 0, K, hK, hc => by
    obtain ⟨K, rfl⟩ : ∃ j, K = j + 1 := ⟨K - 1, by omega⟩
    have e : decide (((0 : Nat) : Int) > 0) = false := by simp
    refine ⟨0, ?_, hc, .inl rfl⟩
    rw [s8_0]
    simp only [L8_0, obs1, w1_cons, nilD_nil, gdo_tt, gdo_ft, gdo_tf, gdo_ff, c_t, c_f, beq_self_eq_true, Nat.reduceBEq, map_s, chk_self1, v_asB, v_gtr, e]
  | n + 1, K, hK, hc => by
    obtain ⟨K, rfl⟩ : ∃ j, K = j + 1 := ⟨K - 1, by omega⟩
    have e : decide (((n + 1 : Nat) : Int) > 0) = true := by simp only [decide_eq_true_eq]; omega
    have w1 : IntKind.i64.wrap (((n + 1 : Nat) : Int) - 1) = ((n : Nat) : Int) := by have := hc.1; rw [i_id (by omega) (by omega)]; omega
    obtain ⟨p, g1, g2⟩ := hr.get n (by have := hc.1; omega)
    cases hb : l.getD n false with
    | true =>
      rw [hb] at g2
      refine ⟨n + 1, ?_, hc, .inr hb⟩
      rw [s8_0]
      simp only [L8_0, obs1, w1_cons, nilD_nil, gdo_tt, gdo_ft, gdo_tf, gdo_ff, c_t, c_f, beq_self_eq_true, Nat.reduceBEq, map_s, chk_self1, v_asB, v_gtr, e, v_sub, w1, g1, g2, v_not, Bool.not_true]
    | false =>
      rw [hb] at g2
      have hc' : Cut l n := ⟨by have := hc.1; omega, fun p hp => by
        rcases Nat.lt_or_ge n p with h | h
        · exact hc.2 p h
        · rw [show p = n by omega]; exact hb⟩
      obtain ⟨m, r1, r2, r3⟩ := cut_loop hlen hr ds n K (by omega) hc'
      refine ⟨m, ?_, r2, r3⟩
      rw [s8_0]
      simp only [L8_0, obs1, w1_cons, nilD_nil, gdo_tt, gdo_ft, gdo_tf, gdo_ff, c_t, c_f, beq_self_eq_true, Nat.reduceBEq, map_s, chk_self1, v_asB, v_gtr, e, v_sub, w1, g1, g2, v_not, Bool.not_false, r1]
/-- The bits from place c on of the word at 'a'. -/
def Part (l : List Bool) (a c x : Nat) : Prop := ∀ m, x.testBit m = (decide (c + m < 64) && l.getD (a + (c + m)) false)
theorem Part.lt {a c x : Nat} (h : Part l a c x) (hc : c ≤ 64) : x < 2 ^ (64 - c) := by
  apply Nat.lt_pow_two_of_testBit
  intro m hm
  rw [h]
  simp; omega
theorem Part.next {a c x : Nat} (h : Part l a (c + 1) x) (hc : c < 64) : Part l a c (2 * x + (l.getD (a + c) false).toNat) := by
  intro m
  cases m with
  | zero =>
    rw [Nat.testBit_zero]
    cases hb : l.getD (a + c) false <;> simp [hc, hb] <;> omega
  | succ m =>
    rw [Nat.testBit_succ]
    have e : (2 * x + (l.getD (a + c) false).toNat) / 2 = x := by cases l.getD (a + c) false <;> simp <;> omega
    rw [e, h]
    rw [show c + 1 + m = c + (m + 1) by omega]
theorem word_loop (hlen : l.length ≤ 1000) {H : CH} (hr : Row H L l.length (fun j => .bool (l.getD j false))) {n : Nat} (hc : Cut l n) (a : Nat) (ha : a < 2000) : ∀ (c K x : Nat), c < K → c ≤ 64 → Part l a c x →
    ∃ y : Nat, (cal K).sloop 8 2 none [L, .int .i64 n, .int .i64 a, .int .u64 x, .int .i64 ((c : Nat) - 1 : Int)] [] H = some (6, [.int .u64 y, .int .i64 (-1)], [], H) ∧ Part l a 0 y
  | 0, K, x, hK, hc64, hp => by
    obtain ⟨K, rfl⟩ : ∃ j, K = j + 1 := ⟨K - 1, by omega⟩
    have e : decide ((((0 : Nat) : Int) - 1) ≥ 0) = false := by decide
    refine ⟨x, ?_, hp⟩
    rw [s8_2]
    simp only [L8_2, obs1, w1_cons, nilD_nil, gdo_tt, gdo_ft, gdo_tf, gdo_ff, c_t, c_f, beq_self_eq_true, Nat.reduceBEq, map_s, chk_self1, v_asB, v_geq, e]
    rfl
  | c + 1, K, x, hK, hc64, hp => by
    obtain ⟨K, rfl⟩ : ∃ j, K = j + 1 := ⟨K - 1, by omega⟩
    have c1 : (((c + 1 : Nat) : Int) - 1) = (c : Int) := by omega
    have e : decide ((c : Int) ≥ 0) = true := by simp
    have hx := hp.lt hc64
    have p63 : 2 ^ (64 - (c + 1)) ≤ 2 ^ 63 := Nat.pow_le_pow_right (by decide) (by omega)
    have w2 : IntKind.u64.wrap (2 * (x : Int)) = ((2 * x : Nat) : Int) := by rw [u_id (by omega) (by omega)]; omega
    have wa : IntKind.i64.wrap ((a : Int) + c) = ((a + c : Nat) : Int) := by rw [i_id (by omega) (by omega)]; omega
    have wc : IntKind.i64.wrap ((c : Int) - 1) = ((c : Nat) - 1 : Int) := i_id (by omega) (by omega)
    have hn := hp.next (by omega)
    rw [s8_2, c1]
    by_cases h1 : a + c < n
    · have e1 : decide (((a + c : Nat) : Int) < (n : Int)) = true := by simp only [decide_eq_true_eq]; omega
      obtain ⟨p, g1, g2⟩ := hr.get (a + c) (by have := hc.1; omega)
      cases hb : l.getD (a + c) false with
      | true =>
        rw [hb] at g2 hn
        have w3 : IntKind.u64.wrap (((2 * x : Nat) : Int) + 1) = ((2 * x + true.toNat : Nat) : Int) := by simp only [Bool.toNat_true]; rw [u_id (by omega) (by omega)]; omega
        obtain ⟨y, r1, r2⟩ := word_loop hlen hr hc a ha c K _ (by omega) (by omega) hn
        refine ⟨y, ?_, r2⟩
        simp only [L8_2, obs1, w1_cons, nilD_nil, gdo_tt, gdo_ft, gdo_tf, gdo_ff, c_t, c_f, beq_self_eq_true, Nat.reduceBEq, map_s, chk_self1, v_asB, v_geq, e, v_mul, w2, v_add, wa, v_lss, e1, g1, g2, w3, v_sub, wc, r1]
      | false =>
        rw [hb] at g2 hn
        simp only [Bool.toNat_false, Nat.add_zero] at hn
        obtain ⟨y, r1, r2⟩ := word_loop hlen hr hc a ha c K _ (by omega) (by omega) hn
        refine ⟨y, ?_, r2⟩
        simp only [L8_2, obs1, w1_cons, nilD_nil, gdo_tt, gdo_ft, gdo_tf, gdo_ff, c_t, c_f, beq_self_eq_true, Nat.reduceBEq, map_s, chk_self1, v_asB, v_geq, e, v_mul, w2, v_add, wa, v_lss, e1, g1, g2, v_sub, wc, r1]
    · have e1 : decide (((a + c : Nat) : Int) < (n : Int)) = false := by simp only [decide_eq_false_iff_not]; omega
      rw [hc.2 (a + c) (by omega)] at hn
      simp only [Bool.toNat_false, Nat.add_zero] at hn
      obtain ⟨y, r1, r2⟩ := word_loop hlen hr hc a ha c K _ (by omega) (by omega) hn
      refine ⟨y, ?_, r2⟩
      simp only [L8_2, obs1, w1_cons, nilD_nil, gdo_tt, gdo_ft, gdo_tf, gdo_ff, c_t, c_f, beq_self_eq_true, Nat.reduceBEq, map_s, chk_self1, v_asB, v_geq, e, v_mul, w2, v_add, wa, v_lss, e1, v_sub, wc, r1]
/-- So many words are right. -/
def Up (l : List Bool) (ws : List Nat) : Prop := ∀ q, q < ws.length → ∀ k, (ws.getD q 0).testBit k = (decide (k < 64) && l.getD (64 * q + k) false)
theorem out_loop (hlen : l.length ≤ 1000) (hrow : ∀ H, Fl lo G H → Row H L l.length (fun j => .bool (l.getD j false))) (hlo : lo ≤ G.n) (hlim : G.lim ≤ lo) {n : Nat} (hc : Cut l n) :
    ∀ (d K : Nat) (H : CH) (v t6 t7 : Value) (ws : List Nat), n - 64 * ws.length ≤ d → d + 80 < K → 64 * ws.length < n + 64 → Fl lo G H → OutS lo H v ws → Up l ws →
    ∃ H' v' t5' t6' t7' ws', (cal K).sloop 8 1 none [L, .int .i64 n, v, .int .i64 ((64 * ws.length : Nat) : Int), t6, t7] [] H = some (4, [v', t5', t6', t7'], [], H') ∧ Fl lo G H' ∧ OutS lo H' v' ws' ∧ Up l ws' ∧ n ≤ 64 * ws'.length ∧ 64 * ws'.length < n + 64
  | d, K, H, v, t6, t7, ws, hd, hK, hn, hf, ho, hu => by
    obtain ⟨K, rfl⟩ : ∃ j, K = j + 1 := ⟨K - 1, by omega⟩
    have hcl := hc.1
    rw [s8_1]
    by_cases he : n ≤ 64 * ws.length
    · have e : decide (((64 * ws.length : Nat) : Int) < (n : Int)) = false := by simp only [decide_eq_false_iff_not]; omega
      refine ⟨H, v, .int .i64 ((64 * ws.length : Nat) : Int), t6, t7, ws, ?_, hf, ho, hu, he, hn⟩
      simp only [L8_1, obs1, w1_cons, nilD_nil, gdo_tt, gdo_ft, gdo_tf, gdo_ff, c_t, c_f, beq_self_eq_true, Nat.reduceBEq, map_s, chk_self1, v_asB, v_lss, e]
    · obtain ⟨d, rfl⟩ : ∃ j, d = j + 1 := ⟨d - 1, by omega⟩
      have e : decide (((64 * ws.length : Nat) : Int) < (n : Int)) = true := by simp only [decide_eq_true_eq]; omega
      have p0 : Part l (64 * ws.length) 64 0 := fun m => by
        have e64 : decide (64 + m < 64) = false := by simp
        rw [Nat.zero_testBit, e64]; rfl
      obtain ⟨y, r1, r2⟩ := word_loop hlen (hrow H hf) hc (64 * ws.length) (by omega) 64 K 0 (by omega) (by omega) p0
      have z0 : ((0 : Nat) : Int) = 0 := rfl
      have z63 : (((64 : Nat) : Int) - 1) = 63 := by decide
      rw [z0, z63] at r1
      obtain ⟨H1, v1, s1, s2, s3⟩ := push ho (Nat.le_trans hlo hf.n) (by rw [hf.lim]; exact hlim) (by omega) y
      have w1 : IntKind.i64.wrap (((64 * ws.length : Nat) : Int) + 64) = ((64 * (ws ++ [y]).length : Nat) : Int) := by simp only [List.length_append, List.length_singleton]; rw [i_id (by omega) (by omega)]; omega
      have hu2 : Up l (ws ++ [y]) := fun q hq k => by
        simp only [List.length_append, List.length_singleton] at hq
        by_cases hq2 : q < ws.length
        · have := hu q hq2 k
          simp only [List.getD_eq_getElem?_getD] at this ⊢
          rw [List.getElem?_append_left hq2]; exact this
        · have hqe : q = ws.length := by omega
          subst hqe
          have := r2 k
          simp only [Nat.zero_add] at this
          simp only [List.getD_eq_getElem?_getD] at this ⊢
          rw [List.getElem?_append_right (Nat.le_refl _), Nat.sub_self]
          exact this
      obtain ⟨H2, v2, x5, x6, x7, ws2, u1, u2⟩ := out_loop hlen hrow hlo hlim hc d K H1 v1 (.int .u64 y) (.int .i64 (-1)) (ws ++ [y]) (by simp; omega) (by omega) (by simp; omega) (hf.trans s3) s2 hu2
      refine ⟨H2, v2, x5, x6, x7, ws2, ?_, u2⟩
      simp only [L8_1, obs1, w1_cons, nilD_nil, gdo_tt, gdo_ft, gdo_tf, gdo_ff, c_t, c_f, beq_self_eq_true, Nat.reduceBEq, map_s, chk_self1, v_asB, v_lss, e, r1, v_b1, s1, v_add, w1, u1]
theorem refOf_spec {K : Nat} (hK : 2000 ≤ K) (hlen : l.length ≤ 1000) (hrow : ∀ H, Fl lo G H → Row H L l.length (fun j => .bool (l.getD j false))) (hlo : lo ≤ G.n) (hlim : G.lim ≤ lo) :
    ∃ H' v ws, (cal K).call 8 [L] G = some (v, H') ∧ Fl lo G H' ∧ OutS lo H' v ws ∧ Bits l l.length ws := by
  obtain ⟨K, rfl⟩ : ∃ j, K = j + 1 := ⟨K - 1, by omega⟩
  have hr := hrow G (Fl.refl _ _)
  obtain ⟨n, c1, c2, c3⟩ := cut_loop hlen hr [] l.length K (by omega) ⟨Nat.le_refl _, fun p hp => by simp [List.getD_eq_getElem?_getD, List.getElem?_eq_none hp]⟩
  have hcl := c2.1
  obtain ⟨H1, v, x5, x6, x7, ws, r1, r2, r3, r4, r5, r6⟩ := out_loop hlen hrow hlo hlim c2 n K G (.slice none 0 0) undef undef [] (by simp) (by omega) (by simp) (Fl.refl _ _) (.inl ⟨rfl, rfl⟩) (fun q hq => by simp at hq)
  have z0 : ((64 * ([] : List Nat).length : Nat) : Int) = 0 := rfl
  rw [z0] at r1
  refine ⟨H1, v, ws, ?_, r2, r3, ?_⟩
  · rw [c8]
    simp only [F8, obs1, w1_cons, nilD_nil, gdo_tt, gdo_ft, gdo_tf, gdo_ff, c_t, c_f, beq_self_eq_true, Nat.reduceBEq, map_s, chk_self1, v_asB, hr.len, c1, r1]
  · refine ⟨fun q k => ?_, ?_⟩
    · by_cases hq : q < ws.length
      · rw [r4 q hq k]
        by_cases hk : 64 * q + k < l.length
        · simp [hk]
        · have : l.getD (64 * q + k) false = false := by simp [List.getD_eq_getElem?_getD, List.getElem?_eq_none (show l.length ≤ 64 * q + k by omega)]
          rw [this]; simp
      · rw [getD_out (by omega), Nat.zero_testBit, c2.2 (64 * q + k) (by omega)]; simp
    · rcases c3 with h0 | hb
      · left
        have : ws.length = 0 := by omega
        exact List.eq_nil_of_length_eq_zero this
      · by_cases hn0 : n = 0
        · left
          have : ws.length = 0 := by omega
          exact List.eq_nil_of_length_eq_zero this
        · right
          refine ⟨n - 1 - 64 * (ws.length - 1), by omega, by omega, ?_⟩
          rw [show 64 * (ws.length - 1) + (n - 1 - 64 * (ws.length - 1)) = n - 1 by omega]; exact hb
end
end Go.Cn
