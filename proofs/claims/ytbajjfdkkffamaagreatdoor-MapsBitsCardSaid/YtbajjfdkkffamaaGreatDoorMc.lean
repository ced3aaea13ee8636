/- Truths as bits, as the canonical run makes them: maps.Of. -/
import Derived.Test.YtbajjfdkkffamaaGreatDoorMb
namespace Go.Cn
set_option linter.unusedVariables false
set_option linter.unusedSimpArgs false
theorem getD_app {ws : List Nat} {m q : Nat} : (ws ++ List.replicate m 0).getD q 0 = ws.getD q 0 := by
  simp only [List.getD_eq_getElem?_getD]
  by_cases h : q < ws.length
  · rw [List.getElem?_append_left h]
  · rw [List.getElem?_append_right (by omega), List.getElem?_eq_none (l := ws) (by omega), List.getElem?_replicate]
    split <;> rfl
theorem getD_setn {ws : List Nat} {p q x : Nat} (hp : p < ws.length) : (ws.set p x).getD q 0 = if q = p then x else ws.getD q 0 := by
  simp only [List.getD_eq_getElem?_getD]
  by_cases h : q = p
  · subst h; rw [if_pos rfl, List.getElem?_set_self hp]; rfl
  · rw [if_neg h, List.getElem?_set_ne (by omega)]
theorem Bits.skip {l : List Bool} {j : Nat} {ws : List Nat} (h : Bits l j ws) (hj : l.getD j false = false) : Bits l (j + 1) ws := by
  refine ⟨fun q k => ?_, ?_⟩
  · rw [h.bit]
    by_cases he : 64 * q + k = j
    · rw [he, hj]; simp
    · congr 2
      simp only [decide_eq_decide]; omega
  · rcases h.last with rfl | ⟨k, h1, h2, h3⟩
    · exact .inl rfl
    · exact .inr ⟨k, h1, by omega, h3⟩
theorem Bits.add {l : List Bool} {j : Nat} {ws : List Nat} (h : Bits l j ws) (hj : l.getD j false = true) :
    Bits l (j + 1) ((ws ++ List.replicate (j / 64 + 1 - ws.length) 0).set (j / 64) ((ws.getD (j / 64) 0) ||| 2 ^ (j % 64))) := by
  have hs := h.short
  have hl : (ws ++ List.replicate (j / 64 + 1 - ws.length) 0).length = j / 64 + 1 := by simp; omega
  refine ⟨fun q k => ?_, .inr ⟨j % 64, by omega, ?_, ?_⟩⟩
  · rw [getD_setn (by omega)]
    by_cases hq : q = j / 64
    · subst hq
      rw [if_pos rfl, Nat.testBit_or, Nat.testBit_two_pow, h.bit]
      by_cases hk : j % 64 = k
      · subst hk
        rw [show 64 * (j / 64) + j % 64 = j by omega, hj]
        simp
        omega
      · have e : decide (j % 64 = k) = false := by simp [hk]
        rw [e, Bool.or_false]
        by_cases hk64 : k < 64
        · congr 2
          simp only [decide_eq_decide]; omega
        · simp [hk64]
    · rw [if_neg hq, getD_app, h.bit]
      by_cases hk64 : k < 64
      · congr 2
        simp only [decide_eq_decide]; omega
      · simp [hk64]
  · rw [List.length_set, hl]; omega
  · rw [List.length_set, hl, show 64 * (j / 64 + 1 - 1) + j % 64 = j by omega]; exact hj
theorem h_put {H : CH} {r : Nat} {ws : List Nat} {p x : Nat} (hr : H.get r = some (.cells (wl ws) 66)) (hp : p < ws.length) (hl : H.lim ≤ r) :
    stN 1 (.pointer (some ⟨r, 0 + ((p : Nat) : Int).toNat * 1, none⟩)) (.int .u64 (x : Nat)) H = some (H.put r (some (.cells (wl (ws.set p x)) 66))) := by
  rw [show 0 + ((p : Nat) : Int).toNat * 1 = p by omega]
  simp only [stN, asP, cellsOf, obs1]
  rw [if_pos ⟨by simp, by simp [isCell]⟩]
  simp only [CH.storeN, hr]
  rw [if_pos ⟨trivial, by simp; omega, hl⟩]
  congr 4
  simp only [CH.splice, wl, List.length_singleton]
  rw [List.set_eq_take_append_cons_drop, if_pos hp]
  simp [List.map_take, List.map_drop]
theorem of_loop {lo : Nat} {G : CH} {L : Value} {l : List Bool} (hlen : l.length ≤ 1000) (hrow : ∀ H, Fl lo G H → Row H L l.length (fun j => .bool (l.getD j false))) (hlo : lo ≤ G.n) (hlim : G.lim ≤ lo) :
    ∀ (d K j : Nat) (H : CH) (v t4 t5 : Value) (ws : List Nat), l.length - j ≤ d → d + 60 < K → j ≤ l.length → Fl lo G H → OutS lo H v ws → Bits l j ws →
    ∃ H' v' t4' t5' ws', (cal K).sloop 5 0 none [v, t4, t5, L, .int .i64 l.length, .int .i64 j] [] H = some (2, [v', t4', t5', .int .i64 l.length], [], H') ∧
      Fl lo G H' ∧ OutS lo H' v' ws' ∧ Bits l l.length ws'
  | d, K, j, H, v, t4, t5, ws, hd, hK, hj, hf, ho, hb => by
    obtain ⟨K, rfl⟩ : ∃ j, K = j + 1 := ⟨K - 1, by omega⟩
    by_cases he : j = l.length
    · have e : decide ((j : Int) < (l.length : Int)) = false := by simp only [decide_eq_false_iff_not]; omega
      refine ⟨H, v, t4, t5, ws, ?_, hf, ho, by rw [← he]; exact hb⟩
      rw [s5_0]
      simp only [L5_0, obs1, w1_cons, nilD_nil, gdo_tt, gdo_ft, gdo_tf, gdo_ff, c_t, c_f, beq_self_eq_true, Nat.reduceBEq, map_s, chk_self1, v_asB, v_lss, e]
      rw [he]
    · obtain ⟨d, rfl⟩ : ∃ j, d = j + 1 := ⟨d - 1, by omega⟩
      have e : decide ((j : Int) < (l.length : Int)) = true := by simp only [decide_eq_true_eq]; omega
      obtain ⟨p, g1, g2⟩ := (hrow H hf).get j (by omega)
      have w1 : IntKind.i64.wrap ((j : Int) + 1) = ((j + 1 : Nat) : Int) := by rw [i_id (by omega) (by omega)]; omega
      have hsh := hb.short
      cases hbj : l.getD j false with
      | false =>
        rw [hbj] at g2
        obtain ⟨H2, v2, x, y, ws2, r1, r2, r3, r4⟩ := of_loop hlen hrow hlo hlim d K (j + 1) H v (.int .i64 j) (.bool false) ws (by omega) (by omega) (by omega) hf ho (hb.skip hbj)
        refine ⟨H2, v2, x, y, ws2, ?_, r2, r3, r4⟩
        rw [s5_0]
        simp only [L5_0, obs1, w1_cons, nilD_nil, gdo_tt, gdo_ft, gdo_tf, gdo_ff, c_t, c_f, beq_self_eq_true, Nat.reduceBEq, map_s, chk_self1, v_asB, v_lss, e, g1, g2, v_not, Bool.not_false, v_add, w1, r1]
      | true =>
        rw [hbj] at g2
        obtain ⟨H1, v1, f1, f2, f3⟩ := fill_loop (lo := lo) (i := j) (by omega) True [] 20 K H v ws (by omega) (by omega) (by omega) ho (Nat.le_trans hlo hf.n) (by rw [hf.lim]; exact hlim)
        have hl1 : (ws ++ List.replicate (j / 64 + 1 - ws.length) 0).length = j / 64 + 1 := by simp; omega
        rcases f2 with ⟨h0, _⟩ | ⟨hne, r, rfl, hr, hr1, hr2⟩
        · rw [h0] at hl1; simp at hl1
        have fg := hf.trans f3
        have q1 : (j : Int).tdiv 64 = ((j / 64 : Nat) : Int) := by rw [Int.tdiv_eq_ediv_of_nonneg (by omega)]; rfl
        have q2 : (j : Int).tmod 64 = ((j % 64 : Nat) : Int) := by rw [Int.tmod_eq_emod_of_nonneg (by omega)]; rfl
        have q3 : IntKind.i64.wrap ((j / 64 : Nat) : Int) = ((j / 64 : Nat) : Int) := i_id (by omega) (by omega)
        have ix := v_idx 1 r 0 (ws ++ List.replicate (j / 64 + 1 - ws.length) 0).length 2 .i64 ((j / 64 : Nat) : Int) (by omega) (by omega)
        have ld : ld1 (.pointer (some ⟨r, 0 + ((j / 64 : Nat) : Int).toNat * 1, none⟩)) H1 = some (.int .u64 ((ws.getD (j / 64) 0 : Nat) : Int)) := by
          rw [h_ld hr (by simp; omega), show 0 + ((j / 64 : Nat) : Int).toNat * 1 = j / 64 by omega]
          have : (wl (ws ++ List.replicate (j / 64 + 1 - ws.length) 0)).getD (j / 64) undef = .int .u64 (((ws ++ List.replicate (j / 64 + 1 - ws.length) 0).getD (j / 64) 0 : Nat) : Int) := by
            simp only [wl, List.getD_eq_getElem?_getD, List.getElem?_map, List.getElem?_eq_getElem (show j / 64 < (ws ++ List.replicate (j / 64 + 1 - ws.length) 0).length by omega)]
            rfl
          rw [this, getD_app]
        have sh := v_shl1 66 .i64 (j % 64) (by omega)
        have lt2 : 2 ^ (j % 64) < 2 ^ 64 := Nat.pow_lt_pow_right (by decide) (by omega)
        have orr := v_orn 66 (ws.getD (j / 64) 0) (2 ^ (j % 64)) (hb.lt _) lt2
        have st := h_put (x := (ws.getD (j / 64) 0) ||| 2 ^ (j % 64)) hr (p := j / 64) (by omega) (by rw [fg.lim]; omega)
        obtain ⟨H2, eH2⟩ : ∃ X, X = H1.put r (some (.cells (wl ((ws ++ List.replicate (j / 64 + 1 - ws.length) 0).set (j / 64) ((ws.getD (j / 64) 0) ||| 2 ^ (j % 64)))) 66)) := ⟨_, rfl⟩
        rw [← eH2] at st
        have f4 : Fl lo H1 H2 := by rw [eH2]; exact ⟨Nat.le_refl _, rfl, fun b hb => CH.get_put_ne _ _ _ _ (by omega)⟩
        have o2 : OutS lo H2 (.slice (some ⟨r, 0, none⟩) (ws ++ List.replicate (j / 64 + 1 - ws.length) 0).length 2) ((ws ++ List.replicate (j / 64 + 1 - ws.length) 0).set (j / 64) ((ws.getD (j / 64) 0) ||| 2 ^ (j % 64))) := by
          refine .inr ⟨fun h => ?_, r, by rw [List.length_set], by rw [eH2]; exact CH.get_put _ _ _, hr1, by rw [eH2]; exact hr2⟩
          have := congrArg List.length h
          rw [List.length_set, hl1] at this; simp at this
        obtain ⟨H3, v3, x, y, ws3, r1, r2, r3, r4⟩ := of_loop hlen hrow hlo hlim d K (j + 1) H2 _ (.int .i64 j) (.bool true) _ (by omega) (by omega) (by omega) (fg.trans f4) o2 (hb.add hbj)
        refine ⟨H3, v3, x, y, ws3, ?_, r2, r3, r4⟩
        rw [s5_0]
        simp only [L5_0, obs1, w1_cons, nilD_nil, gdo_tt, gdo_ft, gdo_tf, gdo_ff, c_t, c_f, beq_self_eq_true, Nat.reduceBEq, map_s, chk_self1, v_asB, v_lss, e, g1, g2, v_not, Bool.not_true, f1, v_quo _ _ _ 64 (by decide), q1, q3, ix, ld, v_rem _ _ _ 64 (by decide), q2, sh, orr, st, Option.map_some, v_add, w1, r1]
theorem of_spec {K : Nat} (hK : 1100 ≤ K) {lo : Nat} {G : CH} {L : Value} {l : List Bool} (hlen : l.length ≤ 1000) (hrow : ∀ H, Fl lo G H → Row H L l.length (fun j => .bool (l.getD j false))) (hlo : lo ≤ G.n) (hlim : G.lim ≤ lo) :
    ∃ H' v ws, (cal K).call 5 [L] G = some (v, H') ∧ Fl lo G H' ∧ OutS lo H' v ws ∧ Bits l l.length ws := by
  obtain ⟨K, rfl⟩ : ∃ j, K = j + 1 := ⟨K - 1, by omega⟩
  have b0 : Bits l 0 [] := ⟨fun q k => by simp, .inl rfl⟩
  obtain ⟨H1, v, x, y, ws, r1, r2, r3, r4⟩ := of_loop hlen hrow hlo hlim l.length K 0 G (.slice none 0 0) undef undef [] (by omega) (by omega) (by omega) (Fl.refl _ _) (.inl ⟨rfl, rfl⟩) b0
  have z0 : ((0 : Nat) : Int) = 0 := rfl
  rw [z0] at r1
  refine ⟨H1, v, ws, ?_, r2, r3, r4⟩
  rw [c5]
  simp only [F5, obs1, w1_cons, nilD_nil, gdo_tt, gdo_ft, gdo_tf, gdo_ff, c_t, c_f, beq_self_eq_true, Nat.reduceBEq, map_s, chk_self1, v_asB, (hrow G (Fl.refl _ _)).len, r1]
end Go.Cn
