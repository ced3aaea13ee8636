/- The law of bits, as the canonical run makes it. -/
import Derived.Test.YtbajjfdkkffamaaGreatDoorMd
namespace Go.Cn
set_option linter.unusedVariables false
set_option linter.unusedSimpArgs false
theorem Fl.mono {lo lo' : Nat} {H H' : CH} (h : Fl lo' H H') (hl : lo ≤ lo') : Fl lo H H' := ⟨h.n, h.lim, fun b hb => h.get b (by omega)⟩
theorem OutS.fl {lo : Nat} {H H' : CH} {v : Value} {ws : List Nat} (h : OutS lo H v ws) (f : Fl H.n H H') : OutS lo H' v ws := by
  rcases h with h | ⟨hne, r, e, hr, h1, h2⟩
  · exact .inl h
  · exact .inr ⟨hne, r, e, (f.get r h2).trans hr, h1, Nat.lt_of_lt_of_le h2 f.n⟩
theorem v_bne (a b : Bool) : bin .neq 4 (.bool a) (.bool b) = some (.bool (!(a == b))) := by cases a <;> cases b <;> kernel_rfl
theorem v_beq (a b : Bool) : bin .eql 4 (.bool a) (.bool b) = some (.bool (a == b)) := by cases a <;> cases b <;> kernel_rfl
theorem has_loop {H : CH} {L x : Value} {l : List Bool} {ws : List Nat} (hlen : l.length ≤ 1000) (hr : Row H L l.length (fun j => .bool (l.getD j false))) (hx : Row H x ws.length (wd fun j => ws.getD j 0)) (hb : Bits l l.length ws) (t6 : Value) (ds : List Deferred) :
    ∀ (d K j : Nat), l.length - j ≤ d → d + 3 < K → j ≤ l.length →
    (cal K).sloop 3 0 none [L, t6, x, .int .i64 j] ds H = some (2, [t6, .int .i64 l.length], ds, H)
  | d, K, j, hd, hK, hj => by
    obtain ⟨K, rfl⟩ : ∃ j, K = j + 1 := ⟨K - 1, by omega⟩
    rw [s3_0]
    by_cases he : j = l.length
    · have e : decide ((j : Int) < (l.length : Int)) = false := by simp only [decide_eq_false_iff_not]; omega
      simp only [L3_0, obs1, w1_cons, nilD_nil, gdo_tt, gdo_ft, gdo_tf, gdo_ff, c_t, c_f, beq_self_eq_true, Nat.reduceBEq, map_s, chk_self1, v_asB, hr.len, v_lss, e]
      rw [he]
    · obtain ⟨d, rfl⟩ : ∃ j, d = j + 1 := ⟨d - 1, by omega⟩
      have e : decide ((j : Int) < (l.length : Int)) = true := by simp only [decide_eq_true_eq]; omega
      have hh := has_spec (K := K) (by omega) hx (fun q _ => hb.lt q) (j : Int) (by omega) (by omega)
      rw [hb.has (by omega)] at hh
      obtain ⟨p, g1, g2⟩ := hr.get j (by omega)
      have w1 : IntKind.i64.wrap ((j : Int) + 1) = ((j + 1 : Nat) : Int) := by rw [i_id (by omega) (by omega)]; omega
      have q : (!(l.getD j false == l.getD j false)) = false := by simp
      have IH := has_loop hlen hr hx hb t6 ds d K (j + 1) (by omega) (by omega) (by omega)
      simp only [L3_0, obs1, w1_cons, nilD_nil, gdo_tt, gdo_ft, gdo_tf, gdo_ff, c_t, c_f, beq_self_eq_true, Nat.reduceBEq, map_s, chk_self1, v_asB, hr.len, v_lss, e, hh, g1, g2, v_bne, q, Bool.not_true, v_add, w1, IH]
theorem bits_spec {K : Nat} (hK : 3000 ≤ K) {lo : Nat} {G Gk : CH} {C : Cal} (hC : ∀ f a H, f ≠ 4 → C.call f a H = (cal K).call f a H) (hL : ∀ f j rd vs ds H, C.sloop f j rd vs ds H = (cal K).sloop f j rd vs ds H) (hk : C.call 4 [] G = some (.bool true, Gk)) (fk : Fl lo G Gk) {L B : Value} {l : List Bool} {m : Nat} {w : Nat → Nat} (hlen : l.length ≤ 1000) (hm : m ≤ 50)
    (hrow : ∀ H, Fl lo G H → Row H L l.length (fun j => .bool (l.getD j false))) (hB : ∀ H, Fl lo G H → Row H B m (wd w)) (hw : ∀ j, j < m → w j < 2 ^ 64) (hlo : lo ≤ G.n) (hlim : G.lim ≤ lo) (i : Int) (hi : -2 ^ 63 ≤ i) (hi2 : i < 2 ^ 63) :
    ∃ H', F3 C L B (.int .i64 i) G = some (.bool true, H') := by
  obtain ⟨H1, x, ws, a1, a2, a3, a4⟩ := of_spec (K := K) (by omega) (lo := lo) (G := Gk) (L := L) (l := l) hlen (fun H f => hrow H (fk.trans f)) (Nat.le_trans hlo fk.n) (by rw [fk.lim]; exact hlim)
  have f1 := fk.trans a2
  have hsh := a4.short
  have hn1 : lo ≤ H1.n := Nat.le_trans hlo f1.n
  obtain ⟨H2, y, us, b1, b2, b3, b4⟩ := refOf_spec (K := K) (by omega) (lo := H1.n) (G := H1) (L := L) (l := l) hlen (fun H f => hrow H (f1.trans (f.mono hn1))) (Nat.le_refl _) (by rw [f1.lim]; omega)
  have heq := a4.uniq b4
  subst heq
  have f2 := f1.trans (b2.mono hn1)
  have lp := has_loop hlen (hrow H1 f1) (a3.row (by omega)) a4 (.bool false) [] l.length K 0 (by omega) (by omega) (by omega)
  have z0 : ((0 : Nat) : Int) = 0 := rfl
  rw [z0] at lp
  have on := one_spec (K := K) ((a3.fl b2).row (by omega)) (b3.row (by omega)) (by omega)
  have h1 := has_spec (K := K) (by omega) (hB H2 f2) hw i hi hi2
  have h2 := refHas_spec (K := K) (by omega) (hB H2 f2) hw i hi hi2
  have e1 : decide ((l.length : Int) > 1000) = false := by simp; omega
  have e2 : decide ((m : Int) > 50) = false := by simp; omega
  have q : (hasB w m i == hasB w m i) = true := by simp
  rw [← hC 5 _ _ (by decide)] at a1
  rw [← hC 8 _ _ (by decide)] at b1
  rw [← hC 7 _ _ (by decide)] at on
  rw [← hC 6 _ _ (by decide)] at h1
  rw [← hC 9 _ _ (by decide)] at h2
  rw [← hL] at lp
  refine ⟨H2, ?_⟩
  simp only [F3, obs1, w1_cons, nilD_nil, gdo_tt, gdo_ft, gdo_tf, gdo_ff, c_t, c_f, beq_self_eq_true, Nat.reduceBEq, map_s, chk_self1, v_asB, hk, v_not, Bool.not_true, (hrow Gk fk).len, (hB Gk fk).len, v_gtr, e1, e2, a1, (hrow H1 f1).len, lp, b1, on, h1, h2, v_beq, q]
theorem bits_far {C : Cal} {G Gk : CH} (hk : C.call 4 [] G = some (.bool true, Gk)) {A B : Option Addr} {n m c c' : Nat} (i : Value) (h : 1000 < n ∨ 50 < m) :
    F3 C (.slice A n c) (.slice B m c') i G = some (.bool true, Gk) := by
  by_cases h0 : 1000 < n
  · have e1 : decide ((n : Int) > 1000) = true := by simp; omega
    simp only [F3, obs1, w1_cons, nilD_nil, gdo_tt, gdo_ft, gdo_tf, gdo_ff, c_t, c_f, beq_self_eq_true, Nat.reduceBEq, map_s, chk_self1, v_asB, hk, v_not, Bool.not_true, v_len, v_gtr, e1]
  · have e1 : decide ((n : Int) > 1000) = false := by simp; omega
    have e2 : decide ((m : Int) > 50) = true := by simp; omega
    simp only [F3, obs1, w1_cons, nilD_nil, gdo_tt, gdo_ft, gdo_tf, gdo_ff, c_t, c_f, beq_self_eq_true, Nat.reduceBEq, map_s, chk_self1, v_asB, hk, v_not, Bool.not_true, v_len, v_gtr, e1, e2]
end Go.Cn
