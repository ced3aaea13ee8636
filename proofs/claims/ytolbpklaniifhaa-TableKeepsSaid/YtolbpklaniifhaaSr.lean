/- A new table, and a clone. -/
import Derived.Test.YtolbpklaniifhaaSq
namespace Go.Cn
set_option linter.unusedVariables false
set_option linter.unusedSimpArgs false
theorem h_stv {H : CH} {b o : Nat} {l : List Value} {e : TypeId} {v : Value} (hv : cellsOf v = some [v]) (hi : isCell v = true) (h : H.get b = some (.cells l e)) (ho : o < l.length) (hl : H.lim ≤ b) :
    stN 1 (.pointer (some ⟨b, o, none⟩)) v H = some (H.put b (some (.cells (CH.splice l o [v]) e))) := by
  simp only [stN, asP, hv, obs]
  rw [if_pos ⟨by simp, by simp [hi]⟩]
  simp only [CH.storeN, h]
  rw [if_pos ⟨trivial, by simp; omega, hl⟩]
theorem v_agg (l : List Value) : cellsOf (.agg ⟨l⟩) = some l := Eq.trans rfl rfl
theorem v_ptrc (a : Option Addr) : cellsOf (.pointer a) = some [.pointer a] := Eq.trans rfl rfl
theorem v_newV (H : CH) (e : TypeId) (l : List Value) : newV H e l = (.pointer (some ⟨H.n, 0, none⟩), H.new (.cells l e)) := Eq.trans rfl rfl
theorem v_tab (m : Int) (a : Option Addr) (n c : Nat) : cBuild Go.Proofs.Try.prog 74 [(0, .agg ⟨tx m⟩), (1, .slice a n c)] = some (.agg ⟨tx m ++ [.slice a n c]⟩) := by kernel_rfl
theorem v_tab0 (m : Int) : cBuild Go.Proofs.Try.prog 74 [(0, .agg ⟨tx m⟩)] = some (.agg ⟨tx m ++ [.slice none 0 0]⟩) := by kernel_rfl
theorem h_ldx {H : CH} {b : Nat} {m : Int} (h : H.get b = some (.cells (tx m) 38)) : ldN 8 (.pointer (some ⟨b, 0, none⟩)) H = some (.agg ⟨tx m⟩) := by
  simp only [ldN, asP, obs, CH.loadN, h]
  rw [if_pos ⟨trivial, by simp [tx]⟩]; rfl
theorem new_spec {K : Nat} (hK : 100020 ≤ K) {H : CH} (hl : H.lim ≤ H.n) {n : Nat} (hn : n < 1000) (v : Int) :
    ∃ H' b l, (orc Go.Proofs.Try.prog KT K).call 8 [.agg ⟨tx n⟩, .int .u64 v] H = some (.tuple ⟨[.pointer (some ⟨b, 0, none⟩), .int .i64 0]⟩, H') ∧
      Tab H' b n l (2 * n + 1) (List.replicate n v) ∧ Fx H.n H H' ∧ H.n ≤ b ∧ H.n ≤ l := by
  obtain ⟨K, rfl⟩ : ∃ j, K = j + 1 := ⟨K - 1, by omega⟩
  have e1 : decide ((n : Int) > 10000) = false := by simp; omega
  have ni : IntKind.i64.wrap (n : Int) = n := i_id (by omega) (by omega)
  let H1 := H.new (.cells (tx n) 38)
  let H2 := H1.new (.cells [.int .u64 v] 23)
  have n1 : H1.n = H.n + 1 := rfl
  have n2 : H2.n = H.n + 2 := rfl
  have g1 : H1.get H.n = some (.cells (tx n) 38) := CH.get_new _ _
  have g2 : H2.get H.n = some (.cells (tx n) 38) := by rw [CH.get_new_ne _ _ _ (by omega)]; exact g1
  obtain ⟨H3, y1, y2, y3, y4⟩ := rep_spec (K := K) (by omega) (H := H2) (s := H1.n) (n := n) (v := v) (CH.get_new _ _) (by omega) (by omega) (by show H.lim ≤ _; omega)
  have g3 : H3.get H.n = some (.cells (tx n) 38) := by rw [y3.get _ (by omega) (by omega)]; exact g2
  have x1 := h_ldx g1
  have x2 := h_ldx g2
  have x3 := h_ldx g3
  have z1 : ld1 (.pointer (some ⟨H.n, 0 + 4 + 1, none⟩)) H1 = some (.int .u64 n) := by rw [h_ld g1 (by simp [tx])]; rfl
  have z2 : ld1 (.pointer (some ⟨H.n, 0 + 4 + 1, none⟩)) H2 = some (.int .u64 n) := by rw [h_ld g2 (by simp [tx])]; rfl
  refine ⟨H3.new (.cells (tx n ++ [.slice (some ⟨H2.n, 0, none⟩) n (2 * n + 1)]) 74), H3.n, H2.n, ?_, ?_, ?_, by omega, by omega⟩
  · rw [call8]
    simp only [jn8, n8_1, n8_4, n8_7, n8_8, n8_6, n8_9, n8_5t, n8_5f, n8_3, n8_11, n8_12, n8_10, n8_2, n8_0, lk8, fin8_0, fin8_1, seqK_0, seqK_s, jnK_t, jnK_f, blkK_f0, blkK_t0, blkK_f1, blkK_t1, blkK_fx, blkK_tx, obs, List.set_cons_succ, List.set_cons_zero, Nat.reduceAdd, v_agg, v_newV, v_field, v_gtr, z1, e1, x1, v_b1, x2, chk_self, z2, v_conv, ni, x3, v_tab]
    have : (orc Go.Proofs.Try.prog KT K).call 31 [.slice (some ⟨(H.new (.cells (tx n) 38)).n, 0, none⟩) 1 3, .int .i64 n] ((H.new (.cells (tx n) 38)).new (.cells [.int .u64 v] 23)) = some (.slice (some ⟨H2.n, 0, none⟩) n (2 * n + 1), H3) := y1
    have x1' : ldN 8 (.pointer (some ⟨H.n, 0, none⟩)) (H.new (.cells (tx n) 38)) = some (.agg ⟨tx n⟩) := x1
    have x2' : ldN 8 (.pointer (some ⟨H.n, 0, none⟩)) ((H.new (.cells (tx n) 38)).new (.cells [.int .u64 v] 23)) = some (.agg ⟨tx n⟩) := x2
    have z1' : ld1 (.pointer (some ⟨H.n, 0 + 4 + 1, none⟩)) (H.new (.cells (tx n) 38)) = some (.int .u64 n) := z1
    have z2' : ld1 (.pointer (some ⟨H.n, 0 + 4 + 1, none⟩)) ((H.new (.cells (tx n) 38)).new (.cells [.int .u64 v] 23)) = some (.int .u64 n) := z2
    simp only [jn8, n8_1, n8_4, n8_7, n8_8, n8_6, n8_9, n8_5t, n8_5f, n8_3, n8_11, n8_12, n8_10, n8_2, n8_0, lk8, fin8_0, fin8_1, seqK_0, seqK_s, jnK_t, jnK_f, blkK_f0, blkK_t0, blkK_f1, blkK_t1, blkK_fx, blkK_tx, obs, List.set_cons_succ, List.set_cons_zero, Nat.reduceAdd, v_agg, v_newV, v_field, v_gtr, z1', e1, x1', v_b1, x2', chk_self, z2', v_conv, ni, this, x3, v_tab]
  · have hb : (H3.new (.cells (tx n ++ [.slice (some ⟨H2.n, 0, none⟩) n (2 * n + 1)]) 74)).n = H3.n + 1 := rfl
    refine ⟨by rw [CH.get_new]; simp, ?_, ?_, by simp; omega, by rw [List.length_replicate]; exact Cap.of n, by omega, by omega, by omega⟩
    · rw [CH.get_new_ne _ _ _ (by omega)]; exact y2
    · show H3.lim ≤ _
      rw [y3.lim]; show H.lim ≤ _; omega
  · exact ((Fx.new H.n H _).later (Fx.new H.n _ _) (by omega)).later ((y3.later (Fx.new _ _ _) (Nat.le_refl _)) : Fx H2.n H2 _) (by omega)
/-! ### Clone -/
noncomputable def LP (t0 t2 t3 t4 t14 t15 : Value) (d : Nat) : Loop := { state := .ready, pending := none, fn := 11, tmps := ⟨[t0, undef, t2, t3, t4, undef, undef, undef, undef, undef, undef, undef, undef, undef, t14, t15, undef, undef, undef, undef, undef, undef, undef, undef, undef, undef, undef]⟩, params := #[15], assign := C11_17, body := C11_18, defers := d }
theorem rf11 (O : Orc) (p : Value) (t0 t1 t2 t3 t4 t5 t6 t7 t8 t9 t10 t11 t12 t13 t15 t16 t17 t18 t19 t20 t21 t22 t23 t24 t25 t26 : Value) (ds : List Deferred) (H : CH) {R : Type} (K : Nat → St → CH → Option R) :
    icode Go.Proofs.Try.prog O (c11 none) C11_16 ⟨[t0, t1, t2, t3, t4, t5, t6, t7, t8, t9, t10, t11, t12, t13, (.func (.func 34) #[] #[p]), t15, t16, t17, t18, t19, t20, t21, t22, t23, t24, t25, t26], ds⟩ H K = (O.call 34 [.func (.yield (H.n + 1)) #[] #[], p] ((H.new (.defs true)).new (.loop (LP t0 t2 t3 t4 (.func (.func 34) #[] #[p]) t15 H.n)))).bind fun r =>
      (endLp r.2 (H.n + 1)).bind fun x => K x.1 ⟨[t0, t1, t2, t3, t4, t5, t6, t7, t8, t9, t10, t11, t12, t13, (.func (.func 34) #[] #[p]), t15, t16, t17, t18, t19, t20, t21, t22, t23, t24, t25, t26], ⟨.collected H.n, #[]⟩ :: ds⟩ x.2 := by
  rw [s11_16]; kernel_rfl
theorem round11 {K lp d : Nat} {H : CH} {t0 t2 t3 t4 t14 t15 : Value} (h : H.get lp = some (.loop (LP t0 t2 t3 t4 t14 t15 d))) (v : Value) :
    (orc Go.Proofs.Try.prog KT (K + 1)).round lp [v] H = icode Go.Proofs.Try.prog (orc Go.Proofs.Try.prog KT K) (c11 (some lp)) C11_17 ⟨[t0, undef, t2, t3, t4, undef, undef, undef, undef, undef, undef, undef, undef, undef, t14, v, undef, undef, undef, undef, undef, undef, undef, undef, undef, undef, undef], []⟩ H (rd1K Go.Proofs.Try.prog (orc Go.Proofs.Try.prog KT K) (c11 (some lp)) C11_18 lp) :=
  round_go (L := LP t0 t2 t3 t4 t14 t15 d) Go.Proofs.Try.func11 h (by kernel_rfl) (by kernel_rfl) (by kernel_rfl) (by kernel_rfl)
structure Clo (G : CH) (m : Int) (L : Loop) (H : CH) (pre : List Int) : Prop where
  ex : ∃ sl, H.get G.n = some (.cells (tx m ++ [sl]) 74) ∧ (pre = [] ∧ sl = .slice none 0 0 ∨ pre ≠ [] ∧ ∃ r, sl = .slice (some ⟨r, 0, none⟩) pre.length 2 ∧ H.get r = some (.cells (wc pre) 23) ∧ G.n + 5 ≤ r ∧ r < H.n)
  pc : H.get (G.n + 1) = some (.cells [.pointer (some ⟨G.n, 0, none⟩)] 25)
  de : H.get (G.n + 3) = some (.defs true)
  lp : H.get (G.n + 4) = some (.loop L)
  n : G.n + 5 ≤ H.n
  lim : H.lim = G.lim
  fr : ∀ b, b < G.n → H.get b = G.get b
theorem app_nil {H : CH} {q : Nat} {v : Int} (hq : H.get q = some (.cells [.int .u64 v] 23)) : appendN 23 1 8 (.slice none 0 0) (.slice (some ⟨q, 0, none⟩) 1 3) H = some (.slice (some ⟨H.n, 0, none⟩) 1 2, H.new (.cells (wc [v]) 23)) := by
  simp only [appendN, srcCells, CH.loadN, hq]
  rfl
theorem app_old {H : CH} {q r : Nat} {v : Int} {pre : List Int} (hq : H.get q = some (.cells [.int .u64 v] 23)) (hr : H.get r = some (.cells (wc pre) 23)) (hl : H.lim ≤ r) (hp : pre.length < 1000) :
    appendN 23 1 8 (.slice (some ⟨r, 0, none⟩) pre.length 2) (.slice (some ⟨q, 0, none⟩) 1 3) H = some (.slice (some ⟨H.n, 0, none⟩) (pre.length + 1) 2, (H.put r none).new (.cells (wc (pre ++ [v])) 23)) := by
  have e1 : H.loadN ⟨q, 0, none⟩ (1 * 1) = some [.int .u64 v] := by simp only [CH.loadN, hq]; rfl
  have e2 : H.loadN ⟨r, 0, none⟩ (pre.length * 1) = some (wc pre) := by
    simp only [CH.loadN, hr]
    rw [if_pos ⟨trivial, by simp⟩]
    simp only [Nat.mul_one, List.drop_zero]
    rw [List.take_of_length_le (by simp)]
  simp only [appendN, srcCells, e1, e2, Option.map_some, obs]
  rw [if_neg (by simp [isCell]), if_neg (by omega), if_pos ⟨by trivial, hl, by omega, by omega⟩]
  simp [wc]
theorem clo_round {K : Nat} (hK : 1 ≤ K) {G H : CH} {m : Int} {t0 t2 t4 t14 t15 : Value} {d : Nat} {pre : List Int} (hlim : G.lim ≤ G.n)
    (h : Clo G m (LP t0 t2 (.pointer (some ⟨G.n + 1, 0, none⟩)) t4 t14 t15 d) H pre) (hlen : pre.length < 1000) (v : Int) :
    ∃ H', (orc Go.Proofs.Try.prog KT K).round (G.n + 4) [.int .u64 v] H = some (.bool true, H') ∧ Clo G m (LP t0 t2 (.pointer (some ⟨G.n + 1, 0, none⟩)) t4 t14 t15 d) H' (pre ++ [v]) := by
  obtain ⟨K, rfl⟩ : ∃ j, K = j + 1 := ⟨K - 1, by omega⟩
  obtain ⟨sl, hs, ho⟩ := h.ex
  have hn := h.n
  have hlm := h.lim
  obtain ⟨L, eL⟩ : ∃ X, X = LP t0 t2 (.pointer (some ⟨G.n + 1, 0, none⟩)) t4 t14 t15 d := ⟨_, rfl⟩
  have hlp := h.lp
  rw [← eL] at hlp
  have es : L.state = .ready := by rw [eL]; rfl
  have ep : L.pending = none := by rw [eL]; rfl
  obtain ⟨Ha, eA⟩ : ∃ X, X = H.put (G.n + 4) (some (.loop { L with state := .busy })) := ⟨_, rfl⟩
  have bg : begRound (G.n + 4) H = some Ha := by rw [eA]; exact beg_go hlp (by omega) es
  obtain ⟨Hb, eB⟩ : ∃ X, X = Ha.new (.cells [.int .u64 v] 23) := ⟨_, rfl⟩
  have na : Ha.n = H.n := by rw [eA]; rfl
  have nb : Hb.n = H.n + 1 := by rw [eB, ← na]; rfl
  have la : Ha.lim = G.lim := by rw [eA]; exact h.lim
  have lb : Hb.lim = G.lim := by rw [eB]; exact la
  have ga : ∀ b, b ≠ G.n + 4 → Ha.get b = H.get b := fun b hb => by rw [eA]; exact CH.get_put_ne _ _ _ _ hb
  have gb : ∀ b, b ≠ G.n + 4 → b ≠ H.n → Hb.get b = H.get b := fun b hb hb2 => by rw [eB, CH.get_new_ne _ _ _ (by omega)]; exact ga b hb
  have gq : Hb.get Ha.n = some (.cells [.int .u64 v] 23) := by rw [eB]; exact CH.get_new _ _
  have p1 : ld1 (.pointer (some ⟨G.n + 1, 0, none⟩)) Ha = some (.pointer (some ⟨G.n, 0, none⟩)) := by rw [h_ld ((ga _ (by omega)).trans h.pc) (by simp)]; rfl
  have p2 : ld1 (.pointer (some ⟨G.n + 1, 0, none⟩)) Hb = some (.pointer (some ⟨G.n, 0, none⟩)) := by rw [h_ld ((gb _ (by omega) (by omega)).trans h.pc) (by simp)]; rfl
  have s1 : ld1 (.pointer (some ⟨G.n, 0 + 8, none⟩)) Ha = some sl := by rw [h_ld ((ga _ (by omega)).trans hs) (by simp [tx])]; rfl
  have s2 : ld1 (.pointer (some ⟨G.n, 0 + 8, none⟩)) Hb = some sl := by rw [h_ld ((gb _ (by omega) (by omega)).trans hs) (by simp [tx])]; rfl
  obtain ⟨Hc, r', a1, a2, a3, a4, a5⟩ : ∃ Hc r', appendN 23 1 8 sl (.slice (some ⟨Ha.n, 0, none⟩) 1 3) Hb = some (.slice (some ⟨r', 0, none⟩) (pre.length + 1) 2, Hc) ∧ r' = H.n + 1 ∧ Hc.n = H.n + 2 ∧
      Hc.get r' = some (.cells (wc (pre ++ [v])) 23) ∧ Hc.lim = G.lim ∧ (∀ b, b < G.n + 5 → Hc.get b = Hb.get b) := by
    rcases ho with ⟨rfl, rfl⟩ | ⟨_, r, rfl, hr, hr1, hr2⟩
    · exact ⟨_, _, app_nil gq, nb, by show Hb.n + 1 = _; omega, CH.get_new _ _, lb, fun b hb => CH.get_new_ne _ _ _ (by omega)⟩
    · refine ⟨_, _, app_old gq ((gb _ (by omega) (by omega)).trans hr) (by omega) hlen, nb, by show Hb.n + 1 = _; omega, CH.get_new _ _, lb, fun b hb => ?_⟩
      rw [CH.get_new_ne _ _ _ (by show b ≠ Hb.n; omega), CH.get_put_ne _ _ _ _ (by omega)]
  obtain ⟨a5, a6⟩ := a5
  have gc : ∀ b, b < G.n + 5 → b ≠ G.n + 4 → Hc.get b = H.get b := fun b hb hb2 => (a6 b hb).trans (gb b hb2 (by omega))
  have p3 : ld1 (.pointer (some ⟨G.n + 1, 0, none⟩)) Hc = some (.pointer (some ⟨G.n, 0, none⟩)) := by rw [h_ld ((gc _ (by omega) (by omega)).trans h.pc) (by simp)]; rfl
  obtain ⟨Hd, eD⟩ : ∃ X, X = Hc.put G.n (some (.cells (tx m ++ [.slice (some ⟨r', 0, none⟩) (pre.length + 1) 2]) 74)) := ⟨_, rfl⟩
  have st : stN 1 (.pointer (some ⟨G.n, 0 + 8, none⟩)) (.slice (some ⟨r', 0, none⟩) (pre.length + 1) 2) Hc = some Hd := by
    rw [eD]; exact h_stv rfl rfl ((gc _ (by omega) (by omega)).trans hs) (by simp [tx]) (by omega)
  have gl : Hd.get (G.n + 4) = some (.loop { L with state := .busy }) := by
    rw [eD, CH.get_put_ne _ _ _ _ (by omega), a6 _ (by omega), eB, CH.get_new_ne _ _ _ (by omega), eA]
    exact CH.get_put _ _ _
  have ld : Hd.lim = G.lim := by rw [eD]; exact a5
  have nd : Hd.n = H.n + 2 := by rw [eD]; exact a3
  have en : endRound (G.n + 4) 0 Hd = some (.bool true, Hd.put (G.n + 4) (some (.loop L))) := by
    rw [end_go gl (by omega)]
    cases L; simp only at es ep; subst es ep; rfl
  rw [← eL]
  refine ⟨Hd.put (G.n + 4) (some (.loop L)), ?_, ?_⟩
  · rw [round11 h.lp]
    simp only [jn11, n11_1, n11_4, n11_7, n11_8, n11_6, n11_9, n11_5t, n11_5f, n11_3, n11_11, n11_14, n11_17, n11_19, n11_18, n11_15, n11_13, n11_21, n11_22, n11_20, n11_12, n11_10, n11_2, n11_0, lk11, fin11_0, fin11_1, seqK_0, seqK_s, jnK_t, jnK_f, blkK_f0, blkK_t0, blkK_f1, blkK_t1, blkK_fx, blkK_tx, obs, List.set_cons_succ, List.set_cons_zero, Nat.reduceAdd, rd1K_0, bg, rd2K_nil, p1, v_nilC, v_field, s1, v_b1, eB.symm, s2, p2, chk_self, a1, p3, st, Option.map_some, en]
  · have gd : ∀ b, b < G.n + 5 → b ≠ G.n + 4 → b ≠ G.n → (Hd.put (G.n + 4) (some (.loop L))).get b = H.get b := fun b h1 h2 h3 => by
      rw [CH.get_put_ne _ _ _ _ h2, eD, CH.get_put_ne _ _ _ _ h3]; exact gc b h1 h2
    refine ⟨⟨.slice (some ⟨r', 0, none⟩) (pre.length + 1) 2, ?_, .inr ⟨by simp, r', ?_, ?_, by omega, ?_⟩⟩, ?_, ?_, CH.get_put _ _ _, ?_, ld, fun b hb => ?_⟩
    · rw [CH.get_put_ne _ _ _ _ (by omega), eD]; exact CH.get_put _ _ _
    · simp
    · rw [CH.get_put_ne _ _ _ _ (by omega), eD, CH.get_put_ne _ _ _ _ (by omega)]; exact a4
    · show r' < Hd.n; omega
    · rw [gd _ (by omega) (by omega) (by omega)]; exact h.pc
    · rw [gd _ (by omega) (by omega) (by omega)]; exact h.de
    · show _ ≤ Hd.n; omega
    · rw [gd _ (by omega) (by omega) (by omega)]; exact h.fr b hb
theorem v_yield (O : Orc) (l : Nat) (args : List Value) (H : CH) : callV Go.Proofs.Try.prog O (.func (.yield l) #[] #[]) args H = O.round l args H := by kernel_rfl
theorem clo_loop {G : CH} {m : Int} {t0 t1 t2 t4x t14 t15 : Value} {dd l c : Nat} {w : List Int} (hlim : G.lim ≤ G.n) (hg : G.get l = some (.cells (wc w) 23)) (hl : l < G.n) (hw : w.length < 1000) (ds : List Deferred) : ∀ (d K j : Nat) (H : CH) (t4 : Value), w.length - j ≤ d → d + 3 < K → j ≤ w.length →
    Clo G m (LP t0 t2 (.pointer (some ⟨G.n + 1, 0, none⟩)) t4x t14 t15 dd) H (w.take j) →
    ∃ H' t4', (orc Go.Proofs.Try.prog KT K).loop 34 none C34_10 [.func (.yield (G.n + 4)) #[] #[], t1, t4, .slice (some ⟨l, 0, none⟩) w.length c, .int .i64 w.length, .int .i64 j] ds H =
        some (2, [.func (.yield (G.n + 4)) #[] #[], t1, t4', .slice (some ⟨l, 0, none⟩) w.length c, .int .i64 w.length, .int .i64 w.length], ds, H') ∧ Clo G m (LP t0 t2 (.pointer (some ⟨G.n + 1, 0, none⟩)) t4x t14 t15 dd) H' w
  | d, K, j, H, t4, hd, hK, hj, h => by
    obtain ⟨K, rfl⟩ : ∃ j, K = j + 1 := ⟨K - 1, by omega⟩
    by_cases hm : j = w.length
    · subst hm
      have e : decide ((w.length : Int) < (w.length : Int)) = false := by simp
      refine ⟨H, t4, ?_, by rw [List.take_length] at h; exact h⟩
      rw [lp34_9]
      simp only [jn34, n34_2, n34_4, n34_5, n34_3t, n34_3f, n34_1, n34_7, n34_11, n34_14, n34_15, n34_13t, n34_13f, n34_19, n34_21, n34_23, n34_24, n34_22t, n34_22f, n34_20, n34_18, n34_17, n34_25, n34_16, n34_12, n34_10, n34_9, it34_9, ix34_9, n34_8, n34_6, n34_0, lk34, fin34_0, fin34_1, seqK_0, seqK_s, jnK_t, jnK_f, blkK_f0, blkK_t0, blkK_f1, blkK_t1, blkK_fx, blkK_tx, obs, List.set_cons_succ, List.set_cons_zero, Nat.reduceAdd, v_lss, e]
    · obtain ⟨d, rfl⟩ : ∃ j, d = j + 1 := ⟨d - 1, by omega⟩
      have e : decide ((j : Int) < (w.length : Int)) = true := by simp; omega
      obtain ⟨H1, r1, r2⟩ := clo_round (K := K) (by omega) hlim h (by simp; omega) (w.getD j 0)
      have hx : w.take j ++ [w.getD j 0] = w.take (j + 1) := by
        rw [List.take_add_one]; simp [List.getD_eq_getElem?_getD, show j < w.length by omega]
      rw [hx] at r2
      have rd : ld1 (.pointer (some ⟨l, 0 + (j : Int).toNat * 1, none⟩)) H = some (.int .u64 (w.getD j 0)) := by
        rw [h_ld ((h.fr l hl).trans hg) (by simp; omega)]
        simp [wc, List.getD_eq_getElem?_getD, show j < w.length by omega]
      have wj : IntKind.i64.wrap ((j : Int) + 1) = ((j + 1 : Nat) : Int) := by rw [i_id (by omega) (by omega)]; omega
      obtain ⟨H2, t4', z1, z2⟩ := clo_loop (t1 := t1) (c := c) hlim hg hl hw ds d K (j + 1) H1 (.int .u64 (w.getD j 0)) (by omega) (by omega) (by omega) r2
      refine ⟨H2, t4', ?_, z2⟩
      rw [lp34_9]
      simp only [jn34, n34_2, n34_4, n34_5, n34_3t, n34_3f, n34_1, n34_7, n34_11, n34_14, n34_15, n34_13t, n34_13f, n34_19, n34_21, n34_23, n34_24, n34_22t, n34_22f, n34_20, n34_18, n34_17, n34_25, n34_16, n34_12, n34_10, n34_9, it34_9, ix34_9, n34_8, n34_6, n34_0, lk34, fin34_0, fin34_1, seqK_0, seqK_s, jnK_t, jnK_f, blkK_f0, blkK_t0, blkK_f1, blkK_t1, blkK_fx, blkK_tx, obs, List.set_cons_succ, List.set_cons_zero, Nat.reduceAdd, v_lss, e, v_idx _ _ _ _ _ _ _ (show (0 : Int) ≤ j by omega) (show (j : Int) < w.length by omega), rd, v_yield, r1, v_not, Bool.not_true, v_add, wj, z1]
theorem all_spec {K : Nat} (hK : 1 ≤ K) (b : Nat) (H : CH) : (orc Go.Proofs.Try.prog KT K).call 16 [.pointer (some ⟨b, 0, none⟩)] H = some (.func (.func 34) #[] #[.pointer (some ⟨H.n, 0, none⟩)], H.new (.cells [.pointer (some ⟨b, 0, none⟩)] 25)) := by
  obtain ⟨K, rfl⟩ : ∃ j, K = j + 1 := ⟨K - 1, by omega⟩
  rw [call16]
  simp only [jn16, n16_1, n16_3, n16_4, n16_2, n16_0, lk16, fin16_0, fin16_1, seqK_0, seqK_s, jnK_t, jnK_f, blkK_f0, blkK_t0, blkK_f1, blkK_t1, blkK_fx, blkK_tx, obs, List.set_cons_succ, List.set_cons_zero, Nat.reduceAdd, v_ptrc, v_newV]
theorem iter_spec {K : Nat} (hK : 1010 ≤ K) {G H : CH} {m : Int} {t0 t2 t4x t14 t15 : Value} {dd b l c : Nat} {w : List Int} (hlim : G.lim ≤ G.n) (ht : Tab G b m l c w)
    (h : Clo G m (LP t0 t2 (.pointer (some ⟨G.n + 1, 0, none⟩)) t4x t14 t15 dd) H []) (hc : H.get (G.n + 2) = some (.cells [.pointer (some ⟨b, 0, none⟩)] 25)) :
    ∃ H', (orc Go.Proofs.Try.prog KT K).call 34 [.func (.yield (G.n + 4)) #[] #[], .pointer (some ⟨G.n + 2, 0, none⟩)] H = some (.tuple ⟨[]⟩, H') ∧ Clo G m (LP t0 t2 (.pointer (some ⟨G.n + 1, 0, none⟩)) t4x t14 t15 dd) H' w := by
  obtain ⟨K, rfl⟩ : ∃ j, K = j + 1 := ⟨K - 1, by omega⟩
  have hn := h.n
  have htH : Tab H b m l c w := ⟨(h.fr b ht.bn).trans ht.blk, (h.fr l ht.ln).trans ht.row, by rw [h.lim]; exact ht.own, ht.short, ht.cap, by have := ht.bn; omega, by have := ht.ln; omega, ht.ne⟩
  have p : ld1 (.pointer (some ⟨G.n + 2, 0, none⟩)) H = some (.pointer (some ⟨b, 0, none⟩)) := by rw [h_ld hc (by simp)]; rfl
  obtain ⟨H2, t4', z1, z2⟩ := clo_loop (t1 := .pointer (some ⟨G.n + 2, 0, none⟩)) (c := c) hlim ht.row ht.ln ht.short [] w.length K 0 H undef (by omega) (by have := ht.short; omega) (by omega) (by simpa using h)
  refine ⟨H2, ?_, z2⟩
  rw [call34]
  have z0 : ((0 : Nat) : Int) = 0 := rfl
  rw [z0] at z1
  simp only [jn34, n34_2, n34_4, n34_5, n34_3t, n34_3f, n34_1, n34_7, n34_11, n34_14, n34_15, n34_13t, n34_13f, n34_19, n34_21, n34_23, n34_24, n34_22t, n34_22f, n34_20, n34_18, n34_17, n34_25, n34_16, n34_12, n34_10, n34_9, it34_9, ix34_9, n34_8, n34_6, n34_0, lk34, fin34_0, fin34_1, seqK_0, seqK_s, jnK_t, jnK_f, blkK_f0, blkK_t0, blkK_f1, blkK_t1, blkK_fx, blkK_tx, obs, List.set_cons_succ, List.set_cons_zero, Nat.reduceAdd, p, v_ptr, v_nilC, v_field, tab_slice htH, v_len, z1]
theorem fin11d (t0 t1 t2 t3 t4 t5 t6 t7 t8 t9 t10 t11 t12 t13 t14 t15 t16 t17 t18 t19 t20 t21 t22 t23 t24 t25 t26 : Value) (d : Nat) (H : CH) (h : H.get d = some (.defs true)) (hl : H.lim ≤ d) : finK Go.Proofs.Try.prog 11 1 ⟨[t0, t1, t2, t3, t4, t5, t6, t7, t8, t9, t10, t11, t12, t13, t14, t15, t16, t17, t18, t19, t20, t21, t22, t23, t24, t25, t26], [⟨.collected d, #[]⟩]⟩ H = some (t2, H.put d (some (.defs false))) := by
  have e : finK Go.Proofs.Try.prog 11 1 ⟨[t0, t1, t2, t3, t4, t5, t6, t7, t8, t9, t10, t11, t12, t13, t14, t15, t16, t17, t18, t19, t20, t21, t22, t23, t24, t25, t26], [⟨.collected d, #[]⟩]⟩ H = runDefs [⟨.collected d, #[]⟩] H (fun H => some (t2, H)) := by kernel_rfl
  rw [e]
  simp only [runDefs, h, Nat.ble_eq_true_of_le hl, cond_true]
theorem clone_spec {K : Nat} (hK : 1020 ≤ K) {G : CH} {m : Int} {b l c : Nat} {w : List Int} (hlim : G.lim ≤ G.n) (ht : Tab G b m l c w) (hw : w ≠ []) :
    ∃ H' b' l', (orc Go.Proofs.Try.prog KT K).call 11 [.pointer (some ⟨b, 0, none⟩)] G = some (.pointer (some ⟨b', 0, none⟩), H') ∧ Tab H' b' m l' 2 w ∧ Fx G.n G H' ∧ G.n ≤ b' ∧ G.n ≤ l' := by
  obtain ⟨K, rfl⟩ : ∃ j, K = j + 1 := ⟨K - 1, by omega⟩
  obtain ⟨G1, e1⟩ : ∃ X, X = G.new (.cells (tx m ++ [.slice none 0 0]) 74) := ⟨_, rfl⟩
  obtain ⟨G2, e2⟩ : ∃ X, X = G1.new (.cells [.pointer none] 25) := ⟨_, rfl⟩
  obtain ⟨G3, e3⟩ : ∃ X, X = G2.put G1.n (some (.cells [.pointer (some ⟨G.n, 0, none⟩)] 25)) := ⟨_, rfl⟩
  obtain ⟨G4, e4⟩ : ∃ X, X = G3.new (.cells [.pointer (some ⟨b, 0, none⟩)] 25) := ⟨_, rfl⟩
  obtain ⟨G5, e5⟩ : ∃ X, X = G4.new (.defs true) := ⟨_, rfl⟩
  obtain ⟨G6, e6⟩ : ∃ X, X = G5.new (.loop (LP (.pointer (some ⟨b, 0, none⟩)) (.pointer none) (.pointer (some ⟨G1.n, 0, none⟩)) undef (.func (.func 34) #[] #[.pointer (some ⟨G3.n, 0, none⟩)]) undef G4.n)) := ⟨_, rfl⟩
  have n1 : G1.n = G.n + 1 := by rw [e1]; rfl
  have n2 : G2.n = G.n + 2 := by rw [e2]; show G1.n + 1 = _; omega
  have n3 : G3.n = G.n + 2 := by rw [e3]; exact n2
  have n4 : G4.n = G.n + 3 := by rw [e4]; show G3.n + 1 = _; omega
  have n5 : G5.n = G.n + 4 := by rw [e5]; show G4.n + 1 = _; omega
  have n6 : G6.n = G.n + 5 := by rw [e6]; show G5.n + 1 = _; omega
  have st : stN 1 (.pointer (some ⟨G1.n, 0, none⟩)) (.pointer (some ⟨G.n, 0, none⟩)) G2 = some G3 := by
    have g2 : G2.get G1.n = some (.cells [.pointer none] 25) := by rw [e2]; exact CH.get_new _ _
    have l2 : G2.lim = G.lim := by rw [e2, e1]; rfl
    rw [e3]
    exact h_stv rfl rfl g2 (by simp) (by omega)
  have g : ∀ x, x < G.n + 1 → G6.get x = G1.get x := fun x hx => by
    rw [e6, CH.get_new_ne _ _ _ (by omega), e5, CH.get_new_ne _ _ _ (by omega), e4, CH.get_new_ne _ _ _ (by omega), e3, CH.get_put_ne _ _ _ _ (by omega), e2, CH.get_new_ne _ _ _ (by omega)]
  have clo : Clo G m (LP (.pointer (some ⟨b, 0, none⟩)) (.pointer none) (.pointer (some ⟨G.n + 1, 0, none⟩)) undef (.func (.func 34) #[] #[.pointer (some ⟨G3.n, 0, none⟩)]) undef G4.n) G6 [] := by
    refine ⟨⟨.slice none 0 0, ?_, .inl ⟨rfl, rfl⟩⟩, ?_, ?_, ?_, by omega, ?_, fun x hx => ?_⟩
    · rw [g _ (by omega), e1]; exact CH.get_new _ _
    · rw [e6, CH.get_new_ne _ _ _ (by omega), e5, CH.get_new_ne _ _ _ (by omega), e4, CH.get_new_ne _ _ _ (by omega), e3, n1]; exact CH.get_put _ _ _
    · rw [e6, CH.get_new_ne _ _ _ (by omega), e5, ← n4]; exact CH.get_new _ _
    · rw [e6, ← n5, n1]; exact CH.get_new _ _
    · rw [e6, e5, e4, e3, e2, e1]; rfl
    · rw [g _ (by omega), e1, CH.get_new_ne _ _ _ (by omega)]
  have cell : G6.get (G.n + 2) = some (.cells [.pointer (some ⟨b, 0, none⟩)] 25) := by
    rw [e6, CH.get_new_ne _ _ _ (by omega), e5, CH.get_new_ne _ _ _ (by omega), e4, ← n3]; exact CH.get_new _ _
  obtain ⟨H7, y1, y2⟩ := iter_spec (K := K) (by omega) hlim ht clo cell
  have y1' : (orc Go.Proofs.Try.prog KT K).call 34 [.func (.yield (G4.n + 1)) #[] #[], .pointer (some ⟨G3.n, 0, none⟩)] G6 = some (.tuple ⟨[]⟩, H7) := by
    rw [n4, n3]; exact y1
  have hn7 := y2.n
  have hl7 := y2.lim
  obtain ⟨H8, e8⟩ : ∃ X, X = H7.put (G.n + 4) (some (.loop { LP (.pointer (some ⟨b, 0, none⟩)) (.pointer none) (.pointer (some ⟨G.n + 1, 0, none⟩)) undef (.func (.func 34) #[] #[.pointer (some ⟨G3.n, 0, none⟩)]) undef G4.n with state := .exhausted })) := ⟨_, rfl⟩
  have y3 : endLp H7 (G4.n + 1) = some (0, H8) := by
    rw [e8, show G4.n + 1 = G.n + 4 by omega]; exact lpend_go y2.lp (by omega) rfl rfl
  have g8 : ∀ x, x ≠ G.n + 4 → H8.get x = H7.get x := fun x hx => by rw [e8]; exact CH.get_put_ne _ _ _ _ hx
  have l8 : H8.lim = G.lim := by rw [e8]; exact hl7
  have p8 : ld1 (.pointer (some ⟨G1.n, 0, none⟩)) H8 = some (.pointer (some ⟨G.n, 0, none⟩)) := by rw [n1, h_ld ((g8 _ (by omega)).trans y2.pc) (by simp)]; rfl
  have f8 := fun (t0 t1 t2 t3 t4 t5 t6 t7 t8 t9 t10 t11 t12 t13 t14 t15 t16 t17 t18 t19 t20 t21 t22 t23 t24 t25 t26 : Value) => fin11d t0 t1 t2 t3 t4 t5 t6 t7 t8 t9 t10 t11 t12 t13 t14 t15 t16 t17 t18 t19 t20 t21 t22 t23 t24 t25 t26 (G4.n) H8 (by rw [n4, g8 _ (by omega)]; exact y2.de) (by omega)
  obtain ⟨sl, hs, ho⟩ := y2.ex
  rcases ho with ⟨rfl, _⟩ | ⟨_, r, rfl, hr, hr1, hr2⟩
  · exact absurd rfl hw
  refine ⟨H8.put G4.n (some (.defs false)), G.n, r, ?_, ?_, ?_, by omega, by omega⟩
  · rw [call11]
    simp only [jn11, n11_1, n11_4, n11_7, n11_8, n11_6, n11_9, n11_5t, n11_5f, n11_3, n11_11, n11_14, n11_17, n11_19, n11_18, n11_15, n11_13, n11_21, n11_22, n11_20, n11_12, n11_10, n11_2, n11_0, lk11, fin11_0, fin11_1, seqK_0, seqK_s, jnK_t, jnK_f, blkK_f0, blkK_t0, blkK_f1, blkK_t1, blkK_fx, blkK_tx, obs, List.set_cons_succ, List.set_cons_zero, Nat.reduceAdd, v_ptr, v_nilC, v_field, tab_x ht, v_tab0, v_agg, v_newV, e1.symm, e2.symm, st, Option.map_some, all_spec (show 1 ≤ K by omega), e4.symm, rf11, e5.symm, e6.symm, y1', y3, p8, f8]
  · refine ⟨?_, ?_, by show H8.lim ≤ r; omega, ht.short, .inr rfl, ?_, ?_, by omega⟩
    · rw [CH.get_put_ne _ _ _ _ (by omega), g8 _ (by omega)]; exact hs
    · rw [CH.get_put_ne _ _ _ _ (by omega), g8 _ (by omega)]; exact hr
    · show _ < H8.n; rw [e8]; show _ < H7.n; omega
    · show _ < H8.n; rw [e8]; show _ < H7.n; omega
  · refine ⟨?_, l8, fun x hx _ => ?_⟩
    · show _ ≤ H8.n; rw [e8]; show _ ≤ H7.n; omega
    · rw [CH.get_put_ne _ _ _ _ (by omega), g8 _ (by omega)]; exact y2.fr x hx
end Go.Cn
