/- A table's functions, as the canonical run makes them. -/
import Derived.Test.YtolbpklaniifhaaSp
namespace Go.Cn
set_option linter.unusedVariables false
set_option linter.unusedSimpArgs false
def tx (m : Int) : List Value := [.int .i64 0, .bool false, .int .i64 0, .int .i64 0, .bool false, .int .u64 m, .int .u64 0, .bool false]
/-- Block 'b' is a table over the words of block 'l'. -/
structure Tab (H : CH) (b : Nat) (m : Int) (l c : Nat) (w : List Int) : Prop where
  blk : H.get b = some (.cells (tx m ++ [.slice (some ⟨l, 0, none⟩) w.length c]) 74)
  row : H.get l = some (.cells (wc w) 23)
  own : H.lim ≤ l
  short : w.length < 1000
  cap : Cap c w.length
  bn : b < H.n
  ln : l < H.n
  ne : b ≠ l
theorem Tab.fx {H H' : CH} {b : Nat} {m : Int} {l c : Nat} {w : List Int} (h : Tab H b m l c w) {x : Nat} (f : Fx x H H') (hb : b ≠ x) (hl : l ≠ x) : Tab H' b m l c w :=
  ⟨(f.get b h.bn hb).trans h.blk, (f.get l h.ln hl).trans h.row, by rw [f.lim]; exact h.own, h.short, h.cap, Nat.lt_of_lt_of_le h.bn f.n, Nat.lt_of_lt_of_le h.ln f.n, h.ne⟩
/-- The words turn. -/
theorem Tab.words {H H' : CH} {b : Nat} {m : Int} {l c : Nat} {w w' : List Int} (h : Tab H b m l c w) (f : Fx l H H') (hw : w'.length = w.length) (hr : H'.get l = some (.cells (wc w') 23)) : Tab H' b m l c w' :=
  ⟨by rw [hw]; exact (f.get b h.bn h.ne).trans h.blk, hr, by rw [f.lim]; exact h.own, by rw [hw]; exact h.short, by rw [hw]; exact h.cap, Nat.lt_of_lt_of_le h.bn f.n, Nat.lt_of_lt_of_le h.ln f.n, h.ne⟩
section
variable {H : CH} {b : Nat} {m : Int} {l c : Nat} {w : List Int} {K : Nat}
theorem tab_slice (h : Tab H b m l c w) : ld1 (.pointer (some ⟨b, 0 + 8, none⟩)) H = some (.slice (some ⟨l, 0, none⟩) w.length c) := by
  rw [h_ld h.blk (by simp [tx])]; rfl
theorem tab_x (h : Tab H b m l c w) : ldN 8 (.pointer (some ⟨b, 0 + 0, none⟩)) H = some (.agg ⟨tx m⟩) := by
  simp only [ldN, asP, obs, CH.loadN, h.blk]
  rw [if_pos ⟨trivial, by simp [tx]⟩]; rfl
theorem tab_word (h : Tab H b m l c w) {i : Int} (h0 : 0 ≤ i) (hi : i < w.length) : ld1 (.pointer (some ⟨l, 0 + i.toNat * 1, none⟩)) H = some (.int .u64 (w.getD i.toNat 0)) := by
  rw [h_ld h.row (by simp; omega)]
  simp [wc, List.getD_eq_getElem?_getD, show i.toNat < w.length by omega]
theorem tab_len (h : Tab H b m l c w) : IntKind.u64.wrap (w.length : Int) = w.length := u_id (by omega) (by have := h.short; omega)
theorem size_spec (hK : 1 ≤ K) (h : Tab H b m l c w) : (orc Go.Proofs.Try.prog KT K).call 17 [.pointer (some ⟨b, 0, none⟩)] H = some (.int .u64 w.length, H) := by
  obtain ⟨K, rfl⟩ : ∃ j, K = j + 1 := ⟨K - 1, by omega⟩
  rw [call17]
  simp only [jn17, n17_1, n17_4, n17_7, n17_8, n17_6, n17_9, n17_5t, n17_5f, n17_3, n17_11, n17_12, n17_10, n17_2, n17_0, lk17, fin17_0, fin17_1, seqK_0, seqK_s, jnK_t, jnK_f, blkK_f0, blkK_t0, blkK_f1, blkK_t1, blkK_fx, blkK_tx, obs, List.set_cons_succ, List.set_cons_zero, Nat.reduceAdd, v_ptr, v_nilC, v_field, tab_slice h, v_len, v_conv, tab_len h]
theorem get_spec (hK : 2 ≤ K) (h : Tab H b m l c w) {i : Int} (h0 : 0 ≤ i) (hi : i < w.length) : (orc Go.Proofs.Try.prog KT K).call 13 [.pointer (some ⟨b, 0, none⟩), .int .u64 i] H = some (.tuple ⟨[.int .u64 (w.getD i.toNat 0), .int .i64 0]⟩, H) := by
  obtain ⟨K, rfl⟩ : ∃ j, K = j + 1 := ⟨K - 1, by omega⟩
  rw [call13]
  have e : decide (i ≥ (w.length : Int)) = false := by simp; omega
  simp only [jn13, n13_1, n13_5, n13_8, n13_9, n13_7, n13_11, n13_14, n13_15, n13_13, n13_16, n13_12t, n13_12f, n13_10, n13_6t, n13_6f, n13_4, n13_3, n13_18, n13_19, n13_17, n13_2, n13_0, lk13, fin13_0, fin13_1, seqK_0, seqK_s, jnK_t, jnK_f, blkK_f0, blkK_t0, blkK_f1, blkK_t1, blkK_fx, blkK_tx, obs, List.set_cons_succ, List.set_cons_zero, Nat.reduceAdd, v_ptr, v_nilC, v_field, tab_slice h, v_len, v_conv, size_spec (show 1 ≤ K by omega) h, v_geq, e, v_idx _ _ _ _ _ _ _ h0 hi, tab_word h h0 hi]
theorem set_spec (hK : 3 ≤ K) (h : Tab H b m l c w) {i v : Int} (h0 : 0 ≤ i) (hi : i < w.length) : ∃ H', (orc Go.Proofs.Try.prog KT K).call 10 [.pointer (some ⟨b, 0, none⟩), .int .u64 i, .int .u64 v] H = some (.int .i64 0, H') ∧
    Tab H' b m l c (spl w i.toNat [v]) ∧ Fx l H H' ∧ H'.n = H.n := by
  obtain ⟨K, rfl⟩ : ∃ j, K = j + 1 := ⟨K - 1, by omega⟩
  have st := h_st (k := .u64) (v := v) (o := 0 + i.toNat * 1) h.row (by simp; omega) h.own
  have sp : CH.splice (wc w) (0 + i.toNat * 1) [.int .u64 v] = wc (spl w i.toNat [v]) := by
    have := wc_splice w i.toNat [v]
    simpa [wc] using this
  rw [sp] at st
  refine ⟨H.put l (some (.cells (wc (spl w i.toNat [v])) 23)), ?_, h.words (Fx.put _ _ _) (spl_len (by simp; omega)) (CH.get_put _ _ _), Fx.put _ _ _, rfl⟩
  rw [call10]
  have e : ((0 : Int) == 0) = true := rfl
  simp only [jn10, n10_1, n10_3, n10_6, n10_8, n10_9, n10_7t, n10_7f, n10_5, n10_11, n10_12, n10_10, n10_4, n10_2, n10_0, lk10, fin10_0, fin10_1, seqK_0, seqK_s, jnK_t, jnK_f, blkK_f0, blkK_t0, blkK_f1, blkK_t1, blkK_fx, blkK_tx, obs, List.set_cons_succ, List.set_cons_zero, Nat.reduceAdd, v_ptr, v_nilC, v_field, tab_slice h, v_eql, e, get_spec (show 2 ≤ K by omega) h h0 hi, v_ex0, v_ex1, v_idx _ _ _ _ _ _ _ h0 hi, st, Option.map_some]
theorem in_spec (hK : 1 ≤ K) {a : Option Addr} {n cc : Nat} {at_ k : Int} (ha : 0 ≤ at_) (hk : 0 ≤ k) (hn : n < 2 ^ 62) (hk2 : k < 2 ^ 64) : (orc Go.Proofs.Try.prog KT K).call 32 [.slice a n cc, .int .u64 at_, .int .u64 k] H = some (.bool (decide (at_ + k ≤ n)), H) := by
  obtain ⟨K, rfl⟩ : ∃ j, K = j + 1 := ⟨K - 1, by omega⟩
  have un : IntKind.u64.wrap (n : Int) = n := u_id (by omega) (by omega)
  rw [call32]
  by_cases h : at_ ≤ n
  · have e1 : decide (at_ ≤ (n : Int)) = true := by simp [h]
    have e2 : IntKind.u64.wrap ((n : Int) - at_) = n - at_ := u_id (by omega) (by omega)
    have e3 : decide (k ≤ (n : Int) - at_) = decide (at_ + k ≤ n) := by congr 1; simp; omega
    simp only [jn32, n32_1, n32_3, n32_5, n32_6, n32_4, n32_2, n32_0, lk32, fin32_0, fin32_1, seqK_0, seqK_s, jnK_t, jnK_f, blkK_f0, blkK_t0, blkK_f1, blkK_t1, blkK_fx, blkK_tx, obs, List.set_cons_succ, List.set_cons_zero, Nat.reduceAdd, v_len, v_conv, un, v_leq, e1, v_asB, cond_true, cond_false, v_sub, e2, e3, setAll1]
  · have e1 : decide (at_ ≤ (n : Int)) = false := by simp; omega
    have e3 : decide (at_ + k ≤ (n : Int)) = false := by simp; omega
    simp only [jn32, n32_1, n32_3, n32_5, n32_6, n32_4, n32_2, n32_0, lk32, fin32_0, fin32_1, seqK_0, seqK_s, jnK_t, jnK_f, blkK_f0, blkK_t0, blkK_f1, blkK_t1, blkK_fx, blkK_tx, obs, List.set_cons_succ, List.set_cons_zero, Nat.reduceAdd, v_len, v_conv, un, v_leq, e1, v_asB, cond_true, cond_false, e3, setAll1]
theorem init_bad (hK : 2 ≤ K) (h : Tab H b m l c w) {a : Option Addr} {n cc : Nat} {at_ src k : Int} (ha : 0 ≤ at_) (hs : 0 ≤ src) (hk : 0 ≤ k) (hn : n < 2 ^ 62) (hk2 : k < 2 ^ 64) (hb : ¬ (at_ + k ≤ w.length ∧ src + k ≤ n)) :
    (orc Go.Proofs.Try.prog KT K).call 9 [.pointer (some ⟨b, 0, none⟩), .int .u64 at_, .slice a n cc, .int .u64 src, .int .u64 k] H = some (.int .i64 260, H) := by
  obtain ⟨K, rfl⟩ : ∃ j, K = j + 1 := ⟨K - 1, by omega⟩
  have hw : w.length < 2 ^ 62 := by have := h.short; omega
  have i1 := fun H => in_spec (H := H) (show 1 ≤ K by omega) (a := some ⟨l, 0, none⟩) (n := w.length) (cc := c) ha hk hw hk2
  have i2 := fun H => in_spec (H := H) (show 1 ≤ K by omega) (a := a) (n := n) (cc := cc) hs hk hn hk2
  rw [call9]
  by_cases h1 : at_ + k ≤ w.length
  · have e1 : decide (at_ + k ≤ (w.length : Int)) = true := by simp [h1]
    have e2 : decide (src + k ≤ (n : Int)) = false := by simp; omega
    simp only [jn9, n9_1, n9_5, n9_8, n9_9, n9_7, n9_11, n9_14, n9_15, n9_13, n9_16, n9_12t, n9_12f, n9_10, n9_6t, n9_6f, n9_4, n9_3, n9_18, n9_20, n9_21, n9_19, n9_17, n9_2, n9_0, lk9, fin9_0, fin9_1, seqK_0, seqK_s, jnK_t, jnK_f, blkK_f0, blkK_t0, blkK_f1, blkK_t1, blkK_fx, blkK_tx, obs, List.set_cons_succ, List.set_cons_zero, Nat.reduceAdd, v_ptr, v_nilC, v_field, tab_slice h, i1, i2, e1, e2, v_not, Bool.not_true, Bool.not_false, v_asB, cond_true, cond_false, setAll1]
  · have e1 : decide (at_ + k ≤ (w.length : Int)) = false := by simp; omega
    simp only [jn9, n9_1, n9_5, n9_8, n9_9, n9_7, n9_11, n9_14, n9_15, n9_13, n9_16, n9_12t, n9_12f, n9_10, n9_6t, n9_6f, n9_4, n9_3, n9_18, n9_20, n9_21, n9_19, n9_17, n9_2, n9_0, lk9, fin9_0, fin9_1, seqK_0, seqK_s, jnK_t, jnK_f, blkK_f0, blkK_t0, blkK_f1, blkK_t1, blkK_fx, blkK_tx, obs, List.set_cons_succ, List.set_cons_zero, Nat.reduceAdd, v_ptr, v_nilC, v_field, tab_slice h, i1, i2, e1, v_not, Bool.not_true, Bool.not_false, v_asB, cond_true, cond_false, setAll1]
theorem init_ok (hK : 2 ≤ K) (h : Tab H b m l c w) {s n cc : Nat} {ws : List Int} (hs : H.get s = some (.cells (wc ws) 23)) (hn : n = ws.length) (hc : Cap cc n) (hn2 : n < 2 ^ 62) {at_ src k : Int} (ha : 0 ≤ at_) (hr : 0 ≤ src) (hk : 0 ≤ k)
    (h1 : at_ + k ≤ w.length) (h2 : src + k ≤ n) :
    ∃ H', (orc Go.Proofs.Try.prog KT K).call 9 [.pointer (some ⟨b, 0, none⟩), .int .u64 at_, .slice (some ⟨s, 0, none⟩) n cc, .int .u64 src, .int .u64 k] H = some (.int .i64 0, H') ∧
      Tab H' b m l c (spl w at_.toNat ((ws.drop src.toNat).take k.toNat)) ∧ Fx l H H' ∧ H'.n = H.n := by
  obtain ⟨K, rfl⟩ : ∃ j, K = j + 1 := ⟨K - 1, by omega⟩
  have hw : w.length < 2 ^ 62 := by have := h.short; omega
  have i1 := fun H => in_spec (H := H) (show 1 ≤ K by omega) (a := some ⟨l, 0, none⟩) (n := w.length) (cc := c) ha hk hw (by omega)
  have i2 := fun H => in_spec (H := H) (show 1 ≤ K by omega) (a := some ⟨s, 0, none⟩) (n := n) (cc := cc) hr hk hn2 (by omega)
  have e1 : decide (at_ + k ≤ (w.length : Int)) = true := by simp [h1]
  have e2 : decide (src + k ≤ (n : Int)) = true := by simp [h2]
  have u1 : IntKind.u64.wrap (at_ + k) = at_ + k := u_id (by omega) (by omega)
  have u2 : IntKind.u64.wrap (src + k) = src + k := u_id (by omega) (by omega)
  obtain ⟨o1, c1, s1, s1a, s1b⟩ := v_slice (l := l) (len := w.length) h.cap ha (show at_ ≤ at_ + k by omega) h1 .u64 .u64
  obtain ⟨o2, c2, s2, s2a, s2b⟩ := v_slice (l := s) (len := n) hc hr (show src ≤ src + k by omega) h2 .u64 .u64
  obtain ⟨H1, y1, y2, y3, y4⟩ := h_copy (c1 := c1) (c2 := c2) (o := o1) (o2 := o2) (m := (at_ + k).toNat - at_.toNat) (k := (src + k).toNat - src.toNat) h.row hs (by omega) (by omega) h.own
  have hmin : min ((src + k).toNat - src.toNat) ((at_ + k).toNat - at_.toNat) = k.toNat := by omega
  rw [hmin] at y2
  have g : spl w o1 ((ws.drop o2).take k.toNat) = spl w at_.toNat ((ws.drop src.toNat).take k.toNat) := by
    rcases Int.le_iff_lt_or_eq.1 hk with hp | hp
    · rw [s1a (by omega), s2a (by omega)]
    · rw [← hp]; simp [spl_nil]
  rw [g] at y2
  refine ⟨H1, ?_, h.words y3 (spl_len (by simp; omega)) y2, y3, y4⟩
  rw [call9]
  simp only [jn9, n9_1, n9_5, n9_8, n9_9, n9_7, n9_11, n9_14, n9_15, n9_13, n9_16, n9_12t, n9_12f, n9_10, n9_6t, n9_6f, n9_4, n9_3, n9_18, n9_20, n9_21, n9_19, n9_17, n9_2, n9_0, lk9, fin9_0, fin9_1, seqK_0, seqK_s, jnK_t, jnK_f, blkK_f0, blkK_t0, blkK_f1, blkK_t1, blkK_fx, blkK_tx, obs, List.set_cons_succ, List.set_cons_zero, Nat.reduceAdd, v_ptr, v_nilC, v_field, tab_slice h, i1, i2, e1, e2, v_not, Bool.not_true, Bool.not_false, v_asB, cond_true, cond_false, setAll1, v_add, u1, u2, s1, s2, y1]
theorem copy_bad (hK : 3 ≤ K) (h : Tab H b m l c w) {at_ src k : Int} (ha : 0 ≤ at_) (hs : 0 ≤ src) (hk : 0 ≤ k) (hk2 : k < 2 ^ 64) (hb : ¬ (at_ + k ≤ w.length ∧ src + k ≤ w.length)) :
    (orc Go.Proofs.Try.prog KT K).call 12 [.pointer (some ⟨b, 0, none⟩), .int .u64 at_, .pointer (some ⟨b, 0, none⟩), .int .u64 src, .int .u64 k] H = some (.int .i64 260, H) := by
  obtain ⟨K, rfl⟩ : ∃ j, K = j + 1 := ⟨K - 1, by omega⟩
  rw [call12]
  simp only [jn12, n12_1, n12_4, n12_7, n12_8, n12_6, n12_9, n12_5t, n12_5f, n12_3, n12_11, n12_12, n12_10, n12_2, n12_0, lk12, fin12_0, fin12_1, seqK_0, seqK_s, jnK_t, jnK_f, blkK_f0, blkK_t0, blkK_f1, blkK_t1, blkK_fx, blkK_tx, obs, List.set_cons_succ, List.set_cons_zero, Nat.reduceAdd, v_ptr, v_nilC, v_field, tab_slice h, v_asB, cond_true, cond_false, setAll1, init_bad (show 2 ≤ K by omega) h ha hs hk (show w.length < 2 ^ 62 by have := h.short; omega) hk2 hb]
theorem copy_ok (hK : 3 ≤ K) (h : Tab H b m l c w) {at_ src k : Int} (ha : 0 ≤ at_) (hr : 0 ≤ src) (hk : 0 ≤ k) (h1 : at_ + k ≤ w.length) (h2 : src + k ≤ w.length) :
    ∃ H', (orc Go.Proofs.Try.prog KT K).call 12 [.pointer (some ⟨b, 0, none⟩), .int .u64 at_, .pointer (some ⟨b, 0, none⟩), .int .u64 src, .int .u64 k] H = some (.int .i64 0, H') ∧
      Tab H' b m l c (spl w at_.toNat ((w.drop src.toNat).take k.toNat)) ∧ Fx l H H' ∧ H'.n = H.n := by
  obtain ⟨K, rfl⟩ : ∃ j, K = j + 1 := ⟨K - 1, by omega⟩
  obtain ⟨H1, y1, y⟩ := init_ok (show 2 ≤ K by omega) h h.row rfl h.cap (by have := h.short; omega) ha hr hk h1 h2
  refine ⟨H1, ?_, y⟩
  rw [call12]
  simp only [jn12, n12_1, n12_4, n12_7, n12_8, n12_6, n12_9, n12_5t, n12_5f, n12_3, n12_11, n12_12, n12_10, n12_2, n12_0, lk12, fin12_0, fin12_1, seqK_0, seqK_s, jnK_t, jnK_f, blkK_f0, blkK_t0, blkK_f1, blkK_t1, blkK_fx, blkK_tx, obs, List.set_cons_succ, List.set_cons_zero, Nat.reduceAdd, v_ptr, v_nilC, v_field, tab_slice h, v_asB, cond_true, cond_false, setAll1, y1]
theorem fill_bad (hK : 2 ≤ K) (h : Tab H b m l c w) {at_ v k : Int} (ha : 0 ≤ at_) (hk : 0 ≤ k) (hk2 : k < 2 ^ 64) (hb : ¬ at_ + k ≤ w.length) :
    (orc Go.Proofs.Try.prog KT K).call 14 [.pointer (some ⟨b, 0, none⟩), .int .u64 at_, .int .u64 v, .int .u64 k] H = some (.int .i64 260, H) := by
  obtain ⟨K, rfl⟩ : ∃ j, K = j + 1 := ⟨K - 1, by omega⟩
  have hw : w.length < 2 ^ 62 := by have := h.short; omega
  have i1 := fun H => in_spec (H := H) (show 1 ≤ K by omega) (a := some ⟨l, 0, none⟩) (n := w.length) (cc := c) ha hk hw hk2
  have e1 : decide (at_ + k ≤ (w.length : Int)) = false := by simp; omega
  rw [call14]
  simp only [jn14, n14_1, n14_5, n14_8, n14_9, n14_7, n14_11, n14_14, n14_15, n14_13, n14_16, n14_12t, n14_12f, n14_10, n14_6t, n14_6f, n14_4, n14_3, n14_18, n14_20, n14_21, n14_19, n14_17, n14_2, n14_0, lk14, fin14_0, fin14_1, seqK_0, seqK_s, jnK_t, jnK_f, blkK_f0, blkK_t0, blkK_f1, blkK_t1, blkK_fx, blkK_tx, obs, List.set_cons_succ, List.set_cons_zero, Nat.reduceAdd, v_ptr, v_nilC, v_field, tab_slice h, i1, e1, v_not, Bool.not_true, Bool.not_false]
theorem fill_ok (hK : 100020 ≤ K) (h : Tab H b m l c w) {at_ v k : Int} (ha : 0 ≤ at_) (hk : 0 ≤ k) (h1 : at_ + k ≤ w.length) :
    ∃ H', (orc Go.Proofs.Try.prog KT K).call 14 [.pointer (some ⟨b, 0, none⟩), .int .u64 at_, .int .u64 v, .int .u64 k] H = some (.int .i64 0, H') ∧
      Tab H' b m l c (spl w at_.toNat (List.replicate k.toNat v)) ∧ Fx l H H' := by
  obtain ⟨K, rfl⟩ : ∃ j, K = j + 1 := ⟨K - 1, by omega⟩
  have hsh := h.short
  have i1 := fun H => in_spec (H := H) (show 1 ≤ K by omega) (a := some ⟨l, 0, none⟩) (n := w.length) (cc := c) ha hk (show w.length < 2 ^ 62 by omega) (show k < 2 ^ 64 by omega)
  have e1 : decide (at_ + k ≤ (w.length : Int)) = true := by simp [h1]
  have ck : IntKind.i64.wrap k = k := i_id (by omega) (by omega)
  have f0 : Fx l H (H.new (.cells [.int .u64 v] 23)) := Fx.new _ _ _
  have h2 : Tab (H.new (.cells [.int .u64 v] 23)) b m l c w := h.fx (Fx.new H.n _ _) (by have := h.bn; omega) (by have := h.ln; omega)
  obtain ⟨H1, y1, y2, y3, y4⟩ := rep_spec (K := K) (by omega) (H := H.new (.cells [.int .u64 v] 23)) (s := H.n) (n := k.toNat) (v := v) (CH.get_new _ _) (by simp) (by omega) (by have := h2.own; have := h2.ln; omega)
  rw [Int.toNat_of_nonneg hk] at y1
  have h3 : Tab H1 b m l c w := h2.fx y3 (by have := h2.bn; omega) (by have := h2.ln; omega)
  obtain ⟨o1, c1, s1, s1a, s1b⟩ := v_tail (l := l) (len := w.length) h.cap ha (show at_ ≤ w.length by omega) .u64
  obtain ⟨H2, z1, z2, z3, z4⟩ := h_copy (c1 := c1) (c2 := 2 * k.toNat + 1) (o := o1) (o2 := 0) (m := w.length - at_.toNat) (k := k.toNat) h3.row y2 (by omega) (by simp) h3.own
  have hmin : min k.toNat (w.length - at_.toNat) = k.toNat := by omega
  rw [hmin] at z2
  have g : spl w o1 (((List.replicate k.toNat v).drop 0).take k.toNat) = spl w at_.toNat (List.replicate k.toNat v) := by
    rw [List.drop_zero, List.take_replicate, Nat.min_self]
    rcases Int.le_iff_lt_or_eq.1 hk with hp | hp
    · rw [s1a (by omega)]
    · rw [← hp]; simp [spl_nil]
  rw [g] at z2
  refine ⟨H2, ?_, h3.words z3 (spl_len (by simp; omega)) z2, (f0.trans (y3.to (by have := h2.ln; omega))).trans z3⟩
  rw [call14]
  simp only [jn14, n14_1, n14_5, n14_8, n14_9, n14_7, n14_11, n14_14, n14_15, n14_13, n14_16, n14_12t, n14_12f, n14_10, n14_6t, n14_6f, n14_4, n14_3, n14_18, n14_20, n14_21, n14_19, n14_17, n14_2, n14_0, lk14, fin14_0, fin14_1, seqK_0, seqK_s, jnK_t, jnK_f, blkK_f0, blkK_t0, blkK_f1, blkK_t1, blkK_fx, blkK_tx, obs, List.set_cons_succ, List.set_cons_zero, Nat.reduceAdd, v_ptr, v_nilC, v_field, tab_slice h, tab_slice h2, tab_slice h3, i1, e1, v_not, Bool.not_true, Bool.not_false, s1, v_b1, chk_self, v_conv, ck, y1, z1]
end
end Go.Cn
