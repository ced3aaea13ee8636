/- Numbers, cells and Repeat, as the canonical run makes them. -/
import Derived.Test.YtolbpklaniifhaaFb
namespace Go.Cn
set_option linter.unusedVariables false
set_option linter.unusedSimpArgs false
/-! ### Values -/
theorem cBin_int (op : BinOp) (hs : op ≠ .shl) (hr : op ≠ .shr) (t : TypeId) (k : IntKind) (a b : Int) : cBin Go.Proofs.Try.prog op t (.int k a) (.int k b) = cInt op k a b := by
  unfold cBin; cases op <;> simp_all
theorem v_eql (t : TypeId) (k : IntKind) (a b : Int) : cBin Go.Proofs.Try.prog .eql t (.int k a) (.int k b) = some (.bool (a == b)) := cBin_int .eql (by decide) (by decide) ..
theorem v_neq (t : TypeId) (k : IntKind) (a b : Int) : cBin Go.Proofs.Try.prog .neq t (.int k a) (.int k b) = some (.bool (a != b)) := cBin_int .neq (by decide) (by decide) ..
theorem v_lss (t : TypeId) (k : IntKind) (a b : Int) : cBin Go.Proofs.Try.prog .lss t (.int k a) (.int k b) = some (.bool (decide (a < b))) := cBin_int .lss (by decide) (by decide) ..
theorem v_leq (t : TypeId) (k : IntKind) (a b : Int) : cBin Go.Proofs.Try.prog .leq t (.int k a) (.int k b) = some (.bool (decide (a ≤ b))) := cBin_int .leq (by decide) (by decide) ..
theorem v_gtr (t : TypeId) (k : IntKind) (a b : Int) : cBin Go.Proofs.Try.prog .gtr t (.int k a) (.int k b) = some (.bool (decide (a > b))) := cBin_int .gtr (by decide) (by decide) ..
theorem v_geq (t : TypeId) (k : IntKind) (a b : Int) : cBin Go.Proofs.Try.prog .geq t (.int k a) (.int k b) = some (.bool (decide (a ≥ b))) := cBin_int .geq (by decide) (by decide) ..
theorem v_add (t : TypeId) (k : IntKind) (a b : Int) : cBin Go.Proofs.Try.prog .add t (.int k a) (.int k b) = some (.int k (k.wrap (a + b))) := cBin_int .add (by decide) (by decide) ..
theorem v_sub (t : TypeId) (k : IntKind) (a b : Int) : cBin Go.Proofs.Try.prog .sub t (.int k a) (.int k b) = some (.int k (k.wrap (a - b))) := cBin_int .sub (by decide) (by decide) ..
theorem v_mul (t : TypeId) (k : IntKind) (a b : Int) : cBin Go.Proofs.Try.prog .mul t (.int k a) (.int k b) = some (.int k (k.wrap (a * b))) := cBin_int .mul (by decide) (by decide) ..
theorem v_rem (t : TypeId) (k : IntKind) (a b : Int) (h : b ≠ 0) : cBin Go.Proofs.Try.prog .rem t (.int k a) (.int k b) = some (.int k (a.tmod b)) := by
  rw [cBin_int .rem (by decide) (by decide)]; simp [cInt, h]
theorem v_ptr (a : Addr) : cBin Go.Proofs.Try.prog .eql 25 (.pointer (some a)) (.pointer none) = some (.bool false) := by kernel_rfl
theorem v_nilC (a : Addr) : nilC (.pointer (some a)) = some (.pointer (some a)) := rfl
theorem v_field (n : Nat) (b o : Nat) : fieldA n (.pointer (some ⟨b, o, none⟩)) = some (.pointer (some ⟨b, o + n, none⟩)) := rfl
theorem v_idx (n : Nat) (b o len c : Nat) (k : IntKind) (i : Int) (h0 : 0 ≤ i) (h : i < len) : idxSl n (.slice (some ⟨b, o, none⟩) len c) (.int k i) = some (.pointer (some ⟨b, o + i.toNat * n, none⟩)) := by
  simp [idxSl, asI, h0, h, addA]
theorem v_len (a : Option Addr) (n c : Nat) : lenSl (.slice a n c) = some (.int .i64 n) := rfl
theorem v_conv (k k' : IntKind) (n : Int) : convInt k (.int k' n) = some (.int k (k.wrap n)) := rfl
theorem v_ex0 (a b : Value) : cExtract (.tuple ⟨[a, b]⟩) 0 = some a := rfl
theorem v_ex1 (a b : Value) : cExtract (.tuple ⟨[a, b]⟩) 1 = some b := rfl
theorem v_asB (b : Bool) : asB (.bool b) = some b := rfl
theorem v_not (b : Bool) : cUn .not (.bool b) = some (.bool !b) := rfl
theorem v_cell (k : IntKind) (n : Int) : cellsOf (.int k n) = some [.int k n] := rfl
theorem h_ld {H : CH} {b o : Nat} {l : List Value} {e : TypeId} (h : H.get b = some (.cells l e)) (ho : o < l.length) : ld1 (.pointer (some ⟨b, o, none⟩)) H = some (l.getD o undef) := by
  simp only [ld1, asP, Option.bind_some, CH.loadN, h]
  rw [if_pos ⟨trivial, by omega⟩, Option.bind_some]
  simp [List.take_one, List.getD_eq_getElem?_getD, ho]
theorem u_len (n : Nat) (h : n < 2 ^ 63) : IntKind.u64.wrap (n : Int) = n := by
  simp [IntKind.wrap, IntKind.bits, IntKind.signed]; omega

theorem u_id {n : Int} (h0 : 0 ≤ n) (h : n < 2 ^ 64) : IntKind.u64.wrap n = n := by simp [IntKind.wrap, IntKind.bits, IntKind.signed]; omega
theorem i_id {n : Int} (h0 : -2 ^ 63 ≤ n) (h : n < 2 ^ 63) : IntKind.i64.wrap n = n := by simp [IntKind.wrap, IntKind.bits, IntKind.signed]; omega
theorem u_0 : IntKind.u64.wrap 0 = 0 := by decide
theorem v_and32 (t : TypeId) (a : Int) (h0 : 0 ≤ a) (h : a < 2 ^ 32) : cBin Go.Proofs.Try.prog .and t (.int .u64 a) (.int .u64 4294967295) = some (.int .u64 a) := by
  rw [cBin_int .and (by decide) (by decide)]
  obtain ⟨m, rfl⟩ := Int.eq_ofNat_of_zero_le h0
  have hm : m < 2 ^ 32 := by omega
  have e : (BitVec.ofInt 64 (m : Int) &&& BitVec.ofInt 64 4294967295).toNat = m := by
    rw [BitVec.toNat_and]
    have e1 : (BitVec.ofInt 64 (m : Int)).toNat = m := by simp [BitVec.toNat_ofInt]; omega
    have e2 : (BitVec.ofInt 64 4294967295).toNat = 2 ^ 32 - 1 := by decide
    rw [e1, e2, Nat.and_two_pow_sub_one_eq_mod]; omega
  show some (Value.int .u64 (IntKind.u64.wrap ((BitVec.ofInt 64 (m : Int) &&& BitVec.ofInt 64 4294967295).toNat : Int))) = _
  rw [e, u_id (by omega) (by omega)]
theorem v_shr32 (t : TypeId) (k : IntKind) (a : Int) (h0 : 0 ≤ a) (h : a < 2 ^ 32) : cBin Go.Proofs.Try.prog .shr t (.int .u64 a) (.int k 32) = some (.int .u64 0) := by
  show cShift .shr .u64 a 32 = _
  simp only [cShift, IntKind.bits]
  rw [if_neg (by omega)]
  congr 2
  have : (min (32 : Int).toNat 64) = 32 := by decide
  rw [this, Int.fdiv_eq_ediv_of_nonneg _ (by omega)]
  omega
theorem mul_spec {K : Nat} (hK : 2 ≤ K) {n : Int} (h0 : 0 ≤ n) (h : n < 2 ^ 32) (H : CH) : (orc Go.Proofs.Try.prog KT K).call 40 [.int .u64 1, .int .u64 n] H = some (.tuple ⟨[.int .u64 0, .int .u64 n]⟩, H) := by
  obtain ⟨K, rfl⟩ : ∃ j, K = j + 1 + 1 := ⟨K - 2, by omega⟩
  have c : (orc Go.Proofs.Try.prog KT (K + 1)).call 43 [.int .u64 1, .int .u64 n] H = some (.tuple ⟨[.int .u64 0, .int .u64 n]⟩, H) := by
    rw [call43]
    simp only [jn43, n43_1, n43_3, n43_5, n43_7, n43_9, n43_11, n43_13, n43_15, n43_17, n43_19, n43_21, n43_23, n43_24, n43_22, n43_20, n43_18, n43_16, n43_14, n43_12, n43_10, n43_8, n43_6, n43_4, n43_2, n43_0, lk43, fin43_0, fin43_1, seqK_0, seqK_s, jnK_t, jnK_f, blkK_f0, blkK_t0, blkK_f1, blkK_t1, blkK_fx, blkK_tx, obs, List.set_cons_succ, List.set_cons_zero, Nat.reduceAdd, v_and32 _ 1 (by decide) (by decide), v_and32 _ n h0 h, v_and32 _ 0 (by decide) (by decide), v_shr32 _ _ 1 (by decide) (by decide), v_shr32 _ _ n h0 h, v_shr32 _ _ 0 (by decide) (by decide), v_mul, v_add, Int.one_mul, Int.zero_mul, Int.add_zero, Int.zero_add, Int.mul_zero, u_id h0 (show n < 2 ^ 64 by omega), u_0]
  rw [call40]
  simp only [jn40, n40_1, n40_5, n40_7, n40_8, n40_6, n40_4, n40_9, n40_3f, n40_11, n40_13, n40_14, n40_12, n40_10, n40_2, n40_0, lk40, fin40_0, fin40_1, seqK_0, seqK_s, jnK_t, jnK_f, blkK_f0, blkK_t0, blkK_f1, blkK_t1, blkK_fx, blkK_tx, obs, List.set_cons_succ, List.set_cons_zero, Nat.reduceAdd, c, v_ex0, v_ex1]
/-! ### Cells -/
def spl (w : List Int) (i : Nat) (s : List Int) : List Int := w.take i ++ s ++ w.drop (i + s.length)
theorem spl_len {w : List Int} {i : Nat} {s : List Int} (h : i + s.length ≤ w.length) : (spl w i s).length = w.length := by simp [spl]; omega
theorem spl_nil (w : List Int) (i : Nat) : spl w i [] = w := by simp [spl]
theorem spl_getD {w : List Int} {i : Nat} {s : List Int} (h : i + s.length ≤ w.length) (k : Nat) : (spl w i s).getD k 0 = if i ≤ k ∧ k < i + s.length then s.getD (k - i) 0 else w.getD k 0 := by
  simp only [spl, List.getD_eq_getElem?_getD]
  by_cases h1 : k < i
  · rw [if_neg (by omega), List.append_assoc, List.getElem?_append_left (by simp; omega), List.getElem?_take_of_lt h1]
  · by_cases h2 : k < i + s.length
    · rw [if_pos (by omega), List.getElem?_append_left (by simp; omega), List.getElem?_append_right (by simp; omega)]
      simp [show min i w.length = i by omega]
    · rw [if_neg (by omega), List.getElem?_append_right (by simp; omega), List.getElem?_drop]
      congr 2; simp; omega
def wc (w : List Int) : List Value := w.map (.int .u64)
@[simp] theorem wc_len (w : List Int) : (wc w).length = w.length := by simp [wc]
theorem wc_splice (w : List Int) (i : Nat) (s : List Int) : CH.splice (wc w) i (wc s) = wc (spl w i s) := by simp [CH.splice, wc, spl, List.map_take, List.map_drop]
theorem wc_cell (w : List Int) : (wc w).all isCell = true := by simp [wc, isCell]
theorem wc_seg (w : List Int) (o k : Nat) : ((wc w).drop o).take k = wc ((w.drop o).take k) := by simp [wc, List.map_take, List.map_drop]
/-- From H to H' nothing but block m has turned, of all that stood. -/
structure Fx (m : Nat) (H H' : CH) : Prop where
  n : H.n ≤ H'.n
  lim : H'.lim = H.lim
  get : ∀ b, b < H.n → b ≠ m → H'.get b = H.get b
theorem Fx.refl (m : Nat) (H : CH) : Fx m H H := ⟨Nat.le_refl _, rfl, fun _ _ _ => rfl⟩
theorem Fx.trans {m : Nat} {H H1 H2 : CH} (h : Fx m H H1) (g : Fx m H1 H2) : Fx m H H2 :=
  ⟨Nat.le_trans h.n g.n, g.lim.trans h.lim, fun b hb hm => (g.get b (Nat.lt_of_lt_of_le hb h.n) hm).trans (h.get b hb hm)⟩
/-- What was made meanwhile does not count. -/
theorem Fx.later {m m' : Nat} {H H1 H2 : CH} (h : Fx m H H1) (g : Fx m' H1 H2) (hm : H.n ≤ m') : Fx m H H2 :=
  ⟨Nat.le_trans h.n g.n, g.lim.trans h.lim, fun b hb hm2 => (g.get b (Nat.lt_of_lt_of_le hb h.n) (by omega)).trans (h.get b hb hm2)⟩
theorem Fx.new (m : Nat) (H : CH) (o : CObj) : Fx m H (H.new o) := ⟨by simp, rfl, fun b hb _ => CH.get_new_ne H b o (by omega)⟩
theorem Fx.put (H : CH) (b : Nat) (o : Option CObj) : Fx b H (H.put b o) := ⟨Nat.le_refl _, rfl, fun b' _ h => CH.get_put_ne H b b' o h⟩
theorem Fx.to {m m' : Nat} {H H1 : CH} (h : Fx m H H1) (hm : H.n ≤ m) : Fx m' H H1 := ⟨h.n, h.lim, fun b hb _ => h.get b hb (by omega)⟩
theorem h_st {H : CH} {b o : Nat} {l : List Value} {e : TypeId} {k : IntKind} {v : Int} (h : H.get b = some (.cells l e)) (ho : o < l.length) (hl : H.lim ≤ b) :
    stN 1 (.pointer (some ⟨b, o, none⟩)) (.int k v) H = some (H.put b (some (.cells (CH.splice l o [.int k v]) e))) := by
  simp only [stN, asP, cellsOf, obs]
  rw [if_pos ⟨by simp, by simp [isCell]⟩]
  simp only [CH.storeN, h]
  rw [if_pos ⟨trivial, by simp; omega, hl⟩]
theorem h_copy {H : CH} {l s o o2 m k c1 c2 : Nat} {w ws : List Int} (hw : H.get l = some (.cells (wc w) 23)) (hs : H.get s = some (.cells (wc ws) 23)) (h1 : o + m ≤ w.length) (h2 : o2 + k ≤ ws.length) (hl : H.lim ≤ l) :
    ∃ H', copyN 1 (.slice (some ⟨l, o, none⟩) m c1) (.slice (some ⟨s, o2, none⟩) k c2) H = some (.int .i64 (min k m : Nat), H') ∧ H'.get l = some (.cells (wc (spl w o ((ws.drop o2).take (min k m)))) 23) ∧ Fx l H H' ∧ H'.n = H.n := by
  have e1 : H.loadN ⟨s, o2, none⟩ (k * 1) = some (wc ((ws.drop o2).take k)) := by
    simp only [CH.loadN, hs]
    rw [if_pos ⟨trivial, by simp; omega⟩, Nat.mul_one, wc_seg]
  have e2 : (wc ((ws.drop o2).take k)).take (min k m * 1) = wc ((ws.drop o2).take (min k m)) := by
    simp only [wc, List.map_take, Nat.mul_one, List.take_take]
    congr 1; omega
  have e3 : ((ws.drop o2).take (min k m)).length = min k m := by simp; omega
  simp only [copyN, srcCells, e1, Option.map_some, obs, e2, wc_cell, if_true]
  by_cases h0 : min k m * 1 = 0
  · rw [if_pos h0]
    have h0' : min k m = 0 := by omega
    refine ⟨H, rfl, ?_, Fx.refl _ _, rfl⟩
    rw [h0', List.take_zero, spl_nil]; exact hw
  · rw [if_neg h0]
    simp only [CH.storeN, hw]
    rw [if_pos ⟨trivial, by simp only [wc_len, e3]; omega, hl⟩]
    refine ⟨_, rfl, ?_, Fx.put _ _ _, rfl⟩
    rw [CH.get_put, wc_splice]
/-- What is known of a capacity. -/
def Cap (c n : Nat) : Prop := (c % 2 = 1 ∧ n ≤ c / 2) ∨ c = 2
theorem Cap.of (n : Nat) : Cap (2 * n + 1) n := .inl ⟨by omega, by omega⟩
theorem v_slice {l len c : Nat} (hc : Cap c len) {lo hi : Int} (h0 : 0 ≤ lo) (h1 : lo ≤ hi) (h2 : hi ≤ len) (k k' : IntKind) :
    ∃ o c', sliceSl 1 (.slice (some ⟨l, 0, none⟩) len c) (some (.int k lo)) (some (.int k' hi)) none = some (.slice (some ⟨l, o, none⟩) (hi.toNat - lo.toNat) c') ∧ (lo < hi → o = lo.toNat) ∧ o ≤ lo.toNat := by
  simp only [sliceSl, cSliceSl, hiOf, loOf, asI, obs]
  rcases hc with ⟨hc1, hc2⟩ | rfl
  · rw [if_pos (by omega), if_pos ⟨h0, h1, by omega⟩]
    by_cases he : c / 2 = lo.toNat
    · rw [if_pos he]; exact ⟨_, _, rfl, fun h => by omega, by omega⟩
    · rw [if_neg he]; exact ⟨_, _, rfl, fun h => by simp, by simp⟩
  · rw [if_neg (by omega), if_pos ⟨rfl, h0, h1, h2⟩]
    exact ⟨_, _, rfl, fun h => by simp, by simp⟩
theorem v_tail {l len c : Nat} (hc : Cap c len) {lo : Int} (h0 : 0 ≤ lo) (h1 : lo ≤ len) (k : IntKind) :
    ∃ o c', sliceSl 1 (.slice (some ⟨l, 0, none⟩) len c) (some (.int k lo)) none none = some (.slice (some ⟨l, o, none⟩) (len - lo.toNat) c') ∧ (lo < len → o = lo.toNat) ∧ o ≤ lo.toNat := by
  simp only [sliceSl, cSliceSl, hiOf, loOf, asI, obs]
  rcases hc with ⟨hc1, hc2⟩ | rfl
  · rw [if_pos (by omega), if_pos ⟨h0, h1, by omega⟩]
    by_cases he : c / 2 = lo.toNat
    · rw [if_pos he]; exact ⟨_, _, rfl, fun h => by omega, by omega⟩
    · rw [if_neg he]; exact ⟨_, _, rfl, fun h => by simp, by simp⟩
  · rw [if_neg (by omega), if_pos ⟨rfl, h0, h1, by omega⟩]
    exact ⟨_, _, rfl, fun h => by simp, by simp⟩
theorem v_head {l len c : Nat} (hc : Cap c len) {hi : Int} (h0 : 0 ≤ hi) (h1 : hi ≤ len) (k : IntKind) :
    ∃ c', sliceSl 1 (.slice (some ⟨l, 0, none⟩) len c) none (some (.int k hi)) none = some (.slice (some ⟨l, 0, none⟩) hi.toNat c') := by
  simp only [sliceSl, cSliceSl, hiOf, loOf, asI, obs]
  rcases hc with ⟨hc1, hc2⟩ | rfl
  · rw [if_pos (by omega), if_pos ⟨by omega, h0, by omega⟩]
    have e : (if c / 2 = (0 : Int).toNat then (⟨l, 0, none⟩ : Addr) else addA ⟨l, 0, none⟩ ((0 : Int).toNat * 1)) = ⟨l, 0, none⟩ := by split <;> rfl
    rw [e]
    exact ⟨_, rfl⟩
  · rw [if_neg (by omega), if_pos ⟨rfl, by omega, h0, by omega⟩]
    exact ⟨_, rfl⟩
theorem v_b1 (w : Int) (H : CH) : cBuildSlice Go.Proofs.Try.prog 22 1 [(0, .int .u64 w)] H = some (.slice (some ⟨H.n, 0, none⟩) 1 3, H.new (.cells [.int .u64 w] 23)) := by kernel_rfl
theorem v_b0 (H : CH) : cBuildSlice Go.Proofs.Try.prog 22 0 [] H = some (.slice (some ⟨H.n, 0, none⟩) 0 1, H.new (.cells [] 23)) := by kernel_rfl
def mk23 (n c : Int) (H : CH) : Option (Value × CH) :=
  if 0 ≤ n ∧ n ≤ c ∧ c * (8 : Nat) ≤ 2 ^ 47 ∧ c ≤ IntKind.i64.max ∧ (1 : Nat) ≠ 0 then some (.slice (some ⟨H.n, 0, none⟩) n.toNat (2 * c.toNat + 1), H.new (.cells (rep c.toNat [.int .u64 0]) 23)) else none
theorem v_mk' (n c : Int) (k k' : IntKind) (H : CH) : cMakeSlice Go.Proofs.Try.prog 22 (.int k n) (.int k' c) H = mk23 n c H := by kernel_rfl
theorem v_mk {n : Int} (h0 : 0 ≤ n) (h : n < 2 ^ 32) (k k' : IntKind) (H : CH) : cMakeSlice Go.Proofs.Try.prog 22 (.int k n) (.int k' n) H = some (.slice (some ⟨H.n, 0, none⟩) n.toNat (2 * n.toNat + 1), H.new (.cells (wc (List.replicate n.toNat 0)) 23)) := by
  rw [v_mk', mk23, if_pos ⟨h0, by omega, by omega, by simp [IntKind.max, IntKind.signed, IntKind.bits]; omega, by omega⟩]
  have e : rep n.toNat [.int .u64 0] = wc (List.replicate n.toNat 0) := by
    simp [rep, wc, List.flatten_replicate_singleton]
  rw [e]
/-! ### Repeat -/
theorem rep_loop (p n : Nat) (v : Int) (hn : n < 100000) (t0 t1 t4 t5 t6 : Value) (ds : List Deferred) : ∀ (d K m : Nat) (H : CH), n - m ≤ d → d < K → (1 ≤ m ∨ m = n) → m ≤ n →
    H.get p = some (.cells (wc (List.replicate m v ++ List.replicate (n - m) 0)) 23) → H.lim ≤ p →
    ∃ H', (orc Go.Proofs.Try.prog KT K).loop 31 none C31_23 [t0, t1, t4, t5, t6, .slice (some ⟨p, 0, none⟩) n (2 * n + 1), .int .i64 m] ds H =
        some (2, [t0, t1, t4, t5, t6, .slice (some ⟨p, 0, none⟩) n (2 * n + 1), .int .i64 n], ds, H') ∧
      H'.get p = some (.cells (wc (List.replicate n v)) 23) ∧ Fx p H H' ∧ H'.n = H.n
  | d, K, m, H, hd, hK, h1, h2, hp, hl => by
    obtain ⟨K, rfl⟩ : ∃ j, K = j + 1 := ⟨K - 1, by omega⟩
    rw [lp31_22]
    by_cases hm : m = n
    · subst hm
      have e : decide ((m : Int) < (m : Int)) = false := by simp
      refine ⟨H, ?_, ?_, Fx.refl _ _, rfl⟩
      · simp only [jn31, n31_1, n31_4, n31_7, n31_5t, n31_5f, n31_3, n31_9, n31_12, n31_15, n31_13t, n31_13f, n31_11, n31_17, n31_19, n31_25, n31_27, n31_28, n31_26t, n31_26f, n31_24, n31_30, n31_29, n31_23, n31_22, it31_22, ix31_22, n31_21, n31_32, n31_33, n31_31, n31_20, n31_18, n31_16, n31_10, n31_8, n31_2, n31_0, lk31, fin31_0, fin31_1, seqK_0, seqK_s, jnK_t, jnK_f, blkK_f0, blkK_t0, blkK_f1, blkK_t1, blkK_fx, blkK_tx, obs, List.set_cons_succ, List.set_cons_zero, Nat.reduceAdd, v_len, v_lss, e]
      · rw [hp]; simp
    · obtain ⟨d, rfl⟩ : ∃ j, d = j + 1 := ⟨d - 1, by omega⟩
      have e : decide ((m : Int) < (n : Int)) = true := by simp; omega
      obtain ⟨o, c1, s1, s2, s3⟩ := v_tail (l := p) (len := n) (Cap.of n) (lo := m) (by omega) (by omega) .i64
      obtain ⟨c2, s4⟩ := v_head (l := p) (len := n) (Cap.of n) (hi := m) (by omega) (by omega) .i64
      simp only [Int.toNat_natCast] at s1 s2 s3 s4
      rw [s2 (by omega)] at s1
      obtain ⟨H1, y1, y2, y3, y4⟩ := h_copy (H := H) (l := p) (s := p) (o := m) (o2 := 0) (m := n - m) (k := m) (c1 := c1) (c2 := c2) (w := List.replicate m v ++ List.replicate (n - m) 0) (ws := List.replicate m v ++ List.replicate (n - m) 0) hp hp (by simp) (by simp) hl
      have g : (spl (List.replicate m v ++ List.replicate (n - m) 0) m (((List.replicate m v ++ List.replicate (n - m) 0).drop 0).take (min m (n - m)))) = List.replicate (m + min m (n - m)) v ++ List.replicate (n - (m + min m (n - m))) 0 := by
        have a : ((List.replicate m v ++ List.replicate (n - m) 0).drop 0).take (min m (n - m)) = List.replicate (min m (n - m)) v := by
          rw [List.drop_zero, List.take_append_of_le_length (by simp; omega), List.take_replicate]; congr 1; omega
        rw [a, spl]
        rw [List.take_append_of_le_length (by simp), List.take_replicate, Nat.min_self, List.replicate_append_replicate, List.length_replicate, List.drop_append, List.drop_replicate, List.drop_replicate]
        simp only [List.length_replicate]
        rw [show m - (m + min m (n - m)) = 0 by omega, List.replicate_zero, List.nil_append]
        congr 2; omega
      rw [g] at y2
      have w1 : IntKind.i64.wrap ((m : Int) + (min m (n - m) : Nat)) = (m + min m (n - m) : Nat) := by rw [i_id (by omega) (by omega)]; omega
      obtain ⟨H2, z1, z2, z3, z4⟩ := rep_loop p n v hn t0 t1 t4 t5 t6 ds d K (m + min m (n - m)) H1 (by omega) (by omega) (by omega) (by omega) y2 (by rw [y3.lim]; exact hl)
      refine ⟨H2, ?_, z2, y3.trans z3, z4.trans y4⟩
      simp only [jn31, n31_1, n31_4, n31_7, n31_5t, n31_5f, n31_3, n31_9, n31_12, n31_15, n31_13t, n31_13f, n31_11, n31_17, n31_19, n31_25, n31_27, n31_28, n31_26t, n31_26f, n31_24, n31_30, n31_29, n31_23, n31_22, it31_22, ix31_22, n31_21, n31_32, n31_33, n31_31, n31_20, n31_18, n31_16, n31_10, n31_8, n31_2, n31_0, lk31, fin31_0, fin31_1, seqK_0, seqK_s, jnK_t, jnK_f, blkK_f0, blkK_t0, blkK_f1, blkK_t1, blkK_fx, blkK_tx, obs, List.set_cons_succ, List.set_cons_zero, Nat.reduceAdd, v_len, v_lss, e, s1, s4, y1, v_add, w1, z1]
theorem rep_spec {K : Nat} (hK : 100010 ≤ K) {H : CH} {s n : Nat} {v : Int} (hs : H.get s = some (.cells (wc [v]) 23)) (hsn : s < H.n) (hn : n < 100000) (hl : H.lim ≤ H.n) :
    ∃ H', (orc Go.Proofs.Try.prog KT K).call 31 [.slice (some ⟨s, 0, none⟩) 1 3, .int .i64 n] H = some (.slice (some ⟨H.n, 0, none⟩) n (2 * n + 1), H') ∧
      H'.get H.n = some (.cells (wc (List.replicate n v)) 23) ∧ Fx H.n H H' ∧ H'.n = H.n + 1 := by
  obtain ⟨K, rfl⟩ : ∃ j, K = j + 1 := ⟨K - 1, by omega⟩
  have e1 : decide ((n : Int) < 0) = false := by simp
  have e2 : decide ((n : Int) > 9223372036854775807) = false := by simp; omega
  have e0 : decide ((0 : Int) > 0) = false := by decide
  have u1 : IntKind.u64.wrap 1 = 1 := by decide
  have u1' : IntKind.u64.wrap ((1 : Nat) : Int) = 1 := by decide
  have un : IntKind.u64.wrap (n : Int) = n := u_id (by omega) (by omega)
  have ni : IntKind.i64.wrap (n : Int) = n := i_id (by omega) (by omega)
  have mk := v_mk (n := (n : Int)) (by omega) (by omega) .i64 .i64 H
  rw [Int.toNat_natCast] at mk
  have g1 : ((H.new (.cells (wc (List.replicate n 0)) 23))).get H.n = some (.cells (wc (List.replicate n 0)) 23) := CH.get_new _ _
  have g2 : ((H.new (.cells (wc (List.replicate n 0)) 23))).get s = some (.cells (wc [v]) 23) := by rw [CH.get_new_ne _ _ _ (by omega)]; exact hs
  obtain ⟨H1, y1, y2, y3, y4⟩ := h_copy (o := 0) (o2 := 0) (m := n) (k := 1) (c1 := 2 * n + 1) (c2 := 3) g1 g2 (by simp) (by simp) hl
  have f0 : Fx H.n H (H.new (.cells (wc (List.replicate n 0)) 23)) := Fx.new _ _ _
  have g : spl (List.replicate n 0) 0 (([v].drop 0).take (min 1 n)) = List.replicate (min 1 n) v ++ List.replicate (n - min 1 n) 0 := by
    rcases Nat.eq_zero_or_pos n with h | h
    · subst h; rfl
    · rw [show min 1 n = 1 by omega]; simp [spl]
  rw [g] at y2
  obtain ⟨H2, z1, z2, z3, z4⟩ := rep_loop H.n n v hn (.slice (some ⟨s, 0, none⟩) 1 3) (.int .i64 n) (.slice none 0 0) (.int .u64 0) (.int .u64 n) [] n K (min 1 n) H1 (by omega) (by omega) (by omega) (by omega) y2 (by rw [y3.lim]; exact hl)
  refine ⟨H2, ?_, z2, (f0.trans y3).trans z3, by rw [z4, y4]; simp⟩
  rw [call31]
  simp only [jn31, n31_1, n31_4, n31_7, n31_5t, n31_5f, n31_3, n31_9, n31_12, n31_15, n31_13t, n31_13f, n31_11, n31_17, n31_19, n31_25, n31_27, n31_28, n31_26t, n31_26f, n31_24, n31_30, n31_29, n31_23, n31_22, it31_22, ix31_22, n31_21, n31_32, n31_33, n31_31, n31_20, n31_18, n31_16, n31_10, n31_8, n31_2, n31_0, lk31, fin31_0, fin31_1, seqK_0, seqK_s, jnK_t, jnK_f, blkK_f0, blkK_t0, blkK_f1, blkK_t1, blkK_fx, blkK_tx, obs, List.set_cons_succ, List.set_cons_zero, Nat.reduceAdd, v_len, v_lss, v_gtr, v_conv, e1, e2, e0, u1, u1', u_0, un, ni, mul_spec (show 2 ≤ K by omega) (show (0 : Int) ≤ n by omega) (by omega), v_ex0, v_ex1, v_asB, mk, setAll1, cond_true, cond_false, y1, z1]
end Go.Cn
