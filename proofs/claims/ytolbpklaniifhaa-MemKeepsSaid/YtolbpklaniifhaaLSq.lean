/- A memory's functions, as the canonical run makes them. -/
import Derived.Test.YtolbpklaniifhaaLSp
namespace Go.Cn
set_option linter.unusedVariables false
set_option linter.unusedSimpArgs false
set_option maxRecDepth 4000
def lx (mn mx : Int) (hm : Bool) : List Value := [.bool false, .int .u64 mn, .int .u64 mx, .bool hm]
/-- Block 'b' is a memory over the bytes of block 'l'. -/
structure Mem (H : CH) (b : Nat) (mn mx : Int) (hm : Bool) (l c : Nat) (w : List Int) : Prop where
  blk : H.get b = some (.cells (lx mn mx hm ++ [.slice (some ⟨l, 0, none⟩) w.length c]) 79)
  row : H.get l = some (.cells (wc w) 5)
  own : H.lim ≤ l
  ownb : H.lim ≤ b
  short : w.length ≤ 2097152
  cap : Cap c w.length
  bn : b < H.n
  ln : l < H.n
  ne : b ≠ l
theorem Mem.fx {H H' : CH} {b : Nat} {mn mx : Int} {hm : Bool} {l c : Nat} {w : List Int} (h : Mem H b mn mx hm l c w) {x : Nat} (f : Fx x H H') (hb : b ≠ x) (hl : l ≠ x) : Mem H' b mn mx hm l c w :=
  ⟨(f.get b h.bn hb).trans h.blk, (f.get l h.ln hl).trans h.row, by rw [f.lim]; exact h.own, by rw [f.lim]; exact h.ownb, h.short, h.cap, Nat.lt_of_lt_of_le h.bn f.n, Nat.lt_of_lt_of_le h.ln f.n, h.ne⟩
theorem Mem.fxn {H H' : CH} {b : Nat} {mn mx : Int} {hm : Bool} {l c : Nat} {w : List Int} (h : Mem H b mn mx hm l c w) (f : Fx H.n H H') : Mem H' b mn mx hm l c w :=
  h.fx f (by have := h.bn; omega) (by have := h.ln; omega)
theorem Mem.words {H H' : CH} {b : Nat} {mn mx : Int} {hm : Bool} {l c : Nat} {w w' : List Int} (h : Mem H b mn mx hm l c w) (f : Fx l H H') (hw : w'.length = w.length) (hr : H'.get l = some (.cells (wc w') 5)) : Mem H' b mn mx hm l c w' :=
  ⟨by rw [hw]; exact (f.get b h.bn h.ne).trans h.blk, hr, by rw [f.lim]; exact h.own, by rw [f.lim]; exact h.ownb, by rw [hw]; exact h.short, by rw [hw]; exact h.cap, Nat.lt_of_lt_of_le h.bn f.n, Nat.lt_of_lt_of_le h.ln f.n, h.ne⟩
section
variable {H : CH} {b : Nat} {mn mx : Int} {hm : Bool} {l c : Nat} {w : List Int} {K : Nat}
theorem Mem.lim (h : Mem H b mn mx hm l c w) : H.lim ≤ H.n := by have := h.own; have := h.ln; omega
theorem mem_slice (h : Mem H b mn mx hm l c w) : ld1 (.pointer (some ⟨b, 0 + 4, none⟩)) H = some (.slice (some ⟨l, 0, none⟩) w.length c) := by
  rw [h_ld h.blk (by simp [lx])]; rfl
theorem in_spec (hK : 1 ≤ K) {n : Nat} {a o k : Int} (ha : 0 ≤ a) (ho : 0 ≤ o) (hk : 0 ≤ k) (hn : n < 2 ^ 62) (ha2 : a < 2 ^ 64) (ho2 : o < 2 ^ 64) (hk2 : k < 2 ^ 64) :
    (orc Go.Proofs.Try.prog KT K).call 36 [.int .i64 n, .int .u64 a, .int .u64 o, .int .u64 k] H = some (.bool (decide (a + o + k ≤ n)), H) := by
  obtain ⟨K, rfl⟩ : ∃ j, K = j + 1 := ⟨K - 1, by omega⟩
  have un : IntKind.u64.wrap (n : Int) = n := u_id (by omega) (by omega)
  rw [call36]
  by_cases h1 : a ≤ n
  · have e1 : decide (a ≤ (n : Int)) = true := by simp [h1]
    have e2 : IntKind.u64.wrap ((n : Int) - a) = n - a := u_id (by omega) (by omega)
    by_cases h2 : o ≤ n - a
    · have e3 : decide (o ≤ (n : Int) - a) = true := by simp [h2]
      have e4 : IntKind.u64.wrap ((n : Int) - a - o) = n - a - o := u_id (by omega) (by omega)
      have e5 : decide (k ≤ (n : Int) - a - o) = decide (a + o + k ≤ n) := by congr 1; simp; omega
      simp only [jn36, n36_1, n36_3, e36_5_0, e36_5_1, e36_5_2, e36_5_3, e36_5_4, e36_5_5, e36_5_6, n36_5, q36_5_0, q36_5_1f, q36_5_1t, q36_5_2f, q36_5_2t, q36_5_3, q36_5_4f, q36_5_4t, q36_5_5f, q36_5_5t, q36_5_6, g36_5, n36_6, n36_4, n36_2, n36_0, lk36, fin36_0, fin36_1, seqK_0, seqK_s, jnK_t, jnK_f, blkK_f0, blkK_t0, blkK_f1, blkK_t1, blkK_fx, blkK_tx, obs, List.set_cons_succ, List.set_cons_zero, Nat.reduceAdd, opK_go, v_conv, un, v_leq, e1, v_sub, e2, e3, e4, e5]
    · have e3 : decide (o ≤ (n : Int) - a) = false := by simp; omega
      have e5 : decide (a + o + k ≤ (n : Int)) = false := by simp; omega
      simp only [jn36, n36_1, n36_3, e36_5_0, e36_5_1, e36_5_2, e36_5_3, e36_5_4, e36_5_5, e36_5_6, n36_5, q36_5_0, q36_5_1f, q36_5_1t, q36_5_2f, q36_5_2t, q36_5_3, q36_5_4f, q36_5_4t, q36_5_5f, q36_5_5t, q36_5_6, g36_5, n36_6, n36_4, n36_2, n36_0, lk36, fin36_0, fin36_1, seqK_0, seqK_s, jnK_t, jnK_f, blkK_f0, blkK_t0, blkK_f1, blkK_t1, blkK_fx, blkK_tx, obs, List.set_cons_succ, List.set_cons_zero, Nat.reduceAdd, opK_go, v_conv, un, v_leq, e1, v_sub, e2, e3, e5]
  · have e1 : decide (a ≤ (n : Int)) = false := by simp; omega
    have e5 : decide (a + o + k ≤ (n : Int)) = false := by simp; omega
    simp only [jn36, n36_1, n36_3, e36_5_0, e36_5_1, e36_5_2, e36_5_3, e36_5_4, e36_5_5, e36_5_6, n36_5, q36_5_0, q36_5_1f, q36_5_1t, q36_5_2f, q36_5_2t, q36_5_3, q36_5_4f, q36_5_4t, q36_5_5f, q36_5_5t, q36_5_6, g36_5, n36_6, n36_4, n36_2, n36_0, lk36, fin36_0, fin36_1, seqK_0, seqK_s, jnK_t, jnK_f, blkK_f0, blkK_t0, blkK_f1, blkK_t1, blkK_fx, blkK_tx, obs, List.set_cons_succ, List.set_cons_zero, Nat.reduceAdd, opK_go, v_conv, un, v_leq, e1, e5]
theorem size_spec (hK : 1 ≤ K) (h : Mem H b mn mx hm l c w) : (orc Go.Proofs.Try.prog KT K).call 28 [.pointer (some ⟨b, 0, none⟩)] H = some (.int .u64 ((w.length / 65536 : Nat) : Int), H) := by
  obtain ⟨K, rfl⟩ : ∃ j, K = j + 1 := ⟨K - 1, by omega⟩
  have hsh := h.short
  have q : ∀ t, cBin Go.Proofs.Try.prog .quo t (.int .i64 w.length) (.int .i64 65536) = some (.int .i64 ((w.length / 65536 : Nat) : Int)) := fun t => by
    rw [cBin_int .quo (by decide) (by decide)]
    simp only [cInt]
    rw [if_neg (by decide), Int.tdiv_eq_ediv_of_nonneg (by omega), i_id (by omega) (by omega)]; rfl
  have u : IntKind.u64.wrap ((w.length / 65536 : Nat) : Int) = ((w.length / 65536 : Nat) : Int) := u_id (by omega) (by omega)
  rw [call28]
  simp only [jn28, n28_1, n28_4, n28_7, n28_8, n28_6, n28_9, n28_5t, n28_5f, n28_3, n28_11, n28_12, n28_10, n28_2, n28_0, lk28, fin28_0, fin28_1, seqK_0, seqK_s, jnK_t, jnK_f, blkK_f0, blkK_t0, blkK_f1, blkK_t1, blkK_fx, blkK_tx, obs, List.set_cons_succ, List.set_cons_zero, Nat.reduceAdd, opK_go, v_ptr, v_nilC, v_field, mem_slice h, v_len, q, v_conv, u]
theorem new_spec (hK : 2 ≤ K) (hl : H.lim ≤ H.n) {n : Nat} (hn : n ≤ 32) (mx : Int) (hm : Bool) :
    ∃ H' b l, (orc Go.Proofs.Try.prog KT K).call 20 [.agg ⟨lx n mx hm⟩] H = some (.tuple ⟨[.pointer (some ⟨b, 0, none⟩), .int .i64 0]⟩, H') ∧ Mem H' b n mx hm l (2 * (n * 65536) + 1) (List.replicate (n * 65536) 0) ∧ Fx H.n H H' ∧ H.n ≤ b ∧ H.n ≤ l := by
  obtain ⟨K, rfl⟩ : ∃ j, K = j + 1 := ⟨K - 1, by omega⟩
  obtain ⟨H1, e1⟩ : ∃ X, X = H.new (.cells (lx n mx hm) 30) := ⟨_, rfl⟩
  obtain ⟨H2, e2⟩ : ∃ X, X = H1.new (.cells (wc (List.replicate (n * 65536) 0)) 5) := ⟨_, rfl⟩
  have n1 : H1.n = H.n + 1 := by rw [e1]; rfl
  have n2 : H2.n = H.n + 2 := by rw [e2]; show H1.n + 1 = _; omega
  have l2 : H2.lim = H.lim := by rw [e2, e1]; rfl
  have g1 : H1.get H.n = some (.cells (lx n mx hm) 30) := by rw [e1]; exact CH.get_new _ _
  have g2 : H2.get H.n = some (.cells (lx n mx hm) 30) := by rw [e2, CH.get_new_ne _ _ _ (by omega)]; exact g1
  have g3 : H2.get H1.n = some (.cells (wc (List.replicate (n * 65536) 0)) 5) := by rw [e2]; exact CH.get_new _ _
  have ldx : ∀ G : CH, G.get H.n = some (.cells (lx n mx hm) 30) → ldN 4 (.pointer (some ⟨H.n, 0, none⟩)) G = some (.agg ⟨lx n mx hm⟩) := fun G hG => by
    simp only [ldN, asP, obs, CH.loadN, hG]
    rw [if_pos ⟨trivial, by simp [lx]⟩]; rfl
  have z1 : ld1 (.pointer (some ⟨H.n, 0 + 1, none⟩)) H1 = some (.int .u64 n) := by rw [h_ld g1 (by simp [lx])]; rfl
  have c1 : decide ((n : Int) > 32) = false := by simp; omega
  have u1 : IntKind.u64.wrap ((n : Int) * 65536) = ((n * 65536 : Nat) : Int) := by rw [u_id (by omega) (by omega)]; omega
  have mk := v_mk (n := n * 65536) (by omega) .u64 .u64 H1
  rw [← e2] at mk
  have bd : ∀ (a : Option Addr) (k c : Nat), cBuild Go.Proofs.Try.prog 79 [(0, .agg ⟨lx n mx hm⟩), (1, .slice a k c)] = some (.agg ⟨lx n mx hm ++ [.slice a k c]⟩) := fun a k c => by kernel_rfl
  refine ⟨H2.new (.cells (lx n mx hm ++ [.slice (some ⟨H1.n, 0, none⟩) (n * 65536) (2 * (n * 65536) + 1)]) 79), H2.n, H1.n, ?_, ?_, ?_, by omega, by omega⟩
  · rw [call20]
    simp only [jn20, n20_1, n20_4, n20_7, n20_8, n20_6, n20_9, n20_5t, n20_5f, n20_3, n20_11, n20_12, n20_10, n20_2, n20_0, lk20, fin20_0, fin20_1, seqK_0, seqK_s, jnK_t, jnK_f, blkK_f0, blkK_t0, blkK_f1, blkK_t1, blkK_fx, blkK_tx, obs, List.set_cons_succ, List.set_cons_zero, Nat.reduceAdd, opK_go, v_agg, v_newV, e1.symm, v_field, z1, v_gtr, c1, ldx H1 g1, v_mul, u1, mk, ldx H2 g2, chk_self, bd]
  · refine ⟨by rw [CH.get_new]; simp, ?_, ?_, ?_, by simp; omega, by rw [List.length_replicate]; exact Cap.of _, by simp, by simp; omega, by omega⟩
    · rw [CH.get_new_ne _ _ _ (by omega)]; exact g3
    · show H2.lim ≤ _; omega
    · show H2.lim ≤ _; omega
  · refine ⟨by simp; omega, l2, fun x hx _ => ?_⟩
    rw [CH.get_new_ne _ _ _ (by omega), e2, CH.get_new_ne _ _ _ (by omega), e1, CH.get_new_ne _ _ _ (by omega)]
/-! ### Load -/
def or64 (a b : Int) : Int := IntKind.u64.wrap (((BitVec.ofInt 64 a ||| BitVec.ofInt 64 b).toNat : Nat) : Int)
def stepB (acc : Int) (i : Nat) (x : Int) : Int := or64 acc (IntKind.u64.wrap (IntKind.u64.wrap x * 2 ^ (8 * i)))
/-- What the loop has made of the first i bytes. -/
def accB (bs : List Int) : Nat → Int
  | 0 => 0
  | i + 1 => stepB (accB bs i) i (bs.getD i 0)
theorem v_or (t : TypeId) (a b : Int) : cBin Go.Proofs.Try.prog .or t (.int .u64 a) (.int .u64 b) = some (.int .u64 (or64 a b)) := by
  rw [cBin_int .or (by decide) (by decide)]; rfl
theorem v_shl (t : TypeId) (k : IntKind) (a : Int) {i : Nat} (hi : i < 8) : cBin Go.Proofs.Try.prog .shl t (.int .u64 a) (.int k ((8 * i : Nat) : Int)) = some (.int .u64 (IntKind.u64.wrap (a * 2 ^ (8 * i)))) := by
  show cShift .shl .u64 a ((8 * i : Nat) : Int) = _
  simp only [cShift, IntKind.bits]
  rw [if_neg (by omega), Int.toNat_natCast, Nat.min_eq_left (by omega)]
theorem v_shr (t : TypeId) (k : IntKind) (a : Int) {i : Nat} (hi : i < 8) : cBin Go.Proofs.Try.prog .shr t (.int .u64 a) (.int k ((8 * i : Nat) : Int)) = some (.int .u64 (a.fdiv (2 ^ (8 * i)))) := by
  show cShift .shr .u64 a ((8 * i : Nat) : Int) = _
  simp only [cShift, IntKind.bits]
  rw [if_neg (by omega), Int.toNat_natCast, Nat.min_eq_left (by omega)]
theorem v_ixa {bs : List Int} (hb : bs.length = 8) {i : Nat} (hi : i < 8) : idxAgg false 1 8 (.agg ⟨wc bs⟩) (.int .i64 i) = some (.int .u8 (bs.getD i 0)) := by
  simp only [idxAgg, asI, obs]
  rw [if_pos ⟨by omega, by omega⟩]
  simp [partV, partOf, wc, List.getD_eq_getElem?_getD, show i < bs.length by omega]
theorem load_loop (bs : List Int) (hb : bs.length = 8) (t0 t1 t2 t3 t8 t9 t10 : Value) (ds : List Deferred) : ∀ (d K i : Nat) (t12 t13 : Value), 8 - i ≤ d → d < K → i ≤ 8 →
    ∃ t12' t13', (orc Go.Proofs.Try.prog KT K).loop 23 none C23_34 [t0, t1, t2, t3, t8, t9, t10, .int .u64 (accB bs i), t12, t13, .agg ⟨wc bs⟩, .int .i64 i] ds H =
      some (3, [t0, t1, t2, t3, t8, t9, t10, .int .u64 (accB bs 8), t12', t13', .agg ⟨wc bs⟩, .int .i64 8], ds, H)
  | d, K, i, t12, t13, hd, hK, hi => by
    obtain ⟨K, rfl⟩ : ∃ j, K = j + 1 := ⟨K - 1, by omega⟩
    by_cases hm : i = 8
    · subst hm
      have e : decide (((8 : Nat) : Int) < 8) = false := by decide
      have e8 : ((8 : Nat) : Int) = 8 := rfl
      refine ⟨t12, t13, ?_⟩
      rw [lp23_33]
      simp only [jn23, n23_1, n23_5, n23_8, n23_9, n23_7, e23_11_0, e23_11_1, e23_11_2, e23_11_3, e23_11_4, e23_11_5, e23_11_6, e23_11_7, e23_11_8, e23_11_9, n23_11, q23_11_0, q23_11_1f, q23_11_1t, q23_11_2f, q23_11_2t, q23_11_3, q23_11_4f, q23_11_4t, q23_11_5f, q23_11_5t, q23_11_6, q23_11_7f, q23_11_7t, q23_11_8f, q23_11_8t, q23_11_9, g23_11, n23_14, n23_15, n23_13, n23_17, n23_20, n23_21, n23_19, n23_22, n23_18t, n23_18f, n23_16, n23_12t, n23_12f, n23_10, n23_6t, n23_6f, n23_4, n23_3, n23_24, n23_26, n23_28, n23_31, n23_35, n23_38, n23_39, n23_37t, n23_37f, n23_43, n23_44, n23_42, n23_41, n23_45, n23_40, n23_36, n23_34, n23_33, it23_33, ix23_33, n23_32, n23_30, n23_47, n23_48, n23_46, n23_29, n23_27, n23_25, n23_23, n23_2, n23_0, lk23, fin23_0, fin23_1, seqK_0, seqK_s, jnK_t, jnK_f, blkK_f0, blkK_t0, blkK_f1, blkK_t1, blkK_fx, blkK_tx, obs, List.set_cons_succ, List.set_cons_zero, Nat.reduceAdd, opK_go, v_lss, e]
      rfl
    · obtain ⟨d, rfl⟩ : ∃ j, d = j + 1 := ⟨d - 1, by omega⟩
      have e : decide ((i : Int) < 8) = true := by simp; omega
      have w8 : IntKind.i64.wrap (8 * (i : Int)) = ((8 * i : Nat) : Int) := by rw [i_id (by omega) (by omega)]; omega
      have w1 : IntKind.i64.wrap ((i : Int) + 1) = ((i + 1 : Nat) : Int) := by rw [i_id (by omega) (by omega)]; omega
      obtain ⟨x, y, IH⟩ := load_loop bs hb t0 t1 t2 t3 t8 t9 t10 ds d K (i + 1) (.int .i64 i) (.int .u8 (bs.getD i 0)) (by omega) (by omega) (by omega)
      rw [show accB bs (i + 1) = or64 (accB bs i) (IntKind.u64.wrap (IntKind.u64.wrap (bs.getD i 0) * 2 ^ (8 * i))) from rfl] at IH
      refine ⟨x, y, ?_⟩
      rw [lp23_33]
      simp only [jn23, n23_1, n23_5, n23_8, n23_9, n23_7, e23_11_0, e23_11_1, e23_11_2, e23_11_3, e23_11_4, e23_11_5, e23_11_6, e23_11_7, e23_11_8, e23_11_9, n23_11, q23_11_0, q23_11_1f, q23_11_1t, q23_11_2f, q23_11_2t, q23_11_3, q23_11_4f, q23_11_4t, q23_11_5f, q23_11_5t, q23_11_6, q23_11_7f, q23_11_7t, q23_11_8f, q23_11_8t, q23_11_9, g23_11, n23_14, n23_15, n23_13, n23_17, n23_20, n23_21, n23_19, n23_22, n23_18t, n23_18f, n23_16, n23_12t, n23_12f, n23_10, n23_6t, n23_6f, n23_4, n23_3, n23_24, n23_26, n23_28, n23_31, n23_35, n23_38, n23_39, n23_37t, n23_37f, n23_43, n23_44, n23_42, n23_41, n23_45, n23_40, n23_36, n23_34, n23_33, it23_33, ix23_33, n23_32, n23_30, n23_47, n23_48, n23_46, n23_29, n23_27, n23_25, n23_23, n23_2, n23_0, lk23, fin23_0, fin23_1, seqK_0, seqK_s, jnK_t, jnK_f, blkK_f0, blkK_t0, blkK_f1, blkK_t1, blkK_fx, blkK_tx, obs, List.set_cons_succ, List.set_cons_zero, Nat.reduceAdd, opK_go, v_lss, e, v_ixa hb (show i < 8 by omega), v_conv, v_mul, w8, v_shl _ _ _ (show i < 8 by omega), v_or, v_add, w1, IH]
end
end Go.Cn
