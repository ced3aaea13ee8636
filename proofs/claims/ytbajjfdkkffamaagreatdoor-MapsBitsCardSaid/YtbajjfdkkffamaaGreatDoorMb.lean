/- Truths as bits, as the canonical run makes them. -/
import Derived.Test.YtbajjfdkkffamaaGreatDoorMa
namespace Go.Cn
set_option linter.unusedVariables false
set_option linter.unusedSimpArgs false
def wl (ws : List Nat) : List Value := ws.map fun x => .int .u64 (x : Nat)
@[simp] theorem wl_len (ws : List Nat) : (wl ws).length = ws.length := by simp [wl]
/-- A row of words of the run's own, from block lo on. -/
def OutS (lo : Nat) (H : CH) (v : Value) (ws : List Nat) : Prop :=
  (ws = [] ∧ v = .slice none 0 0) ∨ (ws ≠ [] ∧ ∃ r, v = .slice (some ⟨r, 0, none⟩) ws.length 2 ∧ H.get r = some (.cells (wl ws) 66) ∧ lo ≤ r ∧ r < H.n)
structure Fl (lo : Nat) (H H' : CH) : Prop where
  n : H.n ≤ H'.n
  lim : H'.lim = H.lim
  get : ∀ b, b < lo → H'.get b = H.get b
theorem Fl.refl (lo : Nat) (H : CH) : Fl lo H H := ⟨Nat.le_refl _, rfl, fun _ _ => rfl⟩
theorem Fl.trans {lo : Nat} {H H1 H2 : CH} (h : Fl lo H H1) (g : Fl lo H1 H2) : Fl lo H H2 := ⟨Nat.le_trans h.n g.n, g.lim.trans h.lim, fun b hb => (g.get b hb).trans (h.get b hb)⟩
theorem v_len (a : Option Addr) (n c : Nat) : lenSl (.slice a n c) = some (.int .i64 n) := rfl
theorem OutS.len {lo : Nat} {H : CH} {v : Value} {ws : List Nat} (h : OutS lo H v ws) : lenSl v = some (.int .i64 ws.length) := by
  rcases h with ⟨rfl, rfl⟩ | ⟨_, r, rfl, _⟩ <;> rfl
theorem h_ld {H : CH} {b o : Nat} {l : List Value} {e : TypeId} (h : H.get b = some (.cells l e)) (ho : o < l.length) : ld1 (.pointer (some ⟨b, o, none⟩)) H = some (l.getD o undef) := by
  simp only [ld1, asP, Option.bind_some, CH.loadN, h]
  rw [if_pos ⟨trivial, by omega⟩, Option.bind_some]
  simp [List.take_one, List.getD_eq_getElem?_getD, ho]
theorem v_idx (n : Nat) (b o len c : Nat) (k : IntKind) (i : Int) (h0 : 0 ≤ i) (h : i < len) : idxSl n (.slice (some ⟨b, o, none⟩) len c) (.int k i) = some (.pointer (some ⟨b, o + i.toNat * n, none⟩)) := by
  simp [idxSl, asI, h0, h, addA]
theorem OutS.row {lo : Nat} {H : CH} {v : Value} {ws : List Nat} (h : OutS lo H v ws) (hs : ws.length < 2 ^ 31) : Row H v ws.length (wd fun j => ws.getD j 0) := by
  refine ⟨h.len, fun j hj => ?_, hs⟩
  rcases h with ⟨rfl, rfl⟩ | ⟨_, r, rfl, hr, _⟩
  · simp at hj
  · refine ⟨_, v_idx 1 r 0 ws.length 2 .i64 (j : Int) (by omega) (by omega), ?_⟩
    rw [h_ld hr (by simp; omega)]
    simp [wl, wd, List.getD_eq_getElem?_getD, hj]
theorem v_b1 (x : Int) (H : CH) : bldS 25 1 [(0, .int .u64 x)] H = some (.slice (some ⟨H.n, 0, none⟩) 1 3, H.new (.cells [.int .u64 x] 66)) := by kernel_rfl
/-- One word more. -/
theorem push {lo : Nat} {H : CH} {v : Value} {ws : List Nat} (h : OutS lo H v ws) (hlo : lo ≤ H.n) (hlim : H.lim ≤ lo) (hs : ws.length < 2 ^ 20) (x : Nat) :
    ∃ H' v', appendN 66 1 8 v (.slice (some ⟨H.n, 0, none⟩) 1 3) (H.new (.cells [.int .u64 x] 66)) = some (v', H') ∧ OutS lo H' v' (ws ++ [x]) ∧ Fl lo H H' := by
  have hq : (H.new (.cells [.int .u64 x] 66)).get H.n = some (.cells [.int .u64 x] 66) := CH.get_new _ _
  have e1 : (H.new (.cells [.int .u64 x] 66)).loadN ⟨H.n, 0, none⟩ (1 * 1) = some [.int .u64 x] := by simp only [CH.loadN, hq]; rfl
  rcases h with ⟨rfl, rfl⟩ | ⟨hne, r, rfl, hr, hr1, hr2⟩
  · refine ⟨(H.new (.cells [.int .u64 x] 66)).new (.cells [.int .u64 x] 66), .slice (some ⟨H.n + 1, 0, none⟩) 1 2, ?_, .inr ⟨by simp, H.n + 1, rfl, CH.get_new _ _, by omega, by simp⟩, ⟨by simp; omega, rfl, fun b hb => by rw [CH.get_new_ne _ _ _ (by simp; omega), CH.get_new_ne _ _ _ (by omega)]⟩⟩
    simp only [appendN, srcCells, e1]
    rfl
  · have hr' : (H.new (.cells [.int .u64 x] 66)).get r = some (.cells (wl ws) 66) := by rw [CH.get_new_ne _ _ _ (by omega)]; exact hr
    have e2 : (H.new (.cells [.int .u64 x] 66)).loadN ⟨r, 0, none⟩ (ws.length * 1) = some (wl ws) := by
      simp only [CH.loadN, hr']
      rw [if_pos ⟨trivial, by simp⟩]
      simp only [Nat.mul_one, List.drop_zero]
      rw [List.take_of_length_le (by simp)]
    refine ⟨((H.new (.cells [.int .u64 x] 66)).put r none).new (.cells (wl (ws ++ [x])) 66), .slice (some ⟨H.n + 1, 0, none⟩) (ws.length + 1) 2, ?_, .inr ⟨by simp, H.n + 1, by simp, CH.get_new _ _, by omega, by simp⟩, ⟨by simp; omega, rfl, fun b hb => by rw [CH.get_new_ne _ _ _ (by simp; omega), CH.get_put_ne _ _ _ _ (by omega), CH.get_new_ne _ _ _ (by omega)]⟩⟩
    simp only [appendN, srcCells, e1, e2, Option.map_some, obs1]
    rw [if_neg (by simp [isCell]), if_neg (by omega), if_pos ⟨by trivial, by show H.lim ≤ r; omega, by omega, by omega⟩]
    simp [wl]
/-- What the words must be of the first i truths. -/
structure Bits (l : List Bool) (i : Nat) (ws : List Nat) : Prop where
  bit : ∀ q k, (ws.getD q 0).testBit k = (decide (k < 64) && (decide (64 * q + k < i) && l.getD (64 * q + k) false))
  last : ws = [] ∨ ∃ k, k < 64 ∧ 64 * (ws.length - 1) + k < i ∧ l.getD (64 * (ws.length - 1) + k) false = true
theorem Bits.lt {l : List Bool} {i : Nat} {ws : List Nat} (h : Bits l i ws) (q : Nat) : ws.getD q 0 < 2 ^ 64 := by
  apply Nat.lt_pow_two_of_testBit
  intro k hk
  rw [h.bit]
  simp; omega
theorem Bits.short {l : List Bool} {i : Nat} {ws : List Nat} (h : Bits l i ws) : 64 * ws.length < i + 64 := by
  rcases h.last with rfl | ⟨k, h1, h2, h3⟩
  · simp
  · omega
theorem getD_out {l : List Nat} {q : Nat} (h : l.length ≤ q) : l.getD q 0 = 0 := by simp [List.getD_eq_getElem?_getD, List.getElem?_eq_none h]
theorem Bits.uniq {l : List Bool} {i : Nat} {ws us : List Nat} (h : Bits l i ws) (g : Bits l i us) : ws = us := by
  have key : ∀ {ws us : List Nat}, Bits l i ws → Bits l i us → us.length ≤ ws.length := fun {ws us} h g => by
    rcases g.last with rfl | ⟨k, h1, h2, h3⟩
    · simp
    · rcases Nat.lt_or_ge ws.length us.length with hl | hl
      · have e := h.bit (us.length - 1) k
        rw [getD_out (by omega)] at e
        rw [Nat.zero_testBit] at e
        have : (decide (k < 64) && (decide (64 * (us.length - 1) + k < i) && l.getD (64 * (us.length - 1) + k) false)) = true := by simp only [h3, h1, h2, decide_true, Bool.and_self]
        rw [this] at e; cases e
      · exact hl
  have hl := Nat.le_antisymm (key g h) (key h g)
  apply List.ext_getElem hl
  intro q h1 h2
  apply Nat.eq_of_testBit_eq
  intro k
  have a := h.bit q k
  have b := g.bit q k
  simp only [List.getD_eq_getElem?_getD, List.getElem?_eq_getElem h1, List.getElem?_eq_getElem h2, Option.getD_some] at a b
  rw [a, b]
theorem Bits.has {l : List Bool} {ws : List Nat} (h : Bits l l.length ws) {k : Nat} (hk : k < l.length) : hasB (fun j => ws.getD j 0) ws.length (k : Int) = l.getD k false := by
  have e := h.bit (k / 64) (k % 64)
  have e2 : 64 * (k / 64) + k % 64 = k := by omega
  rw [e2] at e
  have e3 : (decide (k % 64 < 64) && (decide (k < l.length) && l.getD k false)) = l.getD k false := by simp [hk]; omega
  rw [e3] at e
  unfold hasB
  rw [Int.toNat_natCast, ← e, Nat.testBit_eq_decide_div_mod_eq]
  by_cases hq : k / 64 < ws.length
  · simp [hq]; rfl
  · rw [getD_out (by omega)]; simp [hq]
/-! ### maps.Of -/
theorem v_orn (t : TypeId) (a b : Nat) (ha : a < 2 ^ 64) (hb : b < 2 ^ 64) : bin .or t (.int .u64 a) (.int .u64 b) = some (.int .u64 ((a ||| b : Nat) : Int)) := by
  rw [cBin_int .or (by decide) (by decide)]
  have e : (BitVec.ofInt 64 (a : Int) ||| BitVec.ofInt 64 (b : Int)).toNat = a ||| b := by
    rw [BitVec.toNat_or]
    have e1 : (BitVec.ofInt 64 (a : Int)).toNat = a := by simp [BitVec.toNat_ofInt]; omega
    have e2 : (BitVec.ofInt 64 (b : Int)).toNat = b := by simp [BitVec.toNat_ofInt]; omega
    rw [e1, e2]
  have lt : a ||| b < 2 ^ 64 := Nat.or_lt_two_pow ha hb
  show some (Value.int .u64 (IntKind.u64.wrap ((BitVec.ofInt 64 (a : Int) ||| BitVec.ofInt 64 (b : Int)).toNat : Int))) = _
  rw [e, u_id (by omega) (by omega)]
theorem v_shl1 (t : TypeId) (k : IntKind) (s : Nat) (hs : s < 64) : bin .shl t (.int .u64 1) (.int k (s : Nat)) = some (.int .u64 ((2 ^ s : Nat) : Int)) := by
  show cShift .shl .u64 1 ((s : Nat) : Int) = _
  simp only [cShift, IntKind.bits]
  rw [if_neg (by omega), Int.toNat_natCast, Nat.min_eq_left (by omega), Int.one_mul]
  have lt : 2 ^ s < 2 ^ 64 := Nat.pow_lt_pow_right (by decide) hs
  have e : ((2 : Int) ^ s) = ((2 ^ s : Nat) : Int) := by push_cast; rfl
  rw [e, u_id (Int.natCast_nonneg _) (by exact_mod_cast lt)]
theorem fill_loop {lo i : Nat} (hi : i < 2 ^ 20) (hlo2 : Prop) (ds : List Deferred) : ∀ (d K : Nat) (H : CH) (v : Value) (ws : List Nat), i / 64 + 1 - ws.length ≤ d → d < K → ws.length < 2 ^ 19 → OutS lo H v ws → lo ≤ H.n → H.lim ≤ lo →
    ∃ H' v', (cal K).sloop 5 1 none [v, .int .i64 i] ds H = some (4, [v'], ds, H') ∧ OutS lo H' v' (ws ++ List.replicate (i / 64 + 1 - ws.length) 0) ∧ Fl lo H H'
  | d, K, H, v, ws, hd, hK, hs, ho, hn, hl => by
    obtain ⟨K, rfl⟩ : ∃ j, K = j + 1 := ⟨K - 1, by omega⟩
    have q1 : (i : Int).tdiv 64 = ((i / 64 : Nat) : Int) := by rw [Int.tdiv_eq_ediv_of_nonneg (by omega)]; rfl
    have q3 : IntKind.i64.wrap ((i / 64 : Nat) : Int) = ((i / 64 : Nat) : Int) := i_id (by omega) (by omega)
    rw [s5_1]
    by_cases he : ws.length ≤ i / 64
    · obtain ⟨d, rfl⟩ : ∃ j, d = j + 1 := ⟨d - 1, by omega⟩
      have e : decide ((ws.length : Int) ≤ ((i / 64 : Nat) : Int)) = true := by simp only [decide_eq_true_eq]; omega
      obtain ⟨H1, v1, p1, p2, p3⟩ := push ho hn hl (by omega) 0
      have z0 : ((0 : Nat) : Int) = 0 := rfl
      rw [z0] at p1
      obtain ⟨H2, v2, r1, r2, r3⟩ := fill_loop hi hlo2 ds d K H1 v1 (ws ++ [0]) (by simp; omega) (by omega) (by simp; omega) p2 (Nat.le_trans hn p3.n) (by rw [p3.lim]; exact hl)
      refine ⟨H2, v2, ?_, ?_, p3.trans r3⟩
      · simp only [L5_1, obs1, w1_cons, nilD_nil, gdo_tt, gdo_ft, gdo_tf, gdo_ff, c_t, c_f, beq_self_eq_true, Nat.reduceBEq, map_s, chk_self1, v_asB, ho.len, v_quo _ _ _ 64 (by decide), q1, q3, v_leq, e, v_b1, p1, r1]
      · have : ws ++ [0] ++ List.replicate (i / 64 + 1 - (ws ++ [0]).length) 0 = ws ++ List.replicate (i / 64 + 1 - ws.length) 0 := by
          rw [List.append_assoc]
          congr 1
          rw [show i / 64 + 1 - ws.length = (i / 64 + 1 - (ws ++ [0]).length) + 1 by simp; omega, List.replicate_succ]; rfl
        rw [this] at r2; exact r2
    · have e : decide ((ws.length : Int) ≤ ((i / 64 : Nat) : Int)) = false := by simp only [decide_eq_false_iff_not]; omega
      refine ⟨H, v, ?_, ?_, Fl.refl _ _⟩
      · simp only [L5_1, obs1, w1_cons, nilD_nil, gdo_tt, gdo_ft, gdo_tf, gdo_ff, c_t, c_f, beq_self_eq_true, Nat.reduceBEq, map_s, chk_self1, v_asB, ho.len, v_quo _ _ _ 64 (by decide), q1, q3, v_leq, e]
      · rw [show i / 64 + 1 - ws.length = 0 by omega]; simpa using ho
end Go.Cn
