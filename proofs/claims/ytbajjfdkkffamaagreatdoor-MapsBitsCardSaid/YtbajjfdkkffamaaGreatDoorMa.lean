/- Bits of maps, as the canonical run makes them: whether one is set. -/
import Derived.Test.YtbajjfdkkffamaaGreatDoorF0
namespace Go.Cn
set_option linter.unusedVariables false
set_option linter.unusedSimpArgs false
/-! ### The run by shallow forms -/
noncomputable def cal (k : Nat) : Cal := toC Go.Proofs.Tryz.prog (orc Go.Proofs.Tryz.prog KZ k)
theorem cal_call (k f : Nat) (a : List Value) (H : CH) : (cal (k + 1)).call f a H = icall Go.Proofs.Tryz.prog (orc Go.Proofs.Tryz.prog KZ k) KZ f a H := by kernel_rfl
theorem cal_loop (k f j : Nat) (rd : Option Nat) (vs : List Value) (ds : List Deferred) (H : CH) : (cal (k + 1)).sloop f j rd vs ds H = iloop Go.Proofs.Tryz.prog (orc Go.Proofs.Tryz.prog KZ k) KZ f rd (loopBody Go.Proofs.Tryz.prog f j) vs ds H := by kernel_rfl
theorem c5 (k : Nat) (t0 : Value) (H : CH) : (cal (k + 1)).call 5 [t0] H = F5 (cal k) t0 H := (cal_call ..).trans (E5 (orc Go.Proofs.Tryz.prog KZ k) t0 H)
theorem c6 (k : Nat) (t0 t1 : Value) (H : CH) : (cal (k + 1)).call 6 [t0, t1] H = F6 (cal k) t0 t1 H := (cal_call ..).trans (E6 (orc Go.Proofs.Tryz.prog KZ k) t0 t1 H)
theorem c7 (k : Nat) (t0 t1 : Value) (H : CH) : (cal (k + 1)).call 7 [t0, t1] H = F7 (cal k) t0 t1 H := (cal_call ..).trans (E7 (orc Go.Proofs.Tryz.prog KZ k) t0 t1 H)
theorem c8 (k : Nat) (t0 : Value) (H : CH) : (cal (k + 1)).call 8 [t0] H = F8 (cal k) t0 H := (cal_call ..).trans (E8 (orc Go.Proofs.Tryz.prog KZ k) t0 H)
theorem c9 (k : Nat) (t0 t1 : Value) (H : CH) : (cal (k + 1)).call 9 [t0, t1] H = F9 (cal k) t0 t1 H := (cal_call ..).trans (E9 (orc Go.Proofs.Tryz.prog KZ k) t0 t1 H)
theorem s3_0 (k : Nat) (rd : Option Nat) (t0 t6 t7 t8 : Value) (ds : List Deferred) (H : CH) : (cal (k + 1)).sloop 3 0 rd [t0, t6, t7, t8] ds H = L3_0 (cal k) rd [t0, t6, t7, t8] ds H := (cal_loop ..).trans (M3_0 (orc Go.Proofs.Tryz.prog KZ k) rd t0 t6 t7 t8 ds H)
theorem s5_0 (k : Nat) (rd : Option Nat) (t3 t4 t5 t6 t7 t8 : Value) (ds : List Deferred) (H : CH) : (cal (k + 1)).sloop 5 0 rd [t3, t4, t5, t6, t7, t8] ds H = L5_0 (cal k) rd [t3, t4, t5, t6, t7, t8] ds H := (cal_loop ..).trans (M5_0 (orc Go.Proofs.Tryz.prog KZ k) rd t3 t4 t5 t6 t7 t8 ds H)
theorem s5_1 (k : Nat) (rd : Option Nat) (t3 t4 : Value) (ds : List Deferred) (H : CH) : (cal (k + 1)).sloop 5 1 rd [t3, t4] ds H = L5_1 (cal k) rd [t3, t4] ds H := (cal_loop ..).trans (M5_1 (orc Go.Proofs.Tryz.prog KZ k) rd t3 t4 ds H)
theorem s7_0 (k : Nat) (rd : Option Nat) (t0 t1 t4 t5 : Value) (ds : List Deferred) (H : CH) : (cal (k + 1)).sloop 7 0 rd [t0, t1, t4, t5] ds H = L7_0 (cal k) rd [t0, t1, t4, t5] ds H := (cal_loop ..).trans (M7_0 (orc Go.Proofs.Tryz.prog KZ k) rd t0 t1 t4 t5 ds H)
theorem s8_0 (k : Nat) (rd : Option Nat) (t0 t3 : Value) (ds : List Deferred) (H : CH) : (cal (k + 1)).sloop 8 0 rd [t0, t3] ds H = L8_0 (cal k) rd [t0, t3] ds H := (cal_loop ..).trans (M8_0 (orc Go.Proofs.Tryz.prog KZ k) rd t0 t3 ds H)
theorem s8_1 (k : Nat) (rd : Option Nat) (t0 t3 t4 t5 t6 t7 : Value) (ds : List Deferred) (H : CH) : (cal (k + 1)).sloop 8 1 rd [t0, t3, t4, t5, t6, t7] ds H = L8_1 (cal k) rd [t0, t3, t4, t5, t6, t7] ds H := (cal_loop ..).trans (M8_1 (orc Go.Proofs.Tryz.prog KZ k) rd t0 t3 t4 t5 t6 t7 ds H)
theorem s8_2 (k : Nat) (rd : Option Nat) (t0 t3 t5 t6 t7 : Value) (ds : List Deferred) (H : CH) : (cal (k + 1)).sloop 8 2 rd [t0, t3, t5, t6, t7] ds H = L8_2 (cal k) rd [t0, t3, t5, t6, t7] ds H := (cal_loop ..).trans (M8_2 (orc Go.Proofs.Tryz.prog KZ k) rd t0 t3 t5 t6 t7 ds H)
theorem s9_0 (k : Nat) (rd : Option Nat) (t1 t5 t6 : Value) (ds : List Deferred) (H : CH) : (cal (k + 1)).sloop 9 0 rd [t1, t5, t6] ds H = L9_0 (cal k) rd [t1, t5, t6] ds H := (cal_loop ..).trans (M9_0 (orc Go.Proofs.Tryz.prog KZ k) rd t1 t5 t6 ds H)
/-! ### Steps -/
theorem obs1 {α β : Type} (a : α) (f : α → Option β) : (some a).bind f = f a := Eq.trans rfl rfl
theorem map_s {α β : Type} (a : α) (f : α → β) : (some a).map f = some (f a) := Eq.trans rfl rfl
theorem w1_cons {R : Type} (v : Value) (vs : List Value) (k : Value → List Value → Option R) : w1 (v :: vs) k = k v vs := Eq.trans rfl rfl
theorem nilD_nil {R : Type} (x : Option R) : nilD [] x = x := Eq.trans rfl rfl
theorem gdo_tt {α : Type} (x d : Option α) : gdo true true x d = x := Eq.trans rfl rfl
theorem gdo_ft {α : Type} (x d : Option α) : gdo false true x d = d := Eq.trans rfl rfl
theorem gdo_tf {α : Type} (x d : Option α) : gdo true false x d = d := Eq.trans rfl rfl
theorem gdo_ff {α : Type} (x d : Option α) : gdo false false x d = x := Eq.trans rfl rfl
theorem c_t {α : Type} (x d : α) : cond true x d = x := Eq.trans rfl rfl
theorem c_f {α : Type} (x d : α) : cond false x d = d := Eq.trans rfl rfl
theorem chk_self1 {R : Type} (v : Value) (r : Option R) : chk (some v) v r = r := chk_pos rfl
theorem cBin_int (op : BinOp) (hs : op ≠ .shl) (hr : op ≠ .shr) (t : TypeId) (k : IntKind) (a b : Int) : bin op t (.int k a) (.int k b) = cInt op k a b := by
  unfold bin cBin; cases op <;> simp_all
theorem v_eql (t : TypeId) (k : IntKind) (a b : Int) : bin .eql t (.int k a) (.int k b) = some (.bool (a == b)) := cBin_int .eql (by decide) (by decide) ..
theorem v_neq (t : TypeId) (k : IntKind) (a b : Int) : bin .neq t (.int k a) (.int k b) = some (.bool (a != b)) := cBin_int .neq (by decide) (by decide) ..
theorem v_lss (t : TypeId) (k : IntKind) (a b : Int) : bin .lss t (.int k a) (.int k b) = some (.bool (decide (a < b))) := cBin_int .lss (by decide) (by decide) ..
theorem v_leq (t : TypeId) (k : IntKind) (a b : Int) : bin .leq t (.int k a) (.int k b) = some (.bool (decide (a ≤ b))) := cBin_int .leq (by decide) (by decide) ..
theorem v_gtr (t : TypeId) (k : IntKind) (a b : Int) : bin .gtr t (.int k a) (.int k b) = some (.bool (decide (a > b))) := cBin_int .gtr (by decide) (by decide) ..
theorem v_geq (t : TypeId) (k : IntKind) (a b : Int) : bin .geq t (.int k a) (.int k b) = some (.bool (decide (a ≥ b))) := cBin_int .geq (by decide) (by decide) ..
theorem v_add (t : TypeId) (k : IntKind) (a b : Int) : bin .add t (.int k a) (.int k b) = some (.int k (k.wrap (a + b))) := cBin_int .add (by decide) (by decide) ..
theorem v_sub (t : TypeId) (k : IntKind) (a b : Int) : bin .sub t (.int k a) (.int k b) = some (.int k (k.wrap (a - b))) := cBin_int .sub (by decide) (by decide) ..
theorem v_mul (t : TypeId) (k : IntKind) (a b : Int) : bin .mul t (.int k a) (.int k b) = some (.int k (k.wrap (a * b))) := cBin_int .mul (by decide) (by decide) ..
theorem v_rem (t : TypeId) (k : IntKind) (a b : Int) (h : b ≠ 0) : bin .rem t (.int k a) (.int k b) = some (.int k (a.tmod b)) := by
  rw [cBin_int .rem (by decide) (by decide)]; simp [cInt, h]
theorem v_quo (t : TypeId) (k : IntKind) (a b : Int) (h : b ≠ 0) : bin .quo t (.int k a) (.int k b) = some (.int k (k.wrap (a.tdiv b))) := by
  rw [cBin_int .quo (by decide) (by decide)]; simp [cInt, h]
theorem v_asB (b : Bool) : asB (.bool b) = some b := rfl
theorem v_not (b : Bool) : cUn .not (.bool b) = some (.bool !b) := rfl
theorem u_id {n : Int} (h0 : 0 ≤ n) (h : n < 2 ^ 64) : IntKind.u64.wrap n = n := by simp [IntKind.wrap, IntKind.bits, IntKind.signed]; omega
theorem i_id {n : Int} (h0 : -2 ^ 63 ≤ n) (h : n < 2 ^ 63) : IntKind.i64.wrap n = n := by simp [IntKind.wrap, IntKind.bits, IntKind.signed]; omega
/-- A row that may be looked into. -/
structure Row (H : CH) (v : Value) (n : Nat) (f : Nat → Value) : Prop where
  len : lenSl v = some (.int .i64 n)
  get : ∀ j, j < n → ∃ p, idxSl 1 v (.int .i64 j) = some p ∧ ld1 p H = some (f j)
  short : n < 2 ^ 31
def wd (w : Nat → Nat) : Nat → Value := fun j => .int .u64 (w j)
theorem v_and1 (t : TypeId) (a : Nat) (h : a < 2 ^ 64) : bin .and t (.int .u64 a) (.int .u64 1) = some (.int .u64 ((a % 2 : Nat) : Int)) := by
  rw [cBin_int .and (by decide) (by decide)]
  have e : (BitVec.ofInt 64 (a : Int) &&& BitVec.ofInt 64 1).toNat = a % 2 := by
    rw [BitVec.toNat_and]
    have e1 : (BitVec.ofInt 64 (a : Int)).toNat = a := by simp [BitVec.toNat_ofInt]; omega
    have e2 : (BitVec.ofInt 64 1).toNat = 2 ^ 1 - 1 := by decide
    rw [e1, e2, Nat.and_two_pow_sub_one_eq_mod]
  show some (Value.int .u64 (IntKind.u64.wrap ((BitVec.ofInt 64 (a : Int) &&& BitVec.ofInt 64 1).toNat : Int))) = _
  rw [e, u_id (by omega) (by omega)]
theorem v_shrn (t : TypeId) (k : IntKind) (a s : Nat) (hs : s < 64) : bin .shr t (.int .u64 a) (.int k (s : Nat)) = some (.int .u64 ((a / 2 ^ s : Nat) : Int)) := by
  show cShift .shr .u64 a ((s : Nat) : Int) = _
  simp only [cShift, IntKind.bits]
  rw [if_neg (by omega), Int.toNat_natCast, Nat.min_eq_left (by omega), Int.fdiv_eq_ediv_of_nonneg _ (Int.le_of_lt (Int.pow_pos (by decide)))]
  push_cast; rfl
/-- Is bit i of so many words set? -/
def hasB (w : Nat → Nat) (n : Nat) (i : Int) : Bool := decide (0 ≤ i) && (decide (i.toNat / 64 < n) && (w (i.toNat / 64) / 2 ^ (i.toNat % 64) % 2 == 1))
theorem has_spec {K : Nat} (hK : 1 ≤ K) {H : CH} {v : Value} {n : Nat} {w : Nat → Nat} (h : Row H v n (wd w)) (hw : ∀ j, j < n → w j < 2 ^ 64) (i : Int) (hi : -2 ^ 63 ≤ i) (hi2 : i < 2 ^ 63) :
    (cal K).call 6 [v, .int .i64 i] H = some (.bool (hasB w n i), H) := by
  obtain ⟨K, rfl⟩ : ∃ j, K = j + 1 := ⟨K - 1, by omega⟩
  rw [c6]
  by_cases h0 : 0 ≤ i
  · obtain ⟨m, rfl⟩ := Int.eq_ofNat_of_zero_le h0
    have e0 : decide ((m : Int) ≥ 0) = true := by simp
    have q1 : (m : Int).tdiv 64 = ((m / 64 : Nat) : Int) := by rw [Int.tdiv_eq_ediv_of_nonneg (by omega)]; rfl
    have q2 : (m : Int).tmod 64 = ((m % 64 : Nat) : Int) := by rw [Int.tmod_eq_emod_of_nonneg (by omega)]; rfl
    have q3 : IntKind.i64.wrap ((m / 64 : Nat) : Int) = ((m / 64 : Nat) : Int) := i_id (by omega) (by omega)
    have q0 : hasB w n (m : Int) = (decide (m / 64 < n) && (w (m / 64) / 2 ^ (m % 64) % 2 == 1)) := by simp [hasB]
    rw [q0]
    by_cases h1 : m / 64 < n
    · have e1 : decide (((m / 64 : Nat) : Int) < (n : Int)) = true := by simp only [decide_eq_true_eq]; omega
      obtain ⟨p, g1, g2⟩ := h.get _ h1
      have lw := hw _ h1
      have lw2 : w (m / 64) / 2 ^ (m % 64) < 2 ^ 64 := Nat.lt_of_le_of_lt (Nat.div_le_self _ _) lw
      have eq1 : (((w (m / 64) / 2 ^ (m % 64) % 2 : Nat) : Int) == 1) = (w (m / 64) / 2 ^ (m % 64) % 2 == 1) := by
        rw [Bool.eq_iff_iff, beq_iff_eq, beq_iff_eq]; omega
      simp only [wd] at g2
      simp only [F6, obs1, w1_cons, nilD_nil, gdo_tt, gdo_ft, gdo_tf, gdo_ff, c_t, c_f, beq_self_eq_true, Nat.reduceBEq, map_s, chk_self1, v_asB, v_geq, e0, v_asB, v_quo _ _ _ 64 (by decide), q1, q3, h.len, v_lss, e1, g1, g2, v_rem _ _ _ 64 (by decide), q2, v_shrn _ _ _ _ (show m % 64 < 64 by omega), v_and1 _ _ lw2, v_eql, eq1]
      simp [h1]
    · have e1 : decide (((m / 64 : Nat) : Int) < (n : Int)) = false := by simp only [decide_eq_false_iff_not]; omega
      simp only [F6, obs1, w1_cons, nilD_nil, gdo_tt, gdo_ft, gdo_tf, gdo_ff, c_t, c_f, beq_self_eq_true, Nat.reduceBEq, map_s, chk_self1, v_asB, v_geq, e0, v_asB, v_quo _ _ _ 64 (by decide), q1, q3, h.len, v_lss, e1]
      simp [h1]
  · have e0 : decide (i ≥ 0) = false := by simp; omega
    have q0 : hasB w n i = false := by simp [hasB]; omega
    rw [q0]
    simp only [F6, obs1, w1_cons, nilD_nil, gdo_tt, gdo_ft, gdo_tf, gdo_ff, c_t, c_f, beq_self_eq_true, Nat.reduceBEq, map_s, chk_self1, v_asB, v_geq, e0]
theorem ref_loop {H : CH} {m : Nat} (x : Nat) (ds : List Deferred) (hx : x < 2 ^ 64) (hm : m < 2 ^ 63) : ∀ (d K j : Nat), m % 64 - j ≤ d → d < K → j ≤ m % 64 →
    (cal K).sloop 9 0 none [.int .i64 m, .int .u64 ((x / 2 ^ j : Nat) : Int), .int .i64 j] ds H = some (2, [.int .u64 ((x / 2 ^ (m % 64) : Nat) : Int), .int .i64 ((m % 64 : Nat) : Int)], ds, H)
  | d, K, j, hd, hK, hj => by
    obtain ⟨K, rfl⟩ : ∃ j, K = j + 1 := ⟨K - 1, by omega⟩
    have q2 : (m : Int).tmod 64 = ((m % 64 : Nat) : Int) := by rw [Int.tmod_eq_emod_of_nonneg (by omega)]; rfl
    rw [s9_0]
    by_cases he : j = m % 64
    · have e : decide ((j : Int) < ((m % 64 : Nat) : Int)) = false := by simp only [decide_eq_false_iff_not]; omega
      simp only [L9_0, obs1, w1_cons, nilD_nil, gdo_tt, gdo_ft, gdo_tf, gdo_ff, c_t, c_f, beq_self_eq_true, Nat.reduceBEq, map_s, chk_self1, v_asB, v_rem _ _ _ 64 (by decide), q2, v_lss, e]
      rw [he]
    · obtain ⟨d, rfl⟩ : ∃ j, d = j + 1 := ⟨d - 1, by omega⟩
      have e : decide ((j : Int) < ((m % 64 : Nat) : Int)) = true := by simp only [decide_eq_true_eq]; omega
      have lt : x / 2 ^ j < 2 ^ 64 := Nat.lt_of_le_of_lt (Nat.div_le_self _ _) hx
      have q3 : ((x / 2 ^ j : Nat) : Int).tdiv 2 = ((x / 2 ^ (j + 1) : Nat) : Int) := by
        rw [Int.tdiv_eq_ediv_of_nonneg (Int.natCast_nonneg _), Nat.pow_succ, ← Nat.div_div_eq_div_mul]; rfl
      have lt2 : x / 2 ^ (j + 1) < 2 ^ 64 := Nat.lt_of_le_of_lt (Nat.div_le_self _ _) hx
      have q4 : IntKind.u64.wrap ((x / 2 ^ (j + 1) : Nat) : Int) = ((x / 2 ^ (j + 1) : Nat) : Int) := u_id (Int.natCast_nonneg _) (by exact_mod_cast lt2)
      have w1 : IntKind.i64.wrap ((j : Int) + 1) = ((j + 1 : Nat) : Int) := by rw [i_id (by omega) (by omega)]; omega
      have IH := ref_loop (H := H) x ds hx hm d K (j + 1) (by omega) (by omega) (by omega)
      simp only [L9_0, obs1, w1_cons, nilD_nil, gdo_tt, gdo_ft, gdo_tf, gdo_ff, c_t, c_f, beq_self_eq_true, Nat.reduceBEq, map_s, chk_self1, v_asB, v_rem _ _ _ 64 (by decide), q2, v_lss, e, v_quo _ _ _ 2 (by decide), q3, q4, v_add, w1, IH]
theorem refHas_spec {K : Nat} (hK : 70 ≤ K) {H : CH} {v : Value} {n : Nat} {w : Nat → Nat} (h : Row H v n (wd w)) (hw : ∀ j, j < n → w j < 2 ^ 64) (i : Int) (hi : -2 ^ 63 ≤ i) (hi2 : i < 2 ^ 63) :
    (cal K).call 9 [v, .int .i64 i] H = some (.bool (hasB w n i), H) := by
  obtain ⟨K, rfl⟩ : ∃ j, K = j + 1 := ⟨K - 1, by omega⟩
  have hsh := h.short
  rw [c9]
  have w64 : IntKind.i64.wrap (64 * (n : Int)) = ((64 * n : Nat) : Int) := by rw [i_id (by omega) (by omega)]; omega
  by_cases h0 : 0 ≤ i
  · obtain ⟨m, rfl⟩ := Int.eq_ofNat_of_zero_le h0
    have e0 : decide ((m : Int) < 0) = false := by simp
    have q1 : (m : Int).tdiv 64 = ((m / 64 : Nat) : Int) := by rw [Int.tdiv_eq_ediv_of_nonneg (by omega)]; rfl
    have q3 : IntKind.i64.wrap ((m / 64 : Nat) : Int) = ((m / 64 : Nat) : Int) := i_id (by omega) (by omega)
    have q0 : hasB w n (m : Int) = (decide (m / 64 < n) && (w (m / 64) / 2 ^ (m % 64) % 2 == 1)) := by simp [hasB]
    rw [q0]
    by_cases h1 : m / 64 < n
    · have e1 : decide ((m : Int) ≥ ((64 * n : Nat) : Int)) = false := by simp only [decide_eq_false_iff_not]; omega
      obtain ⟨p, g1, g2⟩ := h.get _ h1
      have lw := hw _ h1
      have lw2 : w (m / 64) / 2 ^ (m % 64) < 2 ^ 64 := Nat.lt_of_le_of_lt (Nat.div_le_self _ _) lw
      have eq1 : (((w (m / 64) / 2 ^ (m % 64) % 2 : Nat) : Int) == 1) = (w (m / 64) / 2 ^ (m % 64) % 2 == 1) := by
        rw [Bool.eq_iff_iff, beq_iff_eq, beq_iff_eq]; omega
      have q5 : ((w (m / 64) / 2 ^ (m % 64) : Nat) : Int).tmod 2 = ((w (m / 64) / 2 ^ (m % 64) % 2 : Nat) : Int) := by
        rw [Int.tmod_eq_emod_of_nonneg (Int.natCast_nonneg _)]; rfl
      have lp := ref_loop (H := H) (w (m / 64)) [] lw (m := m) (by omega) 64 K 0 (by omega) (by omega) (by omega)
      have z0 : ((0 : Nat) : Int) = 0 := rfl
      rw [Nat.pow_zero, Nat.div_one, z0] at lp
      simp only [wd] at g2
      simp only [F9, obs1, w1_cons, nilD_nil, gdo_tt, gdo_ft, gdo_tf, gdo_ff, c_t, c_f, beq_self_eq_true, Nat.reduceBEq, map_s, chk_self1, v_asB, v_lss, e0, v_asB, h.len, v_mul, w64, v_geq, e1, v_quo _ _ _ 64 (by decide), q1, q3, g1, g2, lp, v_rem _ _ _ 2 (by decide), q5, v_eql, eq1]
      simp [h1]
    · have e1 : decide ((m : Int) ≥ ((64 * n : Nat) : Int)) = true := by simp only [decide_eq_true_eq]; omega
      simp only [F9, obs1, w1_cons, nilD_nil, gdo_tt, gdo_ft, gdo_tf, gdo_ff, c_t, c_f, beq_self_eq_true, Nat.reduceBEq, map_s, chk_self1, v_asB, v_lss, e0, v_asB, h.len, v_mul, w64, v_geq, e1]
      simp [h1]
  · have e0 : decide (i < 0) = true := by simp; omega
    have q0 : hasB w n i = false := by simp [hasB]; omega
    rw [q0]
    simp only [F9, obs1, w1_cons, nilD_nil, gdo_tt, gdo_ft, gdo_tf, gdo_ff, c_t, c_f, beq_self_eq_true, Nat.reduceBEq, map_s, chk_self1, v_asB, v_lss, e0, v_asB]
theorem one_loop {H : CH} {a b : Value} {n : Nat} {w : Nat → Nat} (ha : Row H a n (wd w)) (hb : Row H b n (wd w)) (ds : List Deferred) : ∀ (d K j : Nat), n - j ≤ d → d < K → j ≤ n →
    (cal K).sloop 7 0 none [a, b, .bool false, .int .i64 j] ds H = some (2, [.bool false, .int .i64 n], ds, H)
  | d, K, j, hd, hK, hj => by
    obtain ⟨K, rfl⟩ : ∃ j, K = j + 1 := ⟨K - 1, by omega⟩
    have hsh := ha.short
    rw [s7_0]
    by_cases he : j = n
    · subst he
      have e : decide ((j : Int) < (j : Int)) = false := by simp
      simp only [L7_0, obs1, w1_cons, nilD_nil, gdo_tt, gdo_ft, gdo_tf, gdo_ff, c_t, c_f, beq_self_eq_true, Nat.reduceBEq, map_s, chk_self1, v_asB, ha.len, v_lss, e]
    · obtain ⟨d, rfl⟩ : ∃ j, d = j + 1 := ⟨d - 1, by omega⟩
      have e : decide ((j : Int) < (n : Int)) = true := by simp; omega
      obtain ⟨p, g1, g2⟩ := ha.get j (by omega)
      obtain ⟨p', g3, g4⟩ := hb.get j (by omega)
      have q : (((w j : Nat) : Int) != ((w j : Nat) : Int)) = false := by simp
      have w1 : IntKind.i64.wrap ((j : Int) + 1) = ((j + 1 : Nat) : Int) := by rw [i_id (by omega) (by omega)]; omega
      have IH := one_loop ha hb ds d K (j + 1) (by omega) (by omega) (by omega)
      simp only [wd] at g2 g4
      simp only [L7_0, obs1, w1_cons, nilD_nil, gdo_tt, gdo_ft, gdo_tf, gdo_ff, c_t, c_f, beq_self_eq_true, Nat.reduceBEq, map_s, chk_self1, v_asB, ha.len, v_lss, e, g1, g2, g3, g4, v_neq, q, v_add, w1, IH]
theorem one_spec {K : Nat} {H : CH} {a b : Value} {n : Nat} {w : Nat → Nat} (ha : Row H a n (wd w)) (hb : Row H b n (wd w)) (hK : n + 5 ≤ K) : (cal K).call 7 [a, b] H = some (.bool true, H) := by
  obtain ⟨K, rfl⟩ : ∃ j, K = j + 1 := ⟨K - 1, by omega⟩
  have lp := one_loop ha hb [] n K 0 (by omega) (by omega) (by omega)
  have z0 : ((0 : Nat) : Int) = 0 := rfl
  rw [z0] at lp
  have q : ((n : Int) != (n : Int)) = false := by simp
  rw [c7]
  simp only [F7, obs1, w1_cons, nilD_nil, gdo_tt, gdo_ft, gdo_tf, gdo_ff, c_t, c_f, beq_self_eq_true, Nat.reduceBEq, map_s, chk_self1, v_asB, ha.len, hb.len, v_neq, q, lp]
end Go.Cn
