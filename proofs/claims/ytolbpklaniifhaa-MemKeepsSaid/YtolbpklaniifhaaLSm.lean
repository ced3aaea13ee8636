/- Bytes and numbers. -/
import Derived.Test.YtolbpklaniifhaaLSt
namespace Go.Cn
set_option linter.unusedVariables false
set_option linter.unusedSimpArgs false
theorem u8_nat (n : Nat) : IntKind.u8.wrap (n : Int) = ((n % 256 : Nat) : Int) := by
  simp [IntKind.wrap, IntKind.bits, IntKind.signed]
theorem byte_nat (m i : Nat) : byteB (m : Int) i = ((m / 2 ^ (8 * i) % 256 : Nat) : Int) := by
  unfold byteB
  have : ((m : Int)).fdiv (2 ^ (8 * i)) = ((m / 2 ^ (8 * i) : Nat) : Int) := by
    rw [Int.fdiv_eq_ediv_of_nonneg _ (by exact Int.le_of_lt (Int.pow_pos (by decide)))]
    push_cast; rfl
  rw [this, u8_nat]
theorem or64_nat {a b : Nat} (ha : a < 2 ^ 64) (hb : b < 2 ^ 64) : or64 (a : Int) (b : Int) = ((a ||| b : Nat) : Int) := by
  unfold or64
  have e : (BitVec.ofInt 64 (a : Int) ||| BitVec.ofInt 64 (b : Int)).toNat = a ||| b := by
    rw [BitVec.toNat_or]
    have e1 : (BitVec.ofInt 64 (a : Int)).toNat = a := by simp [BitVec.toNat_ofInt]; omega
    have e2 : (BitVec.ofInt 64 (b : Int)).toNat = b := by simp [BitVec.toNat_ofInt]; omega
    rw [e1, e2]
  rw [e]
  have : a ||| b < 2 ^ 64 := Nat.or_lt_two_pow ha hb
  exact u_id (by omega) (by omega)
theorem step_nat {a x i : Nat} (hi : i < 8) (ha : a < 2 ^ (8 * i)) (hx : x < 256) : stepB (a : Int) i (x : Int) = ((a + x * 2 ^ (8 * i) : Nat) : Int) := by
  unfold stepB
  have p : 2 ^ (8 * i) ≤ 2 ^ 56 := Nat.pow_le_pow_right (by decide) (by omega)
  have q : x * 2 ^ (8 * i) < 2 ^ 64 := by
    have h1 : x * 2 ^ (8 * i) ≤ 255 * 2 ^ 56 := Nat.mul_le_mul (by omega) p
    omega
  have ux : IntKind.u64.wrap (x : Int) = x := u_id (by omega) (by omega)
  have cast : (x : Int) * 2 ^ (8 * i) = ((x * 2 ^ (8 * i) : Nat) : Int) := by push_cast; rfl
  rw [ux, cast, u_id (by omega) (by omega), or64_nat (by omega) q]
  congr 1
  have := Nat.two_pow_add_eq_or_of_lt ha x
  rw [Nat.or_comm, Nat.mul_comm x, ← this, Nat.add_comm]
theorem acc_of {bs : List Int} {y : Nat} (h : ∀ i, i < 8 → bs.getD i 0 = ((y / 2 ^ (8 * i) % 256 : Nat) : Int)) : ∀ i, i ≤ 8 → accB bs i = ((y % 2 ^ (8 * i) : Nat) : Int)
  | 0, _ => by simp [accB, Nat.mod_one]
  | i + 1, hi => by
    rw [accB, acc_of h i (by omega), h i (by omega), step_nat (by omega) (Nat.mod_lt _ (Nat.pow_pos (by decide))) (Nat.mod_lt _ (by decide))]
    congr 1
    rw [show 8 * (i + 1) = 8 * i + 8 by omega, Nat.pow_add, show 2 ^ 8 = 256 from rfl, Nat.mod_mul]
    rw [Nat.mul_comm (y / 2 ^ (8 * i) % 256)]
theorem row_getD (m : Nat) {i : Nat} (hi : i < 8) : (rowB (m : Int) 8).getD i 0 = ((m / 2 ^ (8 * i) % 256 : Nat) : Int) := by
  rw [← byte_nat]
  simp [rowB, List.getD_eq_getElem?_getD, hi]
theorem pad_getD {s : List Int} (hs : s.length ≤ 8) {i : Nat} (hi : i < 8) : (pad s).getD i 0 = if i < s.length then s.getD i 0 else 0 := by
  unfold pad
  rw [spl_getD (by simp; omega)]
  by_cases h : i < s.length
  · rw [if_pos (by omega), if_pos h, Nat.sub_zero]
  · rw [if_neg (by omega), if_neg h]
    rcases i with _ | _ | _ | _ | _ | _ | _ | _ | i <;> first | rfl | omega
theorem seg_getD {R : List Int} {d k i : Nat} (hi : i < k) : ((R.drop d).take k).getD i 0 = R.getD (d + i) 0 := by
  simp only [List.getD_eq_getElem?_getD]
  rw [List.getElem?_take_of_lt hi, List.getElem?_drop]
theorem val8 {m : Nat} (hm : m < 2 ^ 64) : accB (pad (((rowB (m : Int) 8).drop 0).take 8)) 8 = (m : Int) := by
  have rl : (rowB (m : Int) 8).length = 8 := by simp [rowB]
  rw [acc_of (y := m) (fun i hi => by
    rw [pad_getD (by simp [rl]) hi, if_pos (by simp [rl]; omega), seg_getD hi, Nat.zero_add, row_getD m hi]) 8 (Nat.le_refl _)]
  congr 1; omega
theorem val4a {m : Nat} (hm : m < 2 ^ 64) : accB (pad (((rowB (m : Int) 8).drop 0).take 4)) 8 = ((m % 2 ^ 32 : Nat) : Int) := by
  have rl : (rowB (m : Int) 8).length = 8 := by simp [rowB]
  have sl : (((rowB (m : Int) 8).drop 0).take 4).length = 4 := by simp [rl]
  rw [acc_of (y := m % 2 ^ 32) (fun i hi => by
    rw [pad_getD (by omega) hi, sl]
    by_cases h : i < 4
    · rw [if_pos h, seg_getD h, Nat.zero_add, row_getD m hi]
      congr 1
      rcases i with _ | _ | _ | _ | i <;> first | omega | (simp; omega)
    · rw [if_neg h]
      have : (m % 2 ^ 32) / 2 ^ (8 * i) = 0 := by
        apply Nat.div_eq_of_lt
        have : 2 ^ 32 ≤ 2 ^ (8 * i) := Nat.pow_le_pow_right (by decide) (by omega)
        omega
      rw [this]; rfl) 8 (Nat.le_refl _)]
  congr 1; omega
theorem val4b {m : Nat} (hm : m < 2 ^ 64) : accB (pad (((rowB (m : Int) 8).drop 4).take 4)) 8 = ((m / 2 ^ 32 : Nat) : Int) := by
  have rl : (rowB (m : Int) 8).length = 8 := by simp [rowB]
  have sl : (((rowB (m : Int) 8).drop 4).take 4).length = 4 := by simp [rl]
  rw [acc_of (y := m / 2 ^ 32) (fun i hi => by
    rw [pad_getD (by omega) hi, sl]
    by_cases h : i < 4
    · rw [if_pos h, seg_getD h, row_getD m (by omega), Nat.div_div_eq_div_mul, ← Nat.pow_add]
      congr 4; omega
    · rw [if_neg h]
      have : (m / 2 ^ 32) / 2 ^ (8 * i) = 0 := by
        apply Nat.div_eq_of_lt
        have : 2 ^ 32 ≤ 2 ^ (8 * i) := Nat.pow_le_pow_right (by decide) (by omega)
        omega
      rw [this]; rfl) 8 (Nat.le_refl _)]
  congr 1; omega
/-! ### Rows of bytes as strings -/
def mkS (s : List Int) : ByteArray := ⟨⟨s.map fun n => UInt8.ofNat n.toNat⟩⟩
theorem bytes_wc : ∀ s : List Int, bytesOf (wc s) = some (s.map fun n => UInt8.ofNat n.toNat)
  | [] => rfl
  | x :: s => by
    show (bytesOf (wc s)).map _ = _
    rw [bytes_wc s]; rfl
theorem v_str {H : CH} {r o n c : Nat} {w : List Int} (h : H.get r = some (.cells (wc w) 5)) (ho : o + n ≤ w.length) : toStr (.slice (some ⟨r, o, none⟩) n c) H = some (.string (mkS ((w.drop o).take n))) := by
  have e : H.loadN ⟨r, o, none⟩ n = some (wc ((w.drop o).take n)) := by
    simp only [CH.loadN, h]
    rw [if_pos ⟨trivial, by simp; omega⟩, wc_seg]
  simp only [toStr, e, obs, bytes_wc, Option.map_some]
  rfl
theorem v_seq (s : List Int) : cBin Go.Proofs.Try.prog .eql 9 (.string (mkS s)) (.string (mkS s)) = some (.bool true) := by
  show cStr .eql _ _ = _
  simp only [cStr, beq_self_eq_true]
theorem v_sne (s : List Int) : cBin Go.Proofs.Try.prog .neq 9 (.string (mkS s)) (.string (mkS s)) = some (.bool false) := by
  show cStr .neq _ _ = _
  simp only [cStr, beq_self_eq_true, Bool.not_true]
/-- What lies beside a row that was written stays. -/
theorem spl_out {w s : List Int} {i o k : Nat} (hi : i + s.length ≤ w.length) (h : o + k ≤ i ∨ i + s.length ≤ o) : ((spl w i s).drop o).take k = (w.drop o).take k := by
  have hl : (spl w i s).length = w.length := spl_len hi
  apply ext0
  · simp [hl]
  · intro j hj
    simp [hl] at hj
    rw [seg_getD (by omega), seg_getD (by omega), spl_getD hi, if_neg (by omega)]
end Go.Cn
