/- What the codes are as numbers: for the statement OrderMeans. -/
import Derived.Test.YtphpaaaaifpidaaWalk02b
import Derived.Test.YtphpaaaaifpidaaMixG
namespace Go.Proofs.Ytphpaaaaifpidaa
open Go.RowKit

theorem xmsb_nat (x : BitVec 64) : (x.toNat < 9223372036854775808 ∧ (x ^^^ msb).toNat = x.toNat + 9223372036854775808) ∨ (9223372036854775808 ≤ x.toNat ∧ (x ^^^ msb).toNat + 9223372036854775808 = x.toNat) := by
  have h := x.isLt
  have hm := (x ^^^ msb).isLt
  have e : (x ^^^ msb).toNat = x.toNat ^^^ 2 ^ 63 := by rw [BitVec.toNat_xor]; rfl
  have a : (x ^^^ msb).toNat % 2 ^ 63 = x.toNat % 2 ^ 63 := by
    rw [e, Nat.xor_mod_two_pow, Nat.mod_self, Nat.xor_zero]
  have b : (x ^^^ msb).toNat / 2 ^ 63 = x.toNat / 2 ^ 63 ^^^ 1 := by
    rw [e, Nat.xor_div_two_pow, Nat.div_self (by decide)]
  have hc : x.toNat / 2 ^ 63 = 0 ∨ x.toNat / 2 ^ 63 = 1 := by omega
  rcases hc with hc | hc <;> rw [hc] at b
  · left
    have b' : (x ^^^ msb).toNat / 2 ^ 63 = 1 := b
    constructor <;> omega
  · right
    have b' : (x ^^^ msb).toNat / 2 ^ 63 = 0 := b
    constructor <;> omega
theorem CO1_val (x : BitVec 64) : ((CO 1 x).toNat : Int) = x.toInt + 9223372036854775808 := by
  show ((x ^^^ msb).toNat : Int) = _
  have h := x.isLt
  rcases toInt_cases x with ⟨h1, h2⟩ | ⟨h1, h2⟩ <;> rcases xmsb_nat x with ⟨h3, h4⟩ | ⟨h3, h4⟩ <;> omega
theorem CO2_val (x : BitVec 64) : ((CO 2 x).toNat : Int) = 9223372036854775807 - x.toInt := by
  show ((~~~ (x ^^^ msb)).toNat : Int) = _
  have h := x.isLt
  rw [notN]
  rcases toInt_cases x with ⟨h1, h2⟩ | ⟨h1, h2⟩ <;> rcases xmsb_nat x with ⟨h3, h4⟩ | ⟨h3, h4⟩ <;> omega
theorem CO3_val (x : BitVec 64) : ((CO 3 x).toNat : Int) = if x.toInt < 0 then -2 * x.toInt - 1 else 2 * x.toInt := by
  show ((sizeB x).toNat : Int) = _
  have h := x.isLt
  unfold sizeB
  rcases toInt_cases x with ⟨h1, h2⟩ | ⟨h1, h2⟩
  · rw [if_neg (by omega), if_neg (by omega), shl1]; omega
  · rw [if_pos (by omega), if_pos (by omega), notN, shl1]; omega
theorem half_nat (x : BitVec 64) : (turnB x (-1)).toNat = x.toNat / 2 + 9223372036854775808 * (x.toNat % 2) := by
  show (x <<< 63 ||| x >>> 1).toNat = _
  have h := x.isLt
  rw [← add_or, BitVec.toNat_add, BitVec.toNat_shiftLeft, shr1, Nat.shiftLeft_eq]
  · omega
  · intro i hi
    rw [BitVec.getLsbD_shiftLeft, BitVec.getLsbD_ushiftRight]
    by_cases c : i < 63
    · simp [c]
    · have : x.getLsbD (1 + i) = false := BitVec.getLsbD_of_ge _ _ (by omega)
      simp [this]
theorem CO5_val (x : BitVec 64) : ((CO 5 x).toNat : Int) = (x.toInt + 9223372036854775808) / 2 + 9223372036854775808 * (x.toInt % 2) := by
  show ((turnB (x ^^^ msb) (-1)).toNat : Int) = _
  have h := x.isLt
  have e := CO1_val x
  change ((x ^^^ msb).toNat : Int) = _ at e
  rw [half_nat]
  omega
theorem tmod_emod {n : Int} : n.tmod 2 = 0 ↔ n % 2 = 0 := by rw [← Int.dvd_iff_tmod_eq_zero, Int.dvd_iff_emod_eq_zero]
theorem wf_i64 {n : Int} (h : (Lit.int .i64 n).wf = true) : -9223372036854775808 ≤ n ∧ n ≤ 9223372036854775807 := by
  simp [Lit.wf, IntKind.min, IntKind.max, IntKind.bits, IntKind.signed] at h
  omega
theorem word_of {n : Int} (h : -9223372036854775808 ≤ n ∧ n ≤ 9223372036854775807) : ∃ x : BitVec 64, x.toInt = n := by
  refine ⟨BitVec.ofInt 64 n, ?_⟩
  rcases toInt_cases (BitVec.ofInt 64 n) with ⟨h1, h2⟩ | ⟨h1, h2⟩ <;> rw [h2] <;> rw [BitVec.toNat_ofInt] at * <;> omega
section
variable {a b u : Int} (ha : -9223372036854775808 ≤ a ∧ a ≤ 9223372036854775807) (hb : -9223372036854775808 ≤ b ∧ b ≤ 9223372036854775807)
include ha hb
theorem cmp_at1 (h : cmpI a b = u) (W : World) : Calls Try.prog 15 #[.int .u8 1, .int .i64 a, .int .i64 b] W fun e w' => e = .returned (.int .i64 u) ∧ Ext W w' := by
  obtain ⟨x, rfl⟩ := word_of ha
  obtain ⟨y, rfl⟩ := word_of hb
  refine compare_is (o := 1) x y (by decide) (by decide) rfl rfl rfl ?_
  rw [CO1_val, CO1_val, ← h]
  unfold cmpI
  (repeat' split) <;> omega
theorem cmp_at2 (h : cmpI a b = -u) (W : World) : Calls Try.prog 15 #[.int .u8 2, .int .i64 a, .int .i64 b] W fun e w' => e = .returned (.int .i64 u) ∧ Ext W w' := by
  obtain ⟨x, rfl⟩ := word_of ha
  obtain ⟨y, rfl⟩ := word_of hb
  refine compare_is (o := 2) x y (by decide) (by decide) rfl rfl rfl ?_
  rw [CO2_val, CO2_val, show u = -cmpI x.toInt y.toInt from by omega]
  unfold cmpI
  (repeat' split) <;> omega
theorem cmp_at3p (h : 0 ≤ a ∧ a < b) (W : World) : Calls Try.prog 15 #[.int .u8 3, .int .i64 a, .int .i64 b] W fun e w' => e = .returned (.int .i64 (-1)) ∧ Ext W w' := by
  obtain ⟨x, rfl⟩ := word_of ha
  obtain ⟨y, rfl⟩ := word_of hb
  refine compare_is (o := 3) x y (by decide) (by decide) rfl rfl rfl ?_
  rw [CO3_val, CO3_val]
  unfold cmpI
  (repeat' split) <;> omega
theorem cmp_at3n (h : 0 ≤ a ∧ a < b) (W : World) : Calls Try.prog 15 #[.int .u8 3, .int .i64 (-a), .int .i64 (-b)] W fun e w' => e = .returned (.int .i64 (-1)) ∧ Ext W w' := by
  obtain ⟨x, hx⟩ := word_of (n := -a) (by omega)
  obtain ⟨y, hy⟩ := word_of (n := -b) (by omega)
  refine compare_is (o := 3) x y (by decide) (by decide) rfl hx hy ?_
  rw [CO3_val, CO3_val, hx, hy]
  unfold cmpI
  (repeat' split) <;> omega
/-- How two keys stand by their parity. -/
def evenI (a b : Int) : Int := if a.tmod 2 = 0 then (if b.tmod 2 = 0 then cmpI a b else -1) else (if b.tmod 2 = 0 then 1 else cmpI a b)
theorem cmp_at5 (h : evenI a b = u) (W : World) : Calls Try.prog 15 #[.int .u8 5, .int .i64 a, .int .i64 b] W fun e w' => e = .returned (.int .i64 u) ∧ Ext W w' := by
  obtain ⟨x, rfl⟩ := word_of ha
  obtain ⟨y, rfl⟩ := word_of hb
  refine compare_is (o := 5) x y (by decide) (by decide) rfl rfl rfl ?_
  rw [CO5_val, CO5_val, ← h]
  have p : ∀ n : Int, n.tmod 2 = 0 ↔ n % 2 = 0 := fun n => by rw [← Int.dvd_iff_tmod_eq_zero, Int.dvd_iff_emod_eq_zero]
  unfold evenI cmpI
  simp only [p]
  (repeat' split) <;> omega
omit hb in
theorem cmp_at3z (h : a ≠ 0) (W : World) : Calls Try.prog 15 #[.int .u8 3, .int .i64 0, .int .i64 a] W fun e w' => e = .returned (.int .i64 (-1)) ∧ Ext W w' := by
  obtain ⟨x, rfl⟩ := word_of ha
  refine compare_is (o := 3) 0#64 x (by decide) (by decide) rfl rfl rfl ?_
  rw [CO3_val, CO3_val, show (0#64).toInt = 0 from rfl]
  unfold cmpI
  (repeat' split) <;> omega
end
end Go.Proofs.Ytphpaaaaifpidaa
