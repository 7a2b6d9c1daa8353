/- The document's Turn and Flip, bit by bit. -/
import Derived.Test.YtphpaaaaifpidaaMixD
namespace Go.Proofs.Ytphpaaaaifpidaa
open Go.RowKit

/-- One bit of a number. -/
def bitB (x : BitVec 64) (k : Nat) : BitVec 64 := x >>> k &&& 1#64
theorem bitB_bit (x : BitVec 64) (k i : Nat) : (bitB x k).getLsbD i = (decide (i = 0) && x.getLsbD k) := by
  unfold bitB
  rw [BitVec.getLsbD_and, BitVec.getLsbD_ushiftRight]
  by_cases h : i = 0
  · subst h; simp
  · have : (1#64).getLsbD i = false := by simp [BitVec.getLsbD_one, h]
    simp [h, this]
theorem bitB_nat (x : BitVec 64) (k : Nat) : (bitB x k).toNat = x.toNat / 2 ^ k % 2 := by
  unfold bitB
  rw [BitVec.toNat_and, BitVec.toNat_ushiftRight, Nat.shiftRight_eq_div_pow]
  exact Nat.and_one_is_mod _
def tl (x : BitVec 64) (r : Nat) : Nat → BitVec 64
  | 0 => 0#64
  | k + 1 => tl x r k + bitB x k <<< ((k + r) % 64)
theorem add_or {a b : BitVec 64} (h : ∀ i, i < 64 → (a.getLsbD i && b.getLsbD i) = false) : a + b = a ||| b := by
  apply BitVec.add_eq_or_of_and_eq_zero
  apply BitVec.eq_of_getLsbD_eq
  intro i hi
  rw [BitVec.getLsbD_and, h i hi]; simp
theorem shl_bit (x : BitVec 64) (k : Nat) {p i : Nat} (hi : i < 64) : (bitB x k <<< p).getLsbD i = (decide (i = p) && x.getLsbD k) := by
  rw [BitVec.getLsbD_shiftLeft, bitB_bit]
  by_cases h : i = p
  · subst h; simp [hi]
  · by_cases h2 : i < p
    · simp [h, h2]
    · have : ¬ i - p = 0 := by omega
      simp [h, this]
theorem tl_bit (x : BitVec 64) {r : Nat} (hr : r < 64) : ∀ k, k ≤ 64 → ∀ j, j < 64 → (tl x r k).getLsbD j = (decide ((j + 64 - r) % 64 < k) && x.getLsbD ((j + 64 - r) % 64))
  | 0, _, j, _ => by simp [tl]
  | k + 1, hk, j, hj => by
    have ih := tl_bit x hr k (by omega)
    rw [tl, add_or, BitVec.getLsbD_or, ih j hj, shl_bit x k hj]
    · by_cases h : j = (k + r) % 64
      · have h1 : (j + 64 - r) % 64 = k := by omega
        rw [h1, decide_eq_true h]
        simp
      · have h1 : ¬ (j + 64 - r) % 64 = k := by omega
        by_cases h2 : (j + 64 - r) % 64 < k
        · simp [h, h2, Nat.lt_succ_of_lt h2]
        · have h3 : ¬ (j + 64 - r) % 64 < k + 1 := by omega
          simp [h, h2, h3]
    · intro i hi
      rw [ih i hi, shl_bit x k hi]
      by_cases h : i = (k + r) % 64
      · have h1 : (i + 64 - r) % 64 = k := by omega
        rw [h1]
        simp
      · simp [h]
theorem tl_all (x : BitVec 64) (n : Int) : tl x (n % 64).toNat 64 = turnB x n := by
  apply BitVec.eq_of_getLsbD_eq
  intro i hi
  rw [tl_bit x (by omega) 64 (Nat.le_refl _) i hi, turn_bit x n hi]
  have h1 : (i + 64 - (n % 64).toNat) % 64 < 64 := Nat.mod_lt _ (by omega)
  have h2 : (i + 64 - (n % 64).toNat) % 64 = (((i : Int) - n) % 64).toNat := by omega
  rw [decide_eq_true h1, h2]; rfl
def fl (x : BitVec 64) : Nat → BitVec 64
  | 0 => 0#64
  | k + 1 => fl x k <<< 1 + bitB x k
theorem fl_bit (x : BitVec 64) : ∀ k, k ≤ 64 → ∀ j, j < 64 → (fl x k).getLsbD j = (decide (j < k) && x.getLsbD (k - 1 - j))
  | 0, _, j, _ => by simp [fl]
  | k + 1, hk, j, hj => by
    have ih := fl_bit x k (by omega)
    rw [fl, add_or, BitVec.getLsbD_or, BitVec.getLsbD_shiftLeft, bitB_bit]
    · cases j with
      | zero => simp
      | succ j =>
        rw [show j + 1 - 1 = j from rfl, ih j (by omega), show k + 1 - 1 - (j + 1) = k - 1 - j from by omega]
        simp [hj]
    · intro i hi
      rw [BitVec.getLsbD_shiftLeft, bitB_bit]
      by_cases h : i = 0 <;> simp [h]
theorem fl_all (x : BitVec 64) : fl x 64 = flipB x := by
  apply BitVec.eq_of_getLsbD_eq
  intro i hi
  rw [fl_bit x 64 (Nat.le_refl _) i hi, flip_bit x hi]
  simp [hi]

theorem tl_val (x : BitVec 64) (r k : Nat) : IntKind.u64.wrap (((tl x r k).toNat : Int) + IntKind.u64.wrap ((((x.toNat : Int) / 2 ^ k).tmod 2) * 2 ^ ((k + r) % 64))) = ((tl x r (k + 1)).toNat : Int) := by
  have h : ((x.toNat : Int) / 2 ^ k).tmod 2 = ((bitB x k).toNat : Int) := by
    rw [bitB_nat, Int.tmod_eq_emod_of_nonneg (Int.ediv_nonneg (by omega) (Int.le_of_lt (Int.pow_pos (by decide))))]
    simp
  rw [h, shl_val, tl, BitVec.toNat_add, IntKind.wrap_u64]
  simp
theorem fl_val (x : BitVec 64) (k : Nat) : IntKind.u64.wrap (IntKind.u64.wrap (((fl x k).toNat : Int) * 2) + ((((x >>> k).toNat : Int)) % 2)) = ((fl x (k + 1)).toNat : Int) := by
  have h : (((x >>> k).toNat : Int)) % 2 = ((bitB x k).toNat : Int) := by
    rw [bitB_nat, BitVec.toNat_ushiftRight, Nat.shiftRight_eq_div_pow]
    simp
  have h2 := shl_val (fl x k) 1
  rw [show (2 : Int) ^ 1 = 2 from rfl] at h2
  rw [h, h2, fl, BitVec.toNat_add, IntKind.wrap_u64]
  simp

set_option maxHeartbeats 1000000 in
theorem refFlip_any (x : BitVec 64) (w : World) : Calls Try.prog 57 #[U x] w fun e w' => e = .returned (U (flipB x)) ∧ Ext w w' := by
  rw [show U x = .int .u64 (x.toNat : Int) from rfl]
  go_enter Try.func57, Try.ntmps57
  go_wp2_with fail
  go_loop [0, 3, 4] (fun z y i => ∃ k : Nat, k ≤ 64 ∧ i = .int .i64 k ∧ z = .int .u64 ((x >>> k).toNat : Int) ∧ y = .int .u64 ((fl x k).toNat : Int)) (fun _ _ i => 64 - (intOf i).toNat)
  case atStart => exact ⟨0, Nat.zero_le _, rfl, by simp, rfl⟩
  case round =>
    obtain ⟨k, hk, rfl, rfl, rfl⟩ := hrel
    by_cases hlt : k < 64
    · have e1 := fl_val x k
      have e2 : (((x >>> k).toNat : Int) / 2) = ((x >>> (k + 1)).toNat : Int) := by
        rw [BitVec.shiftRight_add]; exact shr_val (x >>> k) 1
      generalize x >>> k = z at *
      have E1 := Lib.hid e1
      have E2 := Lib.hid e2
      clear e1 e2
      go_wp2_with fail
      exact ⟨⟨k + 1, by omega, by go_num, by rw [E2.out], by rw [E1.out]⟩, by simp [intOf]; omega⟩
    · obtain rfl : k = 64 := by omega
      go_wp2_with fail
      go_ret
      exact ⟨by rw [fl_all]; rfl, Ext.refl _⟩

set_option maxHeartbeats 1000000 in
theorem refTurn_any (x : BitVec 64) (n : Int) (w : World) : Calls Try.prog 58 #[U x, .int .i64 n] w fun e w' => e = .returned (U (turnB x n)) ∧ Ext w w' := by
  rw [show U x = .int .u64 (x.toNat : Int) from rfl]
  obtain ⟨h1, h2⟩ := tmod_lo n 64 (by decide)
  have hr : (n.tmod 64 + 64) % 64 = ((n % 64).toNat : Int) := by
    have := tmod_mod n
    omega
  have hr64 : (n % 64).toNat < 64 := by omega
  have ht := tl_all x n
  have HR := Lib.hid hr
  have HT := Lib.hid ht
  clear hr ht
  go_enter Try.func58, Try.ntmps58
  go_wp2_with fail
  rw [HR.out]
  clear HR
  generalize n.tmod 64 = n1 at *
  generalize (n % 64).toNat = r at *
  go_loop [5, 6] (fun y i => ∃ k : Nat, k ≤ 64 ∧ i = .int .i64 k ∧ y = .int .u64 ((tl x r k).toNat : Int)) (fun _ i => 64 - (intOf i).toNat)
  case atStart => exact ⟨0, Nat.zero_le _, rfl, rfl⟩
  case round =>
    obtain ⟨k, hk, rfl, rfl⟩ := hrel
    by_cases hlt : k < 64
    · have E := Lib.hid (tl_val x r k)
      generalize tl x r k = z at *
      go_wp2_with fail
      exact ⟨⟨k + 1, by omega, by go_num, by rw [E.out]⟩, by simp [intOf]; omega⟩
    · obtain rfl : k = 64 := by omega
      go_wp2_with fail
      go_ret
      exact ⟨by rw [HT.out]; rfl, Ext.refl _⟩
end Go.Proofs.Ytphpaaaaifpidaa
