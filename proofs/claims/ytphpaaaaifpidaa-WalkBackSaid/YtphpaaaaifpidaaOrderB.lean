/- Package order: the closures of kinds. -/
import Derived.Test.YtphpaaaaifpidaaOrder
import Derived.Laws.Bits64b
namespace Go.Proofs.Ytphpaaaaifpidaa
open Go.RowKit

/-- A word as a key. -/
def KW (x : BitVec 64) : Value := .int .i64 x.toInt
def msb : BitVec 64 := 0x8000000000000000#64
theorem toInt_cases (x : BitVec 64) : (x.toNat < 9223372036854775808 ∧ x.toInt = x.toNat) ∨ (9223372036854775808 ≤ x.toNat ∧ x.toInt = (x.toNat : Int) - 18446744073709551616) := by
  have h := x.isLt
  rw [BitVec.toInt_eq_toNat_cond]
  split
  · left; exact ⟨by omega, rfl⟩
  · right; exact ⟨by omega, rfl⟩
theorem up_conv (x : BitVec 64) : IntKind.u64.wrap x.toInt = (x.toNat : Int) := by
  rw [IntKind.wrap_u64]
  have h := x.isLt
  rcases toInt_cases x with ⟨h1, h2⟩ | ⟨h1, h2⟩ <;> rw [h2] <;> omega
theorem down_conv (x : BitVec 64) : wrap64 (x.toNat : Int) = x.toInt := by
  have h := x.isLt
  unfold wrap64
  rcases toInt_cases x with ⟨h1, h2⟩ | ⟨h1, h2⟩ <;> rw [h2] <;> omega
theorem xor_msb (x : BitVec 64) : bits .xor .u64 (x.toNat : Int) 9223372036854775808 = ((x ^^^ msb).toNat : Int) := by
  have h := bits_xor_u64_nat x.toNat 9223372036854775808 (toNat_lt64 _) (by omega)
  rw [BitVec.toNat_xor]
  exact h
theorem not_val (x : BitVec 64) : bits .xor .u64 IntKind.u64.max (x.toNat : Int) = ((~~~ x).toNat : Int) := by
  have h := bits_xor_u64_nat 18446744073709551615 x.toNat (by omega) (toNat_lt64 _)
  rw [show IntKind.u64.max = ((18446744073709551615 : Nat) : Int) from rfl, h, show ~~~ x = 18446744073709551615#64 ^^^ x from by rw [BitVec.xor_comm]; exact (BitVec.xor_allOnes).symm, BitVec.toNat_xor]
  rfl
/-- Nearer to 0 stands ahead. -/
def sizeB (x : BitVec 64) : BitVec 64 := if 9223372036854775808 ≤ x.toNat then ~~~ (x <<< 1) else x <<< 1
def unsizeB (c : BitVec 64) : BitVec 64 := if c.toNat % 2 = 1 then ~~~ (c >>> 1) else c >>> 1
theorem shl1 (x : BitVec 64) : (x <<< 1).toNat = 2 * x.toNat % 18446744073709551616 := by
  rw [BitVec.toNat_shiftLeft, Nat.shiftLeft_eq]; omega
theorem shr1 (x : BitVec 64) : (x >>> 1).toNat = x.toNat / 2 := by
  rw [BitVec.toNat_ushiftRight, Nat.shiftRight_eq_div_pow]
theorem notN (x : BitVec 64) : (~~~ x).toNat = 18446744073709551615 - x.toNat := by rw [BitVec.toNat_not]
theorem unsize_size (x : BitVec 64) : unsizeB (sizeB x) = x := by
  apply BitVec.eq_of_toNat_eq
  have h := x.isLt
  unfold unsizeB sizeB
  split <;> rename_i h1 <;> split <;> rename_i h2 <;> simp only [notN, shl1, shr1] at * <;> omega
theorem size_unsize (x : BitVec 64) : sizeB (unsizeB x) = x := by
  apply BitVec.eq_of_toNat_eq
  have h := x.isLt
  unfold unsizeB sizeB
  split <;> rename_i h1 <;> split <;> rename_i h2 <;> simp only [notN, shl1, shr1] at * <;> omega

section
variable {x : BitVec 64} {n m : Int} {w : World}
set_option maxHeartbeats 1000000 in
theorem oup_is (hn : x.toInt = n) (hm : ((x ^^^ msb).toNat : Int) = m) : Calls Try.prog 68 #[.int .i64 n] w fun e w' => e = .returned (.int .u64 m) ∧ w' = w := by
  have c := up_conv x
  have d := xor_msb x
  rw [← c, hn, hm] at d
  clear c hn hm
  go_enter Try.func68, Try.ntmps68
  go_wp2_with fail
  go_ret
  exact ⟨rfl, rfl⟩
set_option maxHeartbeats 1000000 in
theorem odown_is (hn : (x.toNat : Int) = n) (hm : (x ^^^ msb).toInt = m) : Calls Try.prog 69 #[.int .u64 n] w fun e w' => e = .returned (.int .i64 m) ∧ w' = w := by
  have c := xor_msb x
  have d := down_conv (x ^^^ msb)
  rw [← c, hn, hm] at d
  clear c hn hm
  go_enter Try.func69, Try.ntmps69
  go_wp2_with fail
  go_ret
  exact ⟨congrArg (fun n => Ending.returned (.int .i64 n)) d, rfl⟩
end

theorem wrap_is (n : Int) : IntKind.i64.wrap n = wrap64 n := by rw [IntKind.wrap_i64]; unfold wrap64; omega
set_option maxRecDepth 100000 in
theorem bits_i64 (a b : Int) : bits .xor .i64 a b = (BitVec.ofInt 64 a ^^^ BitVec.ofInt 64 b).toInt := by
  have h : bits .xor .i64 a b = IntKind.i64.wrap ((BitVec.ofInt 64 a ^^^ BitVec.ofInt 64 b).toNat : Int) := rfl
  rw [h, wrap_is, down_conv]
set_option maxRecDepth 100000 in
theorem size_word (x : BitVec 64) : BitVec.ofInt 64 (wrap64 (x.toInt * 2)) ^^^ BitVec.ofInt 64 (x.toInt / 9223372036854775808) = sizeB x := by
  have h := x.isLt
  have e1 : BitVec.ofInt 64 (wrap64 (x.toInt * 2)) = x <<< 1 := by
    apply BitVec.eq_of_toNat_eq
    rw [shl1, BitVec.toNat_ofInt]
    unfold wrap64
    rcases toInt_cases x with ⟨h1, h2⟩ | ⟨h1, h2⟩ <;> rw [h2] <;> omega
  rw [e1]
  unfold sizeB
  rcases toInt_cases x with ⟨h1, h2⟩ | ⟨h1, h2⟩
  · rw [if_neg (by omega), h2, show ((x.toNat : Int) / 9223372036854775808) = 0 from by omega]
    exact BitVec.xor_zero
  · rw [if_pos h1, h2, show ((x.toNat : Int) - 18446744073709551616) / 9223372036854775808 = -1 from by omega]
    exact BitVec.xor_allOnes
theorem size_val (x : BitVec 64) : IntKind.u64.wrap (bits .xor .i64 (wrap64 (x.toInt * 2)) (x.toInt / 9223372036854775808)) = ((sizeB x).toNat : Int) := by
  rw [bits_i64, up_conv, size_word]
theorem and_one (x : BitVec 64) : bits .and .u64 (x.toNat : Int) 1 = ((x.toNat % 2 : Nat) : Int) := by
  have h := bits_and_u64_nat x.toNat 1 (toNat_lt64 _) (by omega)
  rw [Nat.and_one_is_mod] at h
  exact h
theorem unsize_word (x : BitVec 64) : BitVec.ofInt 64 ((x.toNat : Int) / 2) ^^^ BitVec.ofInt 64 (wrap64 (-wrap64 ((x.toNat % 2 : Nat) : Int))) = unsizeB x := by
  have h := x.isLt
  have e1 : BitVec.ofInt 64 ((x.toNat : Int) / 2) = x >>> 1 := by
    apply BitVec.eq_of_toNat_eq
    rw [shr1, BitVec.toNat_ofInt]
    omega
  rw [e1]
  unfold unsizeB
  by_cases h1 : x.toNat % 2 = 1
  · rw [if_pos h1, h1, show wrap64 (-wrap64 ((1 : Nat) : Int)) = -1 from by unfold wrap64; omega]
    exact BitVec.xor_allOnes
  · rw [if_neg h1, show x.toNat % 2 = 0 from by omega, show wrap64 (-wrap64 ((0 : Nat) : Int)) = 0 from by unfold wrap64; omega]
    exact BitVec.xor_zero
theorem unsize_val (x : BitVec 64) : bits .xor .i64 ((x.toNat : Int) / 2) (wrap64 (-wrap64 (bits .and .u64 (x.toNat : Int) 1))) = (unsizeB x).toInt := by
  rw [bits_i64, and_one, unsize_word]

section
variable (x : BitVec 64) (w : World)
theorem oup_any : Calls Try.prog 68 #[KW x] w fun e w' => e = .returned (U (x ^^^ msb)) ∧ Ext w w' := (oup_is rfl rfl).mono fun _ _ ⟨h, k⟩ => ⟨h, k ▸ Ext.refl w⟩
theorem odown_any : Calls Try.prog 69 #[U x] w fun e w' => e = .returned (KW (x ^^^ msb)) ∧ Ext w w' := (odown_is rfl rfl).mono fun _ _ ⟨h, k⟩ => ⟨h, k ▸ Ext.refl w⟩
set_option maxHeartbeats 1000000 in
theorem k1_any : Calls Try.prog 70 #[KW x] w fun e w' => e = .returned (U (~~~ (x ^^^ msb))) ∧ Ext w w' := by
  have hu := fun w => oup_any x w
  have d := not_val (x ^^^ msb)
  unfold KW U at *
  generalize hm : ((x ^^^ msb).toNat : Int) = m at *
  rw [← d]
  generalize x.toInt = n at *
  clear d hm
  go_enter Try.func70, Try.ntmps70
  go_wp2_with fail
  refine (hu _).mono ?_; rintro e w1 ⟨rfl, x1⟩
  go_wp2_with (fail)
  go_ret
  exact ⟨rfl, x1⟩
set_option maxHeartbeats 1000000 in
theorem k2_any : Calls Try.prog 71 #[U x] w fun e w' => e = .returned (KW (~~~ x ^^^ msb)) ∧ Ext w w' := by
  have hu := fun w => odown_any (~~~ x) w
  have d := not_val x
  unfold KW U at *
  rw [← d] at hu
  generalize (~~~ x ^^^ msb).toInt = m at *
  generalize (x.toNat : Int) = n at *
  clear d
  go_enter Try.func71, Try.ntmps71
  go_wp2_with fail
  refine (hu _).mono ?_; rintro e w1 ⟨rfl, x1⟩
  go_wp2_with (fail)
  go_ret
  exact ⟨rfl, x1⟩
set_option maxHeartbeats 1000000 in
theorem k3_any : Calls Try.prog 72 #[KW x] w fun e w' => e = .returned (U (sizeB x)) ∧ Ext w w' := by
  have d := size_val x
  unfold KW U
  rw [← d]
  generalize x.toInt = n
  clear d
  go_enter Try.func72, Try.ntmps72
  go_wp2_with fail
  go_ret
  exact ⟨rfl, Ext.refl w⟩
set_option maxHeartbeats 1000000 in
theorem k4_any : Calls Try.prog 73 #[U x] w fun e w' => e = .returned (KW (unsizeB x)) ∧ Ext w w' := by
  have d := unsize_val x
  have hx := toNat_lt64 x
  unfold KW U
  rw [← d]
  clear d
  generalize x.toNat = n at *
  go_enter Try.func73, Try.ntmps73
  go_wp2_with fail
  go_ret
  exact ⟨rfl, Ext.refl w⟩
end
end Go.Proofs.Ytphpaaaaifpidaa
