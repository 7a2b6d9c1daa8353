/- A key's number; the document's Mix. -/
import Derived.Test.YtphpaaaaifpidaaMixB
import Derived.Laws.Bits64
namespace Go.Proofs.Ytphpaaaaifpidaa
open Go.RowKit

/-- A key's number. -/
def c3 : BitVec 64 := 0x9e3779b97f4a7c15#64
def ofB (key : Int) : BitVec 64 := mixB (BitVec.ofInt 64 key + c3)
theorem ofB_arg (key : Int) : IntKind.u64.wrap (IntKind.u64.wrap key + 11400714819323198485) = ((BitVec.ofInt 64 key + c3).toNat : Int) := by
  rw [BitVec.toNat_add, IntKind.wrap_u64, IntKind.wrap_u64, show c3.toNat = 11400714819323198485 from rfl]
  have : ((BitVec.ofInt 64 key).toNat : Int) = key % 18446744073709551616 := by
    rw [BitVec.toNat_ofInt]; omega
  omega
theorem xor_val (s : Nat) (x : BitVec 64) (d : Nat) (hd : 2 ^ s = d) : bits .xor .u64 (x.toNat : Int) ((x.toNat : Int) / (d : Int)) = ((xs s x).toNat : Int) := by
  rw [xorShift_u64 _ _ (toNat_lt64 x)]
  subst hd
  simp only [xs, BitVec.toNat_xor, BitVec.toNat_ushiftRight, Nat.shiftRight_eq_div_pow]
theorem mul_val (x c : BitVec 64) : IntKind.u64.wrap ((x.toNat : Int) * (c.toNat : Int)) = ((x * c).toNat : Int) := by
  rw [IntKind.wrap_u64, BitVec.toNat_mul]; simp
theorem quo_val (s : Nat) (x : BitVec 64) (d : Nat) (hd : 2 ^ s = d) : bits .xor .u64 (x.toNat : Int) (IntKind.u64.wrap ((x.toNat : Int).tdiv (d : Int))) = ((xs s x).toNat : Int) := by
  rw [← xor_val s x d hd, Int.tdiv_eq_ediv_of_nonneg (by omega), IntKind.wrap_u64]
  have h : (x.toNat : Int) / (d : Int) = ((x.toNat / d : Nat) : Int) := by simp
  have h2 : x.toNat / d < 18446744073709551616 := Nat.lt_of_le_of_lt (Nat.div_le_self _ _) x.isLt
  rw [h]
  generalize x.toNat / d = q at h2
  rw [Int.emod_eq_of_lt (by omega) (by omega)]
theorem u64_wf (x : BitVec 64) : (Lit.int .u64 (x.toNat : Int)).wf = true := by
  have := x.isLt
  simp [Lit.wf, IntKind.min, IntKind.max, IntKind.bits, IntKind.signed]
  omega

set_option maxHeartbeats 1000000 in
theorem refMix_any (x : BitVec 64) (w : World) : Calls Try.prog 59 #[U x] w fun e w' => e = .returned (U (mixB x)) ∧ Ext w w' := by
  have e1 : bits .xor .u64 (x.toNat : Int) ((x.toNat : Int) / 1073741824) = ((xs 30 x).toNat : Int) := xor_val 30 x _ (by decide)
  have e2 : ∀ y : BitVec 64, IntKind.u64.wrap ((y.toNat : Int) * 13787848793156543929) = ((y * c0).toNat : Int) := fun y => mul_val y c0
  have e3 : ∀ y : BitVec 64, bits .xor .u64 (y.toNat : Int) (IntKind.u64.wrap ((y.toNat : Int).tdiv 134217728)) = ((xs 27 y).toNat : Int) := fun y => quo_val 27 y _ (by decide)
  have e4 : ∀ y : BitVec 64, IntKind.u64.wrap ((y.toNat : Int) * 10723151780598845931) = ((y * c1).toNat : Int) := fun y => mul_val y c1
  have e5 : ∀ y : BitVec 64, bits .xor .u64 (y.toNat : Int) (IntKind.u64.wrap ((y.toNat : Int).tdiv 2147483648)) = ((xs 31 y).toNat : Int) := fun y => quo_val 31 y _ (by decide)
  have hx : ∀ y : BitVec 64, U y = .int .u64 (y.toNat : Int) := fun _ => rfl
  rw [hx, hx, mixB, BitVec.mul_one, ← e5, ← e4, ← e3, ← e2, ← e1]
  clear e1 e2 e3 e4 e5 hx
  go_enter Try.func59, Try.ntmps59
  go_wp2_with fail
  go_ret
  exact ⟨rfl, Ext.refl _⟩

end Go.Proofs.Ytphpaaaaifpidaa
