/- mix.Unmix: the number that undoes an odd one. -/
import Derived.Test.YtphpaaaaifpidaaMixD
namespace Go.Proofs.Ytphpaaaaifpidaa
open Go.RowKit

def nw (b : BitVec 64) : Nat → BitVec 64
  | 0 => b
  | k + 1 => nw b k * (2#64 - b * nw b k)
theorem sub_val (x y : BitVec 64) : IntKind.u64.wrap ((x.toNat : Int) - (y.toNat : Int)) = ((x - y).toNat : Int) := by
  rw [IntKind.wrap_u64, BitVec.toNat_sub]
  omega
theorem nw_val (b y : BitVec 64) : IntKind.u64.wrap ((y.toNat : Int) * IntKind.u64.wrap (2 - IntKind.u64.wrap ((b.toNat : Int) * (y.toNat : Int)))) = ((y * (2#64 - b * y)).toNat : Int) := by
  rw [mul_val, show (2 : Int) = ((2#64).toNat : Int) from rfl, sub_val, mul_val]
theorem nw_c0 : nw c0 6 = i0 := by decide
theorem nw_c1 : nw c1 6 = i1 := by decide
theorem nw_1 : nw 1#64 6 = 1#64 := by decide

set_option maxHeartbeats 1000000 in
theorem undo_any (b : BitVec 64) (w : World) : Calls Try.prog 91 #[U b] w fun e w' => e = .returned (U (nw b 6)) ∧ Ext w w' := by
  rw [show U b = .int .u64 (b.toNat : Int) from rfl]
  go_enter Try.func91, Try.ntmps91
  go_wp2_with fail
  go_loop [3, 5] (fun y i => ∃ k : Nat, k ≤ 6 ∧ i = .int .i64 k ∧ y = .int .u64 ((nw b k).toNat : Int)) (fun _ i => 6 - (intOf i).toNat)
  case atStart => exact ⟨0, Nat.zero_le _, rfl, rfl⟩
  case round =>
    obtain ⟨k, hk, rfl, rfl⟩ := hrel
    by_cases hlt : k < 6
    · have hv := nw_val b (nw b k)
      generalize hy : nw b k = y at *
      have HV := Lib.hid hv
      have HY := Lib.hid hy
      clear hv hy
      go_wp2_with fail
      have hv := HV.out
      have hy := HY.out
      rw [hv]
      exact ⟨⟨k + 1, by omega, by simp, by simp [nw, hy]⟩, by simp [intOf]; omega⟩
    · obtain rfl : k = 6 := by omega
      go_wp2_with fail
      go_ret
      exact ⟨rfl, Ext.refl _⟩
end Go.Proofs.Ytphpaaaaifpidaa
