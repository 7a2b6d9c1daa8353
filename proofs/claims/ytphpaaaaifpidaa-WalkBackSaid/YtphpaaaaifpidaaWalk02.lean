/- The statements of joinerylaw02: alive. -/
import Derived.Test.YtphpaaaaifpidaaOrderD
namespace Go.Proofs.Ytphpaaaaifpidaa
open Go.RowKit

section
variable {o : Nat} {n m i j : Int} {w : World}
theorem code_is (x : BitVec 64) (h1 : 1 ≤ o) (h2 : o ≤ 7) (hi : (o : Int) = i) (hn : x.toInt = n) (hm : ((CO o x).toNat : Int) = m) : Calls Try.prog 13 #[.int .u8 i, .int .i64 n] w fun e w' => e = .returned (.tuple #[.int .u64 m, .int .i64 0]) ∧ Ext w w' := by
  subst hi hn hm; exact code_o o h1 h2 x w
theorem key_is (x : BitVec 64) (h1 : 1 ≤ o) (h2 : o ≤ 7) (hi : (o : Int) = i) (hn : (x.toNat : Int) = n) (hm : (KO o x).toInt = m) : Calls Try.prog 14 #[.int .u8 i, .int .u64 n] w fun e w' => e = .returned (.tuple #[.int .i64 m, .int .i64 0]) ∧ Ext w w' := by
  subst hi hn hm; exact key_o o h1 h2 x w
theorem compare_is (x y : BitVec 64) (h1 : 1 ≤ o) (h2 : o ≤ 7) (hi : (o : Int) = i) (hn : x.toInt = n) (hj : y.toInt = j) (hm : cmpI (CO o x).toNat (CO o y).toNat = m) : Calls Try.prog 15 #[.int .u8 i, .int .i64 n, .int .i64 j] w fun e w' => e = .returned (.int .i64 m) ∧ Ext w w' := by
  subst hi hn hj hm; exact compare_o o h1 h2 x y w
theorem orderOf_is {s : ByteArray} (hm : ((ofN s : Nat) : Int) = m) : Calls Try.prog 19 #[.string s] w fun e w' => e = .returned (.int .u8 m) ∧ Ext w w' := by
  subst hm; exact orderOf_any s w
end
/-- A key is a word. -/
theorem key_word {n : Int} (h : (Lit.int .i64 n).wf = true) : ∃ x : BitVec 64, x.toInt = n := by
  refine ⟨BitVec.ofInt 64 n, ?_⟩
  simp [Lit.wf, IntKind.min, IntKind.max, IntKind.bits, IntKind.signed] at h
  rcases toInt_cases (BitVec.ofInt 64 n) with ⟨h1, h2⟩ | ⟨h1, h2⟩ <;> rw [h2] <;> rw [BitVec.toNat_ofInt] at * <;> omega
theorem num_word {n : Int} (h : (Lit.int .u64 n).wf = true) : ∃ x : BitVec 64, (x.toNat : Int) = n := by
  refine ⟨BitVec.ofInt 64 n, ?_⟩
  simp [Lit.wf, IntKind.min, IntKind.max, IntKind.bits, IntKind.signed] at h
  rw [BitVec.toNat_ofInt]
  omega

set_option maxRecDepth 100000 in
set_option maxHeartbeats 4000000 in
theorem alive02 (w : World) : Calls Try.prog 12 #[] w fun e w' => e = .returned (.bool true) ∧ Ext w w' := by
  have z := Ext.refl w
  have nm := fun w => name3_any w
  unfold nmB at nm
  go_enter Try.func12, Try.ntmps12
  go_wp2_with fail
  refine (code_is (o := 1) 0#64 (m := 9223372036854775808) (by decide) (by decide) rfl (by decide) (by decide)).mono ?_; rintro e w1 ⟨rfl, x1⟩
  have z := Ext.trans z x1
  go_wp2_with fail
  refine (code_is (o := 3) 0xffffffffffffffff#64 (m := 1) (by decide) (by decide) rfl (by decide) (by decide)).mono ?_; rintro e w2 ⟨rfl, x2⟩
  have z := Ext.trans z x2
  go_wp2_with fail
  refine (code_is (o := 3) 1#64 (m := 2) (by decide) (by decide) rfl (by decide) (by decide)).mono ?_; rintro e w3 ⟨rfl, x3⟩
  have z := Ext.trans z x3
  go_wp2_with fail
  refine (key_is (o := 3) 3#64 (m := -2) (by decide) (by decide) rfl (by decide) (by decide)).mono ?_; rintro e w4 ⟨rfl, x4⟩
  have z := Ext.trans z x4
  go_wp2_with fail
  refine (code_no (k := 0) (by decide) 1 _).mono ?_; rintro e w5 ⟨rfl, x5⟩
  have z := Ext.trans z x5
  go_wp2_with fail
  refine (compare_is (o := 5) 2#64 1#64 (m := -1) (by decide) (by decide) rfl (by decide) (by decide) (by decide)).mono ?_; rintro e w6 ⟨rfl, x6⟩
  have z := Ext.trans z x6
  go_wp2_with fail
  refine (nm _).mono ?_; rintro e w7 ⟨rfl, x7⟩
  have z := Ext.trans z x7
  go_wp2_with fail
  refine (orderOf_is (m := 6) (by decide)).mono ?_; rintro e w8 ⟨rfl, x8⟩
  have z := Ext.trans z x8
  go_wp2_with fail
  go_ret
  exact ⟨rfl, z⟩

end Go.Proofs.Ytphpaaaaifpidaa
