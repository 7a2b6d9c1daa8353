/- The statement OrderMeans (printed by mkmeans.py). -/
import Derived.Test.YtlehcagpddgamaaMeans
namespace Go.Proofs.Ytlehcagpddgamaa
open Go.RowKit
set_option linter.unusedVariables false

set_option maxRecDepth 100000 in
set_option maxHeartbeats 4000000 in
theorem om_0100 {b : Int} {w : World} (lb : -9223372036854775808 ≤ b) (gb : b ≤ 9223372036854775807) (d1 : decide (0 < b) = true) (pb : (b.tmod 2 == 0) = true) (A : ∀ W : World, Calls Try.prog 97 #[.int .u8 1, .int .i64 0, .int .i64 b] W fun e w' => e = .returned (.int .i64 (-1)) ∧ Ext W w') (B : ∀ W : World, Calls Try.prog 97 #[.int .u8 2, .int .i64 0, .int .i64 b] W fun e w' => e = .returned (.int .i64 1) ∧ Ext W w') (D : ∀ W : World, Calls Try.prog 97 #[.int .u8 3, .int .i64 0, .int .i64 b] W fun e w' => e = .returned (.int .i64 (-1)) ∧ Ext W w') (E : ∀ W : World, Calls Try.prog 97 #[.int .u8 3, .int .i64 0, .int .i64 (-b)] W fun e w' => e = .returned (.int .i64 (-1)) ∧ Ext W w') (F : ∀ W : World, Calls Try.prog 97 #[.int .u8 5, .int .i64 0, .int .i64 b] W fun e w' => e = .returned (.int .i64 (-1)) ∧ Ext W w') :
    Calls Try.prog 24 #[.int .i64 0, .int .i64 b] w fun e w' => e = .returned (.bool true) ∧ Ext w w' := by
  have z := Ext.refl w
  have qb : b.tmod 2 = 0 := by simpa using pb
  have rb : b % 2 = 0 := by rw [← tmod_emod]; exact qb
  have d5 : (0 < b) := of_decide_eq_true d1
  go_enter Try.func24, Try.ntmps24
  go_wp2_with fail
  refine (A _).mono ?_; rintro e w1 ⟨rfl, x1⟩
  have z := Ext.trans z x1
  go_wp2_with fail
  refine (B _).mono ?_; rintro e w2 ⟨rfl, x2⟩
  have z := Ext.trans z x2
  go_wp2_with fail
  refine (D _).mono ?_; rintro e w3 ⟨rfl, x3⟩
  have z := Ext.trans z x3
  go_wp2_with fail
  refine (E _).mono ?_; rintro e w4 ⟨rfl, x4⟩
  have z := Ext.trans z x4
  go_wp2_with fail
  refine (F _).mono ?_; rintro e w5 ⟨rfl, x5⟩
  have z := Ext.trans z x5
  go_wp2_with fail
  refine (alive02 _).mono ?_; rintro e w9 ⟨rfl, x9⟩
  have z := Ext.trans z x9
  go_wp2_with fail
  go_ret
  exact ⟨rfl, z⟩
set_option maxRecDepth 100000 in
set_option maxHeartbeats 4000000 in
theorem om_0101 {b : Int} {w : World} (lb : -9223372036854775808 ≤ b) (gb : b ≤ 9223372036854775807) (d1 : decide (0 < b) = true) (pb : (b.tmod 2 == 0) = false) (A : ∀ W : World, Calls Try.prog 97 #[.int .u8 1, .int .i64 0, .int .i64 b] W fun e w' => e = .returned (.int .i64 (-1)) ∧ Ext W w') (B : ∀ W : World, Calls Try.prog 97 #[.int .u8 2, .int .i64 0, .int .i64 b] W fun e w' => e = .returned (.int .i64 1) ∧ Ext W w') (D : ∀ W : World, Calls Try.prog 97 #[.int .u8 3, .int .i64 0, .int .i64 b] W fun e w' => e = .returned (.int .i64 (-1)) ∧ Ext W w') (E : ∀ W : World, Calls Try.prog 97 #[.int .u8 3, .int .i64 0, .int .i64 (-b)] W fun e w' => e = .returned (.int .i64 (-1)) ∧ Ext W w') (F : ∀ W : World, Calls Try.prog 97 #[.int .u8 5, .int .i64 0, .int .i64 b] W fun e w' => e = .returned (.int .i64 (-1)) ∧ Ext W w') :
    Calls Try.prog 24 #[.int .i64 0, .int .i64 b] w fun e w' => e = .returned (.bool true) ∧ Ext w w' := by
  have z := Ext.refl w
  have qb : ¬ b.tmod 2 = 0 := by simpa using pb
  have rb : ¬ b % 2 = 0 := by rw [← tmod_emod]; exact qb
  have d5 : (0 < b) := of_decide_eq_true d1
  go_enter Try.func24, Try.ntmps24
  go_wp2_with fail
  refine (A _).mono ?_; rintro e w1 ⟨rfl, x1⟩
  have z := Ext.trans z x1
  go_wp2_with fail
  refine (B _).mono ?_; rintro e w2 ⟨rfl, x2⟩
  have z := Ext.trans z x2
  go_wp2_with fail
  refine (D _).mono ?_; rintro e w3 ⟨rfl, x3⟩
  have z := Ext.trans z x3
  go_wp2_with fail
  refine (E _).mono ?_; rintro e w4 ⟨rfl, x4⟩
  have z := Ext.trans z x4
  go_wp2_with fail
  refine (F _).mono ?_; rintro e w5 ⟨rfl, x5⟩
  have z := Ext.trans z x5
  go_wp2_with fail
  refine (alive02 _).mono ?_; rintro e w9 ⟨rfl, x9⟩
  have z := Ext.trans z x9
  go_wp2_with fail
  go_ret
  exact ⟨rfl, z⟩
set_option maxRecDepth 100000 in
set_option maxHeartbeats 4000000 in
theorem om_0200 {a b : Int} {w : World} (la : -9223372036854775808 ≤ a) (ga : a ≤ 9223372036854775807) (lb : -9223372036854775808 ≤ b) (gb : b ≤ 9223372036854775807) (d1 : decide (a < b) = true) (d2 : (a == 0) = false) (d3 : decide (0 ≤ a) = true) (pa : (a.tmod 2 == 0) = true) (pb : (b.tmod 2 == 0) = true) (A : ∀ W : World, Calls Try.prog 97 #[.int .u8 1, .int .i64 a, .int .i64 b] W fun e w' => e = .returned (.int .i64 (-1)) ∧ Ext W w') (B : ∀ W : World, Calls Try.prog 97 #[.int .u8 2, .int .i64 a, .int .i64 b] W fun e w' => e = .returned (.int .i64 1) ∧ Ext W w') (C : ∀ W : World, Calls Try.prog 97 #[.int .u8 3, .int .i64 0, .int .i64 a] W fun e w' => e = .returned (.int .i64 (-1)) ∧ Ext W w') (D : ∀ W : World, Calls Try.prog 97 #[.int .u8 3, .int .i64 a, .int .i64 b] W fun e w' => e = .returned (.int .i64 (-1)) ∧ Ext W w') (E : ∀ W : World, Calls Try.prog 97 #[.int .u8 3, .int .i64 (-a), .int .i64 (-b)] W fun e w' => e = .returned (.int .i64 (-1)) ∧ Ext W w') (F : ∀ W : World, Calls Try.prog 97 #[.int .u8 5, .int .i64 a, .int .i64 b] W fun e w' => e = .returned (.int .i64 (-1)) ∧ Ext W w') :
    Calls Try.prog 24 #[.int .i64 a, .int .i64 b] w fun e w' => e = .returned (.bool true) ∧ Ext w w' := by
  have z := Ext.refl w
  have d4 : (0 ≤ a) := by simpa using d3
  have d6 : ¬ a = 0 := by simpa using d2
  have qa : a.tmod 2 = 0 := by simpa using pa
  have qb : b.tmod 2 = 0 := by simpa using pb
  have ra : a % 2 = 0 := by rw [← tmod_emod]; exact qa
  have rb : b % 2 = 0 := by rw [← tmod_emod]; exact qb
  have d5 : (a < b) := of_decide_eq_true d1
  go_enter Try.func24, Try.ntmps24
  go_wp2_with fail
  refine (A _).mono ?_; rintro e w1 ⟨rfl, x1⟩
  have z := Ext.trans z x1
  go_wp2_with fail
  refine (B _).mono ?_; rintro e w2 ⟨rfl, x2⟩
  have z := Ext.trans z x2
  go_wp2_with fail
  refine (C _).mono ?_; rintro e w3 ⟨rfl, x3⟩
  have z := Ext.trans z x3
  go_wp2_with fail
  refine (D _).mono ?_; rintro e w4 ⟨rfl, x4⟩
  have z := Ext.trans z x4
  go_wp2_with fail
  refine (E _).mono ?_; rintro e w5 ⟨rfl, x5⟩
  have z := Ext.trans z x5
  go_wp2_with fail
  refine (F _).mono ?_; rintro e w6 ⟨rfl, x6⟩
  have z := Ext.trans z x6
  go_wp2_with fail
  refine (alive02 _).mono ?_; rintro e w9 ⟨rfl, x9⟩
  have z := Ext.trans z x9
  go_wp2_with fail
  go_ret
  exact ⟨rfl, z⟩
set_option maxRecDepth 100000 in
set_option maxHeartbeats 4000000 in
theorem om_0201 {a b : Int} {w : World} (la : -9223372036854775808 ≤ a) (ga : a ≤ 9223372036854775807) (lb : -9223372036854775808 ≤ b) (gb : b ≤ 9223372036854775807) (d1 : decide (a < b) = true) (d2 : (a == 0) = false) (d3 : decide (0 ≤ a) = true) (pa : (a.tmod 2 == 0) = true) (pb : (b.tmod 2 == 0) = false) (A : ∀ W : World, Calls Try.prog 97 #[.int .u8 1, .int .i64 a, .int .i64 b] W fun e w' => e = .returned (.int .i64 (-1)) ∧ Ext W w') (B : ∀ W : World, Calls Try.prog 97 #[.int .u8 2, .int .i64 a, .int .i64 b] W fun e w' => e = .returned (.int .i64 1) ∧ Ext W w') (C : ∀ W : World, Calls Try.prog 97 #[.int .u8 3, .int .i64 0, .int .i64 a] W fun e w' => e = .returned (.int .i64 (-1)) ∧ Ext W w') (D : ∀ W : World, Calls Try.prog 97 #[.int .u8 3, .int .i64 a, .int .i64 b] W fun e w' => e = .returned (.int .i64 (-1)) ∧ Ext W w') (E : ∀ W : World, Calls Try.prog 97 #[.int .u8 3, .int .i64 (-a), .int .i64 (-b)] W fun e w' => e = .returned (.int .i64 (-1)) ∧ Ext W w') (F : ∀ W : World, Calls Try.prog 97 #[.int .u8 5, .int .i64 a, .int .i64 b] W fun e w' => e = .returned (.int .i64 (-1)) ∧ Ext W w') :
    Calls Try.prog 24 #[.int .i64 a, .int .i64 b] w fun e w' => e = .returned (.bool true) ∧ Ext w w' := by
  have z := Ext.refl w
  have d4 : (0 ≤ a) := by simpa using d3
  have d6 : ¬ a = 0 := by simpa using d2
  have qa : a.tmod 2 = 0 := by simpa using pa
  have qb : ¬ b.tmod 2 = 0 := by simpa using pb
  have ra : a % 2 = 0 := by rw [← tmod_emod]; exact qa
  have rb : ¬ b % 2 = 0 := by rw [← tmod_emod]; exact qb
  have d5 : (a < b) := of_decide_eq_true d1
  go_enter Try.func24, Try.ntmps24
  go_wp2_with fail
  refine (A _).mono ?_; rintro e w1 ⟨rfl, x1⟩
  have z := Ext.trans z x1
  go_wp2_with fail
  refine (B _).mono ?_; rintro e w2 ⟨rfl, x2⟩
  have z := Ext.trans z x2
  go_wp2_with fail
  refine (C _).mono ?_; rintro e w3 ⟨rfl, x3⟩
  have z := Ext.trans z x3
  go_wp2_with fail
  refine (D _).mono ?_; rintro e w4 ⟨rfl, x4⟩
  have z := Ext.trans z x4
  go_wp2_with fail
  refine (E _).mono ?_; rintro e w5 ⟨rfl, x5⟩
  have z := Ext.trans z x5
  go_wp2_with fail
  refine (F _).mono ?_; rintro e w6 ⟨rfl, x6⟩
  have z := Ext.trans z x6
  go_wp2_with fail
  refine (alive02 _).mono ?_; rintro e w9 ⟨rfl, x9⟩
  have z := Ext.trans z x9
  go_wp2_with fail
  go_ret
  exact ⟨rfl, z⟩
set_option maxRecDepth 100000 in
set_option maxHeartbeats 4000000 in
theorem om_0210 {a b : Int} {w : World} (la : -9223372036854775808 ≤ a) (ga : a ≤ 9223372036854775807) (lb : -9223372036854775808 ≤ b) (gb : b ≤ 9223372036854775807) (d1 : decide (a < b) = true) (d2 : (a == 0) = false) (d3 : decide (0 ≤ a) = true) (pa : (a.tmod 2 == 0) = false) (pb : (b.tmod 2 == 0) = true) (A : ∀ W : World, Calls Try.prog 97 #[.int .u8 1, .int .i64 a, .int .i64 b] W fun e w' => e = .returned (.int .i64 (-1)) ∧ Ext W w') (B : ∀ W : World, Calls Try.prog 97 #[.int .u8 2, .int .i64 a, .int .i64 b] W fun e w' => e = .returned (.int .i64 1) ∧ Ext W w') (C : ∀ W : World, Calls Try.prog 97 #[.int .u8 3, .int .i64 0, .int .i64 a] W fun e w' => e = .returned (.int .i64 (-1)) ∧ Ext W w') (D : ∀ W : World, Calls Try.prog 97 #[.int .u8 3, .int .i64 a, .int .i64 b] W fun e w' => e = .returned (.int .i64 (-1)) ∧ Ext W w') (E : ∀ W : World, Calls Try.prog 97 #[.int .u8 3, .int .i64 (-a), .int .i64 (-b)] W fun e w' => e = .returned (.int .i64 (-1)) ∧ Ext W w') (F : ∀ W : World, Calls Try.prog 97 #[.int .u8 5, .int .i64 a, .int .i64 b] W fun e w' => e = .returned (.int .i64 1) ∧ Ext W w') :
    Calls Try.prog 24 #[.int .i64 a, .int .i64 b] w fun e w' => e = .returned (.bool true) ∧ Ext w w' := by
  have z := Ext.refl w
  have d4 : (0 ≤ a) := by simpa using d3
  have d6 : ¬ a = 0 := by simpa using d2
  have qa : ¬ a.tmod 2 = 0 := by simpa using pa
  have qb : b.tmod 2 = 0 := by simpa using pb
  have ra : ¬ a % 2 = 0 := by rw [← tmod_emod]; exact qa
  have rb : b % 2 = 0 := by rw [← tmod_emod]; exact qb
  have d5 : (a < b) := of_decide_eq_true d1
  go_enter Try.func24, Try.ntmps24
  go_wp2_with fail
  refine (A _).mono ?_; rintro e w1 ⟨rfl, x1⟩
  have z := Ext.trans z x1
  go_wp2_with fail
  refine (B _).mono ?_; rintro e w2 ⟨rfl, x2⟩
  have z := Ext.trans z x2
  go_wp2_with fail
  refine (C _).mono ?_; rintro e w3 ⟨rfl, x3⟩
  have z := Ext.trans z x3
  go_wp2_with fail
  refine (D _).mono ?_; rintro e w4 ⟨rfl, x4⟩
  have z := Ext.trans z x4
  go_wp2_with fail
  refine (E _).mono ?_; rintro e w5 ⟨rfl, x5⟩
  have z := Ext.trans z x5
  go_wp2_with fail
  refine (F _).mono ?_; rintro e w6 ⟨rfl, x6⟩
  have z := Ext.trans z x6
  go_wp2_with fail
  refine (alive02 _).mono ?_; rintro e w9 ⟨rfl, x9⟩
  have z := Ext.trans z x9
  go_wp2_with fail
  go_ret
  exact ⟨rfl, z⟩
set_option maxRecDepth 100000 in
set_option maxHeartbeats 4000000 in
theorem om_0211 {a b : Int} {w : World} (la : -9223372036854775808 ≤ a) (ga : a ≤ 9223372036854775807) (lb : -9223372036854775808 ≤ b) (gb : b ≤ 9223372036854775807) (d1 : decide (a < b) = true) (d2 : (a == 0) = false) (d3 : decide (0 ≤ a) = true) (pa : (a.tmod 2 == 0) = false) (pb : (b.tmod 2 == 0) = false) (A : ∀ W : World, Calls Try.prog 97 #[.int .u8 1, .int .i64 a, .int .i64 b] W fun e w' => e = .returned (.int .i64 (-1)) ∧ Ext W w') (B : ∀ W : World, Calls Try.prog 97 #[.int .u8 2, .int .i64 a, .int .i64 b] W fun e w' => e = .returned (.int .i64 1) ∧ Ext W w') (C : ∀ W : World, Calls Try.prog 97 #[.int .u8 3, .int .i64 0, .int .i64 a] W fun e w' => e = .returned (.int .i64 (-1)) ∧ Ext W w') (D : ∀ W : World, Calls Try.prog 97 #[.int .u8 3, .int .i64 a, .int .i64 b] W fun e w' => e = .returned (.int .i64 (-1)) ∧ Ext W w') (E : ∀ W : World, Calls Try.prog 97 #[.int .u8 3, .int .i64 (-a), .int .i64 (-b)] W fun e w' => e = .returned (.int .i64 (-1)) ∧ Ext W w') (F : ∀ W : World, Calls Try.prog 97 #[.int .u8 5, .int .i64 a, .int .i64 b] W fun e w' => e = .returned (.int .i64 (-1)) ∧ Ext W w') :
    Calls Try.prog 24 #[.int .i64 a, .int .i64 b] w fun e w' => e = .returned (.bool true) ∧ Ext w w' := by
  have z := Ext.refl w
  have d4 : (0 ≤ a) := by simpa using d3
  have d6 : ¬ a = 0 := by simpa using d2
  have qa : ¬ a.tmod 2 = 0 := by simpa using pa
  have qb : ¬ b.tmod 2 = 0 := by simpa using pb
  have ra : ¬ a % 2 = 0 := by rw [← tmod_emod]; exact qa
  have rb : ¬ b % 2 = 0 := by rw [← tmod_emod]; exact qb
  have d5 : (a < b) := of_decide_eq_true d1
  go_enter Try.func24, Try.ntmps24
  go_wp2_with fail
  refine (A _).mono ?_; rintro e w1 ⟨rfl, x1⟩
  have z := Ext.trans z x1
  go_wp2_with fail
  refine (B _).mono ?_; rintro e w2 ⟨rfl, x2⟩
  have z := Ext.trans z x2
  go_wp2_with fail
  refine (C _).mono ?_; rintro e w3 ⟨rfl, x3⟩
  have z := Ext.trans z x3
  go_wp2_with fail
  refine (D _).mono ?_; rintro e w4 ⟨rfl, x4⟩
  have z := Ext.trans z x4
  go_wp2_with fail
  refine (E _).mono ?_; rintro e w5 ⟨rfl, x5⟩
  have z := Ext.trans z x5
  go_wp2_with fail
  refine (F _).mono ?_; rintro e w6 ⟨rfl, x6⟩
  have z := Ext.trans z x6
  go_wp2_with fail
  refine (alive02 _).mono ?_; rintro e w9 ⟨rfl, x9⟩
  have z := Ext.trans z x9
  go_wp2_with fail
  go_ret
  exact ⟨rfl, z⟩
set_option maxRecDepth 100000 in
set_option maxHeartbeats 4000000 in
theorem om_0000 {a b : Int} {w : World} (la : -9223372036854775808 ≤ a) (ga : a ≤ 9223372036854775807) (lb : -9223372036854775808 ≤ b) (gb : b ≤ 9223372036854775807) (d1 : decide (a < b) = true) (d2 : (a == 0) = false) (d3 : decide (0 ≤ a) = false) (pa : (a.tmod 2 == 0) = true) (pb : (b.tmod 2 == 0) = true) (A : ∀ W : World, Calls Try.prog 97 #[.int .u8 1, .int .i64 a, .int .i64 b] W fun e w' => e = .returned (.int .i64 (-1)) ∧ Ext W w') (B : ∀ W : World, Calls Try.prog 97 #[.int .u8 2, .int .i64 a, .int .i64 b] W fun e w' => e = .returned (.int .i64 1) ∧ Ext W w') (C : ∀ W : World, Calls Try.prog 97 #[.int .u8 3, .int .i64 0, .int .i64 a] W fun e w' => e = .returned (.int .i64 (-1)) ∧ Ext W w') (F : ∀ W : World, Calls Try.prog 97 #[.int .u8 5, .int .i64 a, .int .i64 b] W fun e w' => e = .returned (.int .i64 (-1)) ∧ Ext W w') :
    Calls Try.prog 24 #[.int .i64 a, .int .i64 b] w fun e w' => e = .returned (.bool true) ∧ Ext w w' := by
  have z := Ext.refl w
  have d4 : ¬ (0 ≤ a) := by simpa using d3
  have d6 : ¬ a = 0 := by simpa using d2
  have qa : a.tmod 2 = 0 := by simpa using pa
  have qb : b.tmod 2 = 0 := by simpa using pb
  have ra : a % 2 = 0 := by rw [← tmod_emod]; exact qa
  have rb : b % 2 = 0 := by rw [← tmod_emod]; exact qb
  have d5 : (a < b) := of_decide_eq_true d1
  go_enter Try.func24, Try.ntmps24
  go_wp2_with fail
  refine (A _).mono ?_; rintro e w1 ⟨rfl, x1⟩
  have z := Ext.trans z x1
  go_wp2_with fail
  refine (B _).mono ?_; rintro e w2 ⟨rfl, x2⟩
  have z := Ext.trans z x2
  go_wp2_with fail
  refine (C _).mono ?_; rintro e w3 ⟨rfl, x3⟩
  have z := Ext.trans z x3
  go_wp2_with fail
  refine (F _).mono ?_; rintro e w4 ⟨rfl, x4⟩
  have z := Ext.trans z x4
  go_wp2_with fail
  refine (alive02 _).mono ?_; rintro e w9 ⟨rfl, x9⟩
  have z := Ext.trans z x9
  go_wp2_with fail
  go_ret
  exact ⟨rfl, z⟩
set_option maxRecDepth 100000 in
set_option maxHeartbeats 4000000 in
theorem om_0001 {a b : Int} {w : World} (la : -9223372036854775808 ≤ a) (ga : a ≤ 9223372036854775807) (lb : -9223372036854775808 ≤ b) (gb : b ≤ 9223372036854775807) (d1 : decide (a < b) = true) (d2 : (a == 0) = false) (d3 : decide (0 ≤ a) = false) (pa : (a.tmod 2 == 0) = true) (pb : (b.tmod 2 == 0) = false) (A : ∀ W : World, Calls Try.prog 97 #[.int .u8 1, .int .i64 a, .int .i64 b] W fun e w' => e = .returned (.int .i64 (-1)) ∧ Ext W w') (B : ∀ W : World, Calls Try.prog 97 #[.int .u8 2, .int .i64 a, .int .i64 b] W fun e w' => e = .returned (.int .i64 1) ∧ Ext W w') (C : ∀ W : World, Calls Try.prog 97 #[.int .u8 3, .int .i64 0, .int .i64 a] W fun e w' => e = .returned (.int .i64 (-1)) ∧ Ext W w') (F : ∀ W : World, Calls Try.prog 97 #[.int .u8 5, .int .i64 a, .int .i64 b] W fun e w' => e = .returned (.int .i64 (-1)) ∧ Ext W w') :
    Calls Try.prog 24 #[.int .i64 a, .int .i64 b] w fun e w' => e = .returned (.bool true) ∧ Ext w w' := by
  have z := Ext.refl w
  have d4 : ¬ (0 ≤ a) := by simpa using d3
  have d6 : ¬ a = 0 := by simpa using d2
  have qa : a.tmod 2 = 0 := by simpa using pa
  have qb : ¬ b.tmod 2 = 0 := by simpa using pb
  have ra : a % 2 = 0 := by rw [← tmod_emod]; exact qa
  have rb : ¬ b % 2 = 0 := by rw [← tmod_emod]; exact qb
  have d5 : (a < b) := of_decide_eq_true d1
  go_enter Try.func24, Try.ntmps24
  go_wp2_with fail
  refine (A _).mono ?_; rintro e w1 ⟨rfl, x1⟩
  have z := Ext.trans z x1
  go_wp2_with fail
  refine (B _).mono ?_; rintro e w2 ⟨rfl, x2⟩
  have z := Ext.trans z x2
  go_wp2_with fail
  refine (C _).mono ?_; rintro e w3 ⟨rfl, x3⟩
  have z := Ext.trans z x3
  go_wp2_with fail
  refine (F _).mono ?_; rintro e w4 ⟨rfl, x4⟩
  have z := Ext.trans z x4
  go_wp2_with fail
  refine (alive02 _).mono ?_; rintro e w9 ⟨rfl, x9⟩
  have z := Ext.trans z x9
  go_wp2_with fail
  go_ret
  exact ⟨rfl, z⟩
set_option maxRecDepth 100000 in
set_option maxHeartbeats 4000000 in
theorem om_0010 {a b : Int} {w : World} (la : -9223372036854775808 ≤ a) (ga : a ≤ 9223372036854775807) (lb : -9223372036854775808 ≤ b) (gb : b ≤ 9223372036854775807) (d1 : decide (a < b) = true) (d2 : (a == 0) = false) (d3 : decide (0 ≤ a) = false) (pa : (a.tmod 2 == 0) = false) (pb : (b.tmod 2 == 0) = true) (A : ∀ W : World, Calls Try.prog 97 #[.int .u8 1, .int .i64 a, .int .i64 b] W fun e w' => e = .returned (.int .i64 (-1)) ∧ Ext W w') (B : ∀ W : World, Calls Try.prog 97 #[.int .u8 2, .int .i64 a, .int .i64 b] W fun e w' => e = .returned (.int .i64 1) ∧ Ext W w') (C : ∀ W : World, Calls Try.prog 97 #[.int .u8 3, .int .i64 0, .int .i64 a] W fun e w' => e = .returned (.int .i64 (-1)) ∧ Ext W w') (F : ∀ W : World, Calls Try.prog 97 #[.int .u8 5, .int .i64 a, .int .i64 b] W fun e w' => e = .returned (.int .i64 1) ∧ Ext W w') :
    Calls Try.prog 24 #[.int .i64 a, .int .i64 b] w fun e w' => e = .returned (.bool true) ∧ Ext w w' := by
  have z := Ext.refl w
  have d4 : ¬ (0 ≤ a) := by simpa using d3
  have d6 : ¬ a = 0 := by simpa using d2
  have qa : ¬ a.tmod 2 = 0 := by simpa using pa
  have qb : b.tmod 2 = 0 := by simpa using pb
  have ra : ¬ a % 2 = 0 := by rw [← tmod_emod]; exact qa
  have rb : b % 2 = 0 := by rw [← tmod_emod]; exact qb
  have d5 : (a < b) := of_decide_eq_true d1
  go_enter Try.func24, Try.ntmps24
  go_wp2_with fail
  refine (A _).mono ?_; rintro e w1 ⟨rfl, x1⟩
  have z := Ext.trans z x1
  go_wp2_with fail
  refine (B _).mono ?_; rintro e w2 ⟨rfl, x2⟩
  have z := Ext.trans z x2
  go_wp2_with fail
  refine (C _).mono ?_; rintro e w3 ⟨rfl, x3⟩
  have z := Ext.trans z x3
  go_wp2_with fail
  refine (F _).mono ?_; rintro e w4 ⟨rfl, x4⟩
  have z := Ext.trans z x4
  go_wp2_with fail
  refine (alive02 _).mono ?_; rintro e w9 ⟨rfl, x9⟩
  have z := Ext.trans z x9
  go_wp2_with fail
  go_ret
  exact ⟨rfl, z⟩
set_option maxRecDepth 100000 in
set_option maxHeartbeats 4000000 in
theorem om_0011 {a b : Int} {w : World} (la : -9223372036854775808 ≤ a) (ga : a ≤ 9223372036854775807) (lb : -9223372036854775808 ≤ b) (gb : b ≤ 9223372036854775807) (d1 : decide (a < b) = true) (d2 : (a == 0) = false) (d3 : decide (0 ≤ a) = false) (pa : (a.tmod 2 == 0) = false) (pb : (b.tmod 2 == 0) = false) (A : ∀ W : World, Calls Try.prog 97 #[.int .u8 1, .int .i64 a, .int .i64 b] W fun e w' => e = .returned (.int .i64 (-1)) ∧ Ext W w') (B : ∀ W : World, Calls Try.prog 97 #[.int .u8 2, .int .i64 a, .int .i64 b] W fun e w' => e = .returned (.int .i64 1) ∧ Ext W w') (C : ∀ W : World, Calls Try.prog 97 #[.int .u8 3, .int .i64 0, .int .i64 a] W fun e w' => e = .returned (.int .i64 (-1)) ∧ Ext W w') (F : ∀ W : World, Calls Try.prog 97 #[.int .u8 5, .int .i64 a, .int .i64 b] W fun e w' => e = .returned (.int .i64 (-1)) ∧ Ext W w') :
    Calls Try.prog 24 #[.int .i64 a, .int .i64 b] w fun e w' => e = .returned (.bool true) ∧ Ext w w' := by
  have z := Ext.refl w
  have d4 : ¬ (0 ≤ a) := by simpa using d3
  have d6 : ¬ a = 0 := by simpa using d2
  have qa : ¬ a.tmod 2 = 0 := by simpa using pa
  have qb : ¬ b.tmod 2 = 0 := by simpa using pb
  have ra : ¬ a % 2 = 0 := by rw [← tmod_emod]; exact qa
  have rb : ¬ b % 2 = 0 := by rw [← tmod_emod]; exact qb
  have d5 : (a < b) := of_decide_eq_true d1
  go_enter Try.func24, Try.ntmps24
  go_wp2_with fail
  refine (A _).mono ?_; rintro e w1 ⟨rfl, x1⟩
  have z := Ext.trans z x1
  go_wp2_with fail
  refine (B _).mono ?_; rintro e w2 ⟨rfl, x2⟩
  have z := Ext.trans z x2
  go_wp2_with fail
  refine (C _).mono ?_; rintro e w3 ⟨rfl, x3⟩
  have z := Ext.trans z x3
  go_wp2_with fail
  refine (F _).mono ?_; rintro e w4 ⟨rfl, x4⟩
  have z := Ext.trans z x4
  go_wp2_with fail
  refine (alive02 _).mono ?_; rintro e w9 ⟨rfl, x9⟩
  have z := Ext.trans z x9
  go_wp2_with fail
  go_ret
  exact ⟨rfl, z⟩
set_option maxRecDepth 100000 in
set_option maxHeartbeats 4000000 in
theorem om_1100 {w : World} (A : ∀ W : World, Calls Try.prog 97 #[.int .u8 1, .int .i64 0, .int .i64 0] W fun e w' => e = .returned (.int .i64 0) ∧ Ext W w') (B : ∀ W : World, Calls Try.prog 97 #[.int .u8 2, .int .i64 0, .int .i64 0] W fun e w' => e = .returned (.int .i64 0) ∧ Ext W w') (F : ∀ W : World, Calls Try.prog 97 #[.int .u8 5, .int .i64 0, .int .i64 0] W fun e w' => e = .returned (.int .i64 0) ∧ Ext W w') :
    Calls Try.prog 24 #[.int .i64 0, .int .i64 0] w fun e w' => e = .returned (.bool true) ∧ Ext w w' := by
  have z := Ext.refl w
  go_enter Try.func24, Try.ntmps24
  go_wp2_with fail
  refine (A _).mono ?_; rintro e w1 ⟨rfl, x1⟩
  have z := Ext.trans z x1
  go_wp2_with fail
  refine (B _).mono ?_; rintro e w2 ⟨rfl, x2⟩
  have z := Ext.trans z x2
  go_wp2_with fail
  refine (F _).mono ?_; rintro e w3 ⟨rfl, x3⟩
  have z := Ext.trans z x3
  go_wp2_with fail
  refine (alive02 _).mono ?_; rintro e w9 ⟨rfl, x9⟩
  have z := Ext.trans z x9
  go_wp2_with fail
  go_ret
  exact ⟨rfl, z⟩
set_option maxRecDepth 100000 in
set_option maxHeartbeats 4000000 in
theorem om_1200 {a : Int} {w : World} (la : -9223372036854775808 ≤ a) (ga : a ≤ 9223372036854775807) (d1 : decide (a < a) = false) (d2 : (a == 0) = false) (d3 : decide (0 ≤ a) = true) (pa : (a.tmod 2 == 0) = true) (A : ∀ W : World, Calls Try.prog 97 #[.int .u8 1, .int .i64 a, .int .i64 a] W fun e w' => e = .returned (.int .i64 0) ∧ Ext W w') (B : ∀ W : World, Calls Try.prog 97 #[.int .u8 2, .int .i64 a, .int .i64 a] W fun e w' => e = .returned (.int .i64 0) ∧ Ext W w') (C : ∀ W : World, Calls Try.prog 97 #[.int .u8 3, .int .i64 0, .int .i64 a] W fun e w' => e = .returned (.int .i64 (-1)) ∧ Ext W w') (F : ∀ W : World, Calls Try.prog 97 #[.int .u8 5, .int .i64 a, .int .i64 a] W fun e w' => e = .returned (.int .i64 0) ∧ Ext W w') :
    Calls Try.prog 24 #[.int .i64 a, .int .i64 a] w fun e w' => e = .returned (.bool true) ∧ Ext w w' := by
  have z := Ext.refl w
  have d4 : (0 ≤ a) := by simpa using d3
  have d6 : ¬ a = 0 := by simpa using d2
  have qa : a.tmod 2 = 0 := by simpa using pa
  have ra : a % 2 = 0 := by rw [← tmod_emod]; exact qa
  have d5 : ¬ (a < a) := of_decide_eq_false d1
  go_enter Try.func24, Try.ntmps24
  go_wp2_with fail
  refine (A _).mono ?_; rintro e w1 ⟨rfl, x1⟩
  have z := Ext.trans z x1
  go_wp2_with fail
  refine (B _).mono ?_; rintro e w2 ⟨rfl, x2⟩
  have z := Ext.trans z x2
  go_wp2_with fail
  refine (C _).mono ?_; rintro e w3 ⟨rfl, x3⟩
  have z := Ext.trans z x3
  go_wp2_with fail
  refine (F _).mono ?_; rintro e w4 ⟨rfl, x4⟩
  have z := Ext.trans z x4
  go_wp2_with fail
  refine (alive02 _).mono ?_; rintro e w9 ⟨rfl, x9⟩
  have z := Ext.trans z x9
  go_wp2_with fail
  go_ret
  exact ⟨rfl, z⟩
set_option maxRecDepth 100000 in
set_option maxHeartbeats 4000000 in
theorem om_1211 {a : Int} {w : World} (la : -9223372036854775808 ≤ a) (ga : a ≤ 9223372036854775807) (d1 : decide (a < a) = false) (d2 : (a == 0) = false) (d3 : decide (0 ≤ a) = true) (pa : (a.tmod 2 == 0) = false) (A : ∀ W : World, Calls Try.prog 97 #[.int .u8 1, .int .i64 a, .int .i64 a] W fun e w' => e = .returned (.int .i64 0) ∧ Ext W w') (B : ∀ W : World, Calls Try.prog 97 #[.int .u8 2, .int .i64 a, .int .i64 a] W fun e w' => e = .returned (.int .i64 0) ∧ Ext W w') (C : ∀ W : World, Calls Try.prog 97 #[.int .u8 3, .int .i64 0, .int .i64 a] W fun e w' => e = .returned (.int .i64 (-1)) ∧ Ext W w') (F : ∀ W : World, Calls Try.prog 97 #[.int .u8 5, .int .i64 a, .int .i64 a] W fun e w' => e = .returned (.int .i64 0) ∧ Ext W w') :
    Calls Try.prog 24 #[.int .i64 a, .int .i64 a] w fun e w' => e = .returned (.bool true) ∧ Ext w w' := by
  have z := Ext.refl w
  have d4 : (0 ≤ a) := by simpa using d3
  have d6 : ¬ a = 0 := by simpa using d2
  have qa : ¬ a.tmod 2 = 0 := by simpa using pa
  have ra : ¬ a % 2 = 0 := by rw [← tmod_emod]; exact qa
  have d5 : ¬ (a < a) := of_decide_eq_false d1
  go_enter Try.func24, Try.ntmps24
  go_wp2_with fail
  refine (A _).mono ?_; rintro e w1 ⟨rfl, x1⟩
  have z := Ext.trans z x1
  go_wp2_with fail
  refine (B _).mono ?_; rintro e w2 ⟨rfl, x2⟩
  have z := Ext.trans z x2
  go_wp2_with fail
  refine (C _).mono ?_; rintro e w3 ⟨rfl, x3⟩
  have z := Ext.trans z x3
  go_wp2_with fail
  refine (F _).mono ?_; rintro e w4 ⟨rfl, x4⟩
  have z := Ext.trans z x4
  go_wp2_with fail
  refine (alive02 _).mono ?_; rintro e w9 ⟨rfl, x9⟩
  have z := Ext.trans z x9
  go_wp2_with fail
  go_ret
  exact ⟨rfl, z⟩
set_option maxRecDepth 100000 in
set_option maxHeartbeats 4000000 in
theorem om_1000 {a : Int} {w : World} (la : -9223372036854775808 ≤ a) (ga : a ≤ 9223372036854775807) (d1 : decide (a < a) = false) (d2 : (a == 0) = false) (d3 : decide (0 ≤ a) = false) (pa : (a.tmod 2 == 0) = true) (A : ∀ W : World, Calls Try.prog 97 #[.int .u8 1, .int .i64 a, .int .i64 a] W fun e w' => e = .returned (.int .i64 0) ∧ Ext W w') (B : ∀ W : World, Calls Try.prog 97 #[.int .u8 2, .int .i64 a, .int .i64 a] W fun e w' => e = .returned (.int .i64 0) ∧ Ext W w') (C : ∀ W : World, Calls Try.prog 97 #[.int .u8 3, .int .i64 0, .int .i64 a] W fun e w' => e = .returned (.int .i64 (-1)) ∧ Ext W w') (F : ∀ W : World, Calls Try.prog 97 #[.int .u8 5, .int .i64 a, .int .i64 a] W fun e w' => e = .returned (.int .i64 0) ∧ Ext W w') :
    Calls Try.prog 24 #[.int .i64 a, .int .i64 a] w fun e w' => e = .returned (.bool true) ∧ Ext w w' := by
  have z := Ext.refl w
  have d4 : ¬ (0 ≤ a) := by simpa using d3
  have d6 : ¬ a = 0 := by simpa using d2
  have qa : a.tmod 2 = 0 := by simpa using pa
  have ra : a % 2 = 0 := by rw [← tmod_emod]; exact qa
  have d5 : ¬ (a < a) := of_decide_eq_false d1
  go_enter Try.func24, Try.ntmps24
  go_wp2_with fail
  refine (A _).mono ?_; rintro e w1 ⟨rfl, x1⟩
  have z := Ext.trans z x1
  go_wp2_with fail
  refine (B _).mono ?_; rintro e w2 ⟨rfl, x2⟩
  have z := Ext.trans z x2
  go_wp2_with fail
  refine (C _).mono ?_; rintro e w3 ⟨rfl, x3⟩
  have z := Ext.trans z x3
  go_wp2_with fail
  refine (F _).mono ?_; rintro e w4 ⟨rfl, x4⟩
  have z := Ext.trans z x4
  go_wp2_with fail
  refine (alive02 _).mono ?_; rintro e w9 ⟨rfl, x9⟩
  have z := Ext.trans z x9
  go_wp2_with fail
  go_ret
  exact ⟨rfl, z⟩
set_option maxRecDepth 100000 in
set_option maxHeartbeats 4000000 in
theorem om_1011 {a : Int} {w : World} (la : -9223372036854775808 ≤ a) (ga : a ≤ 9223372036854775807) (d1 : decide (a < a) = false) (d2 : (a == 0) = false) (d3 : decide (0 ≤ a) = false) (pa : (a.tmod 2 == 0) = false) (A : ∀ W : World, Calls Try.prog 97 #[.int .u8 1, .int .i64 a, .int .i64 a] W fun e w' => e = .returned (.int .i64 0) ∧ Ext W w') (B : ∀ W : World, Calls Try.prog 97 #[.int .u8 2, .int .i64 a, .int .i64 a] W fun e w' => e = .returned (.int .i64 0) ∧ Ext W w') (C : ∀ W : World, Calls Try.prog 97 #[.int .u8 3, .int .i64 0, .int .i64 a] W fun e w' => e = .returned (.int .i64 (-1)) ∧ Ext W w') (F : ∀ W : World, Calls Try.prog 97 #[.int .u8 5, .int .i64 a, .int .i64 a] W fun e w' => e = .returned (.int .i64 0) ∧ Ext W w') :
    Calls Try.prog 24 #[.int .i64 a, .int .i64 a] w fun e w' => e = .returned (.bool true) ∧ Ext w w' := by
  have z := Ext.refl w
  have d4 : ¬ (0 ≤ a) := by simpa using d3
  have d6 : ¬ a = 0 := by simpa using d2
  have qa : ¬ a.tmod 2 = 0 := by simpa using pa
  have ra : ¬ a % 2 = 0 := by rw [← tmod_emod]; exact qa
  have d5 : ¬ (a < a) := of_decide_eq_false d1
  go_enter Try.func24, Try.ntmps24
  go_wp2_with fail
  refine (A _).mono ?_; rintro e w1 ⟨rfl, x1⟩
  have z := Ext.trans z x1
  go_wp2_with fail
  refine (B _).mono ?_; rintro e w2 ⟨rfl, x2⟩
  have z := Ext.trans z x2
  go_wp2_with fail
  refine (C _).mono ?_; rintro e w3 ⟨rfl, x3⟩
  have z := Ext.trans z x3
  go_wp2_with fail
  refine (F _).mono ?_; rintro e w4 ⟨rfl, x4⟩
  have z := Ext.trans z x4
  go_wp2_with fail
  refine (alive02 _).mono ?_; rintro e w9 ⟨rfl, x9⟩
  have z := Ext.trans z x9
  go_wp2_with fail
  go_ret
  exact ⟨rfl, z⟩
set_option maxRecDepth 100000 in
set_option maxHeartbeats 4000000 in
theorem om_2100 {b : Int} {w : World} (lb : -9223372036854775808 ≤ b) (gb : b ≤ 9223372036854775807) (d1 : decide (0 < b) = false) (pb : (b.tmod 2 == 0) = true) (A : ∀ W : World, Calls Try.prog 97 #[.int .u8 1, .int .i64 0, .int .i64 b] W fun e w' => e = .returned (.int .i64 1) ∧ Ext W w') (B : ∀ W : World, Calls Try.prog 97 #[.int .u8 2, .int .i64 0, .int .i64 b] W fun e w' => e = .returned (.int .i64 (-1)) ∧ Ext W w') (F : ∀ W : World, Calls Try.prog 97 #[.int .u8 5, .int .i64 0, .int .i64 b] W fun e w' => e = .returned (.int .i64 1) ∧ Ext W w') :
    Calls Try.prog 24 #[.int .i64 0, .int .i64 b] w fun e w' => e = .returned (.bool true) ∧ Ext w w' := by
  have z := Ext.refl w
  have qb : b.tmod 2 = 0 := by simpa using pb
  have rb : b % 2 = 0 := by rw [← tmod_emod]; exact qb
  have d5 : ¬ (0 < b) := of_decide_eq_false d1
  go_enter Try.func24, Try.ntmps24
  go_wp2_with fail
  refine (A _).mono ?_; rintro e w1 ⟨rfl, x1⟩
  have z := Ext.trans z x1
  go_wp2_with fail
  refine (B _).mono ?_; rintro e w2 ⟨rfl, x2⟩
  have z := Ext.trans z x2
  go_wp2_with fail
  refine (F _).mono ?_; rintro e w3 ⟨rfl, x3⟩
  have z := Ext.trans z x3
  go_wp2_with fail
  refine (alive02 _).mono ?_; rintro e w9 ⟨rfl, x9⟩
  have z := Ext.trans z x9
  go_wp2_with fail
  go_ret
  exact ⟨rfl, z⟩
set_option maxRecDepth 100000 in
set_option maxHeartbeats 4000000 in
theorem om_2101 {b : Int} {w : World} (lb : -9223372036854775808 ≤ b) (gb : b ≤ 9223372036854775807) (d1 : decide (0 < b) = false) (pb : (b.tmod 2 == 0) = false) (A : ∀ W : World, Calls Try.prog 97 #[.int .u8 1, .int .i64 0, .int .i64 b] W fun e w' => e = .returned (.int .i64 1) ∧ Ext W w') (B : ∀ W : World, Calls Try.prog 97 #[.int .u8 2, .int .i64 0, .int .i64 b] W fun e w' => e = .returned (.int .i64 (-1)) ∧ Ext W w') (F : ∀ W : World, Calls Try.prog 97 #[.int .u8 5, .int .i64 0, .int .i64 b] W fun e w' => e = .returned (.int .i64 (-1)) ∧ Ext W w') :
    Calls Try.prog 24 #[.int .i64 0, .int .i64 b] w fun e w' => e = .returned (.bool true) ∧ Ext w w' := by
  have z := Ext.refl w
  have qb : ¬ b.tmod 2 = 0 := by simpa using pb
  have rb : ¬ b % 2 = 0 := by rw [← tmod_emod]; exact qb
  have d5 : ¬ (0 < b) := of_decide_eq_false d1
  go_enter Try.func24, Try.ntmps24
  go_wp2_with fail
  refine (A _).mono ?_; rintro e w1 ⟨rfl, x1⟩
  have z := Ext.trans z x1
  go_wp2_with fail
  refine (B _).mono ?_; rintro e w2 ⟨rfl, x2⟩
  have z := Ext.trans z x2
  go_wp2_with fail
  refine (F _).mono ?_; rintro e w3 ⟨rfl, x3⟩
  have z := Ext.trans z x3
  go_wp2_with fail
  refine (alive02 _).mono ?_; rintro e w9 ⟨rfl, x9⟩
  have z := Ext.trans z x9
  go_wp2_with fail
  go_ret
  exact ⟨rfl, z⟩
set_option maxRecDepth 100000 in
set_option maxHeartbeats 4000000 in
theorem om_2200 {a b : Int} {w : World} (la : -9223372036854775808 ≤ a) (ga : a ≤ 9223372036854775807) (lb : -9223372036854775808 ≤ b) (gb : b ≤ 9223372036854775807) (d1 : decide (a < b) = false) (d2 : (a == 0) = false) (d3 : decide (0 ≤ a) = true) (pa : (a.tmod 2 == 0) = true) (pb : (b.tmod 2 == 0) = true) (A : ∀ W : World, Calls Try.prog 97 #[.int .u8 1, .int .i64 a, .int .i64 b] W fun e w' => e = .returned (.int .i64 1) ∧ Ext W w') (B : ∀ W : World, Calls Try.prog 97 #[.int .u8 2, .int .i64 a, .int .i64 b] W fun e w' => e = .returned (.int .i64 (-1)) ∧ Ext W w') (C : ∀ W : World, Calls Try.prog 97 #[.int .u8 3, .int .i64 0, .int .i64 a] W fun e w' => e = .returned (.int .i64 (-1)) ∧ Ext W w') (F : ∀ W : World, Calls Try.prog 97 #[.int .u8 5, .int .i64 a, .int .i64 b] W fun e w' => e = .returned (.int .i64 1) ∧ Ext W w') :
    Calls Try.prog 24 #[.int .i64 a, .int .i64 b] w fun e w' => e = .returned (.bool true) ∧ Ext w w' := by
  have z := Ext.refl w
  have d4 : (0 ≤ a) := by simpa using d3
  have d6 : ¬ a = 0 := by simpa using d2
  have qa : a.tmod 2 = 0 := by simpa using pa
  have qb : b.tmod 2 = 0 := by simpa using pb
  have ra : a % 2 = 0 := by rw [← tmod_emod]; exact qa
  have rb : b % 2 = 0 := by rw [← tmod_emod]; exact qb
  have d5 : ¬ (a < b) := of_decide_eq_false d1
  go_enter Try.func24, Try.ntmps24
  go_wp2_with fail
  refine (A _).mono ?_; rintro e w1 ⟨rfl, x1⟩
  have z := Ext.trans z x1
  go_wp2_with fail
  refine (B _).mono ?_; rintro e w2 ⟨rfl, x2⟩
  have z := Ext.trans z x2
  go_wp2_with fail
  refine (C _).mono ?_; rintro e w3 ⟨rfl, x3⟩
  have z := Ext.trans z x3
  go_wp2_with fail
  refine (F _).mono ?_; rintro e w4 ⟨rfl, x4⟩
  have z := Ext.trans z x4
  go_wp2_with fail
  refine (alive02 _).mono ?_; rintro e w9 ⟨rfl, x9⟩
  have z := Ext.trans z x9
  go_wp2_with fail
  go_ret
  exact ⟨rfl, z⟩
set_option maxRecDepth 100000 in
set_option maxHeartbeats 4000000 in
theorem om_2201 {a b : Int} {w : World} (la : -9223372036854775808 ≤ a) (ga : a ≤ 9223372036854775807) (lb : -9223372036854775808 ≤ b) (gb : b ≤ 9223372036854775807) (d1 : decide (a < b) = false) (d2 : (a == 0) = false) (d3 : decide (0 ≤ a) = true) (pa : (a.tmod 2 == 0) = true) (pb : (b.tmod 2 == 0) = false) (A : ∀ W : World, Calls Try.prog 97 #[.int .u8 1, .int .i64 a, .int .i64 b] W fun e w' => e = .returned (.int .i64 1) ∧ Ext W w') (B : ∀ W : World, Calls Try.prog 97 #[.int .u8 2, .int .i64 a, .int .i64 b] W fun e w' => e = .returned (.int .i64 (-1)) ∧ Ext W w') (C : ∀ W : World, Calls Try.prog 97 #[.int .u8 3, .int .i64 0, .int .i64 a] W fun e w' => e = .returned (.int .i64 (-1)) ∧ Ext W w') (F : ∀ W : World, Calls Try.prog 97 #[.int .u8 5, .int .i64 a, .int .i64 b] W fun e w' => e = .returned (.int .i64 (-1)) ∧ Ext W w') :
    Calls Try.prog 24 #[.int .i64 a, .int .i64 b] w fun e w' => e = .returned (.bool true) ∧ Ext w w' := by
  have z := Ext.refl w
  have d4 : (0 ≤ a) := by simpa using d3
  have d6 : ¬ a = 0 := by simpa using d2
  have qa : a.tmod 2 = 0 := by simpa using pa
  have qb : ¬ b.tmod 2 = 0 := by simpa using pb
  have ra : a % 2 = 0 := by rw [← tmod_emod]; exact qa
  have rb : ¬ b % 2 = 0 := by rw [← tmod_emod]; exact qb
  have d5 : ¬ (a < b) := of_decide_eq_false d1
  go_enter Try.func24, Try.ntmps24
  go_wp2_with fail
  refine (A _).mono ?_; rintro e w1 ⟨rfl, x1⟩
  have z := Ext.trans z x1
  go_wp2_with fail
  refine (B _).mono ?_; rintro e w2 ⟨rfl, x2⟩
  have z := Ext.trans z x2
  go_wp2_with fail
  refine (C _).mono ?_; rintro e w3 ⟨rfl, x3⟩
  have z := Ext.trans z x3
  go_wp2_with fail
  refine (F _).mono ?_; rintro e w4 ⟨rfl, x4⟩
  have z := Ext.trans z x4
  go_wp2_with fail
  refine (alive02 _).mono ?_; rintro e w9 ⟨rfl, x9⟩
  have z := Ext.trans z x9
  go_wp2_with fail
  go_ret
  exact ⟨rfl, z⟩
set_option maxRecDepth 100000 in
set_option maxHeartbeats 4000000 in
theorem om_2210 {a b : Int} {w : World} (la : -9223372036854775808 ≤ a) (ga : a ≤ 9223372036854775807) (lb : -9223372036854775808 ≤ b) (gb : b ≤ 9223372036854775807) (d1 : decide (a < b) = false) (d2 : (a == 0) = false) (d3 : decide (0 ≤ a) = true) (pa : (a.tmod 2 == 0) = false) (pb : (b.tmod 2 == 0) = true) (A : ∀ W : World, Calls Try.prog 97 #[.int .u8 1, .int .i64 a, .int .i64 b] W fun e w' => e = .returned (.int .i64 1) ∧ Ext W w') (B : ∀ W : World, Calls Try.prog 97 #[.int .u8 2, .int .i64 a, .int .i64 b] W fun e w' => e = .returned (.int .i64 (-1)) ∧ Ext W w') (C : ∀ W : World, Calls Try.prog 97 #[.int .u8 3, .int .i64 0, .int .i64 a] W fun e w' => e = .returned (.int .i64 (-1)) ∧ Ext W w') (F : ∀ W : World, Calls Try.prog 97 #[.int .u8 5, .int .i64 a, .int .i64 b] W fun e w' => e = .returned (.int .i64 1) ∧ Ext W w') :
    Calls Try.prog 24 #[.int .i64 a, .int .i64 b] w fun e w' => e = .returned (.bool true) ∧ Ext w w' := by
  have z := Ext.refl w
  have d4 : (0 ≤ a) := by simpa using d3
  have d6 : ¬ a = 0 := by simpa using d2
  have qa : ¬ a.tmod 2 = 0 := by simpa using pa
  have qb : b.tmod 2 = 0 := by simpa using pb
  have ra : ¬ a % 2 = 0 := by rw [← tmod_emod]; exact qa
  have rb : b % 2 = 0 := by rw [← tmod_emod]; exact qb
  have d5 : ¬ (a < b) := of_decide_eq_false d1
  go_enter Try.func24, Try.ntmps24
  go_wp2_with fail
  refine (A _).mono ?_; rintro e w1 ⟨rfl, x1⟩
  have z := Ext.trans z x1
  go_wp2_with fail
  refine (B _).mono ?_; rintro e w2 ⟨rfl, x2⟩
  have z := Ext.trans z x2
  go_wp2_with fail
  refine (C _).mono ?_; rintro e w3 ⟨rfl, x3⟩
  have z := Ext.trans z x3
  go_wp2_with fail
  refine (F _).mono ?_; rintro e w4 ⟨rfl, x4⟩
  have z := Ext.trans z x4
  go_wp2_with fail
  refine (alive02 _).mono ?_; rintro e w9 ⟨rfl, x9⟩
  have z := Ext.trans z x9
  go_wp2_with fail
  go_ret
  exact ⟨rfl, z⟩
set_option maxRecDepth 100000 in
set_option maxHeartbeats 4000000 in
theorem om_2211 {a b : Int} {w : World} (la : -9223372036854775808 ≤ a) (ga : a ≤ 9223372036854775807) (lb : -9223372036854775808 ≤ b) (gb : b ≤ 9223372036854775807) (d1 : decide (a < b) = false) (d2 : (a == 0) = false) (d3 : decide (0 ≤ a) = true) (pa : (a.tmod 2 == 0) = false) (pb : (b.tmod 2 == 0) = false) (A : ∀ W : World, Calls Try.prog 97 #[.int .u8 1, .int .i64 a, .int .i64 b] W fun e w' => e = .returned (.int .i64 1) ∧ Ext W w') (B : ∀ W : World, Calls Try.prog 97 #[.int .u8 2, .int .i64 a, .int .i64 b] W fun e w' => e = .returned (.int .i64 (-1)) ∧ Ext W w') (C : ∀ W : World, Calls Try.prog 97 #[.int .u8 3, .int .i64 0, .int .i64 a] W fun e w' => e = .returned (.int .i64 (-1)) ∧ Ext W w') (F : ∀ W : World, Calls Try.prog 97 #[.int .u8 5, .int .i64 a, .int .i64 b] W fun e w' => e = .returned (.int .i64 1) ∧ Ext W w') :
    Calls Try.prog 24 #[.int .i64 a, .int .i64 b] w fun e w' => e = .returned (.bool true) ∧ Ext w w' := by
  have z := Ext.refl w
  have d4 : (0 ≤ a) := by simpa using d3
  have d6 : ¬ a = 0 := by simpa using d2
  have qa : ¬ a.tmod 2 = 0 := by simpa using pa
  have qb : ¬ b.tmod 2 = 0 := by simpa using pb
  have ra : ¬ a % 2 = 0 := by rw [← tmod_emod]; exact qa
  have rb : ¬ b % 2 = 0 := by rw [← tmod_emod]; exact qb
  have d5 : ¬ (a < b) := of_decide_eq_false d1
  go_enter Try.func24, Try.ntmps24
  go_wp2_with fail
  refine (A _).mono ?_; rintro e w1 ⟨rfl, x1⟩
  have z := Ext.trans z x1
  go_wp2_with fail
  refine (B _).mono ?_; rintro e w2 ⟨rfl, x2⟩
  have z := Ext.trans z x2
  go_wp2_with fail
  refine (C _).mono ?_; rintro e w3 ⟨rfl, x3⟩
  have z := Ext.trans z x3
  go_wp2_with fail
  refine (F _).mono ?_; rintro e w4 ⟨rfl, x4⟩
  have z := Ext.trans z x4
  go_wp2_with fail
  refine (alive02 _).mono ?_; rintro e w9 ⟨rfl, x9⟩
  have z := Ext.trans z x9
  go_wp2_with fail
  go_ret
  exact ⟨rfl, z⟩
set_option maxRecDepth 100000 in
set_option maxHeartbeats 4000000 in
theorem om_2000 {a b : Int} {w : World} (la : -9223372036854775808 ≤ a) (ga : a ≤ 9223372036854775807) (lb : -9223372036854775808 ≤ b) (gb : b ≤ 9223372036854775807) (d1 : decide (a < b) = false) (d2 : (a == 0) = false) (d3 : decide (0 ≤ a) = false) (pa : (a.tmod 2 == 0) = true) (pb : (b.tmod 2 == 0) = true) (A : ∀ W : World, Calls Try.prog 97 #[.int .u8 1, .int .i64 a, .int .i64 b] W fun e w' => e = .returned (.int .i64 1) ∧ Ext W w') (B : ∀ W : World, Calls Try.prog 97 #[.int .u8 2, .int .i64 a, .int .i64 b] W fun e w' => e = .returned (.int .i64 (-1)) ∧ Ext W w') (C : ∀ W : World, Calls Try.prog 97 #[.int .u8 3, .int .i64 0, .int .i64 a] W fun e w' => e = .returned (.int .i64 (-1)) ∧ Ext W w') (F : ∀ W : World, Calls Try.prog 97 #[.int .u8 5, .int .i64 a, .int .i64 b] W fun e w' => e = .returned (.int .i64 1) ∧ Ext W w') :
    Calls Try.prog 24 #[.int .i64 a, .int .i64 b] w fun e w' => e = .returned (.bool true) ∧ Ext w w' := by
  have z := Ext.refl w
  have d4 : ¬ (0 ≤ a) := by simpa using d3
  have d6 : ¬ a = 0 := by simpa using d2
  have qa : a.tmod 2 = 0 := by simpa using pa
  have qb : b.tmod 2 = 0 := by simpa using pb
  have ra : a % 2 = 0 := by rw [← tmod_emod]; exact qa
  have rb : b % 2 = 0 := by rw [← tmod_emod]; exact qb
  have d5 : ¬ (a < b) := of_decide_eq_false d1
  go_enter Try.func24, Try.ntmps24
  go_wp2_with fail
  refine (A _).mono ?_; rintro e w1 ⟨rfl, x1⟩
  have z := Ext.trans z x1
  go_wp2_with fail
  refine (B _).mono ?_; rintro e w2 ⟨rfl, x2⟩
  have z := Ext.trans z x2
  go_wp2_with fail
  refine (C _).mono ?_; rintro e w3 ⟨rfl, x3⟩
  have z := Ext.trans z x3
  go_wp2_with fail
  refine (F _).mono ?_; rintro e w4 ⟨rfl, x4⟩
  have z := Ext.trans z x4
  go_wp2_with fail
  refine (alive02 _).mono ?_; rintro e w9 ⟨rfl, x9⟩
  have z := Ext.trans z x9
  go_wp2_with fail
  go_ret
  exact ⟨rfl, z⟩
set_option maxRecDepth 100000 in
set_option maxHeartbeats 4000000 in
theorem om_2001 {a b : Int} {w : World} (la : -9223372036854775808 ≤ a) (ga : a ≤ 9223372036854775807) (lb : -9223372036854775808 ≤ b) (gb : b ≤ 9223372036854775807) (d1 : decide (a < b) = false) (d2 : (a == 0) = false) (d3 : decide (0 ≤ a) = false) (pa : (a.tmod 2 == 0) = true) (pb : (b.tmod 2 == 0) = false) (A : ∀ W : World, Calls Try.prog 97 #[.int .u8 1, .int .i64 a, .int .i64 b] W fun e w' => e = .returned (.int .i64 1) ∧ Ext W w') (B : ∀ W : World, Calls Try.prog 97 #[.int .u8 2, .int .i64 a, .int .i64 b] W fun e w' => e = .returned (.int .i64 (-1)) ∧ Ext W w') (C : ∀ W : World, Calls Try.prog 97 #[.int .u8 3, .int .i64 0, .int .i64 a] W fun e w' => e = .returned (.int .i64 (-1)) ∧ Ext W w') (F : ∀ W : World, Calls Try.prog 97 #[.int .u8 5, .int .i64 a, .int .i64 b] W fun e w' => e = .returned (.int .i64 (-1)) ∧ Ext W w') :
    Calls Try.prog 24 #[.int .i64 a, .int .i64 b] w fun e w' => e = .returned (.bool true) ∧ Ext w w' := by
  have z := Ext.refl w
  have d4 : ¬ (0 ≤ a) := by simpa using d3
  have d6 : ¬ a = 0 := by simpa using d2
  have qa : a.tmod 2 = 0 := by simpa using pa
  have qb : ¬ b.tmod 2 = 0 := by simpa using pb
  have ra : a % 2 = 0 := by rw [← tmod_emod]; exact qa
  have rb : ¬ b % 2 = 0 := by rw [← tmod_emod]; exact qb
  have d5 : ¬ (a < b) := of_decide_eq_false d1
  go_enter Try.func24, Try.ntmps24
  go_wp2_with fail
  refine (A _).mono ?_; rintro e w1 ⟨rfl, x1⟩
  have z := Ext.trans z x1
  go_wp2_with fail
  refine (B _).mono ?_; rintro e w2 ⟨rfl, x2⟩
  have z := Ext.trans z x2
  go_wp2_with fail
  refine (C _).mono ?_; rintro e w3 ⟨rfl, x3⟩
  have z := Ext.trans z x3
  go_wp2_with fail
  refine (F _).mono ?_; rintro e w4 ⟨rfl, x4⟩
  have z := Ext.trans z x4
  go_wp2_with fail
  refine (alive02 _).mono ?_; rintro e w9 ⟨rfl, x9⟩
  have z := Ext.trans z x9
  go_wp2_with fail
  go_ret
  exact ⟨rfl, z⟩
set_option maxRecDepth 100000 in
set_option maxHeartbeats 4000000 in
theorem om_2010 {a b : Int} {w : World} (la : -9223372036854775808 ≤ a) (ga : a ≤ 9223372036854775807) (lb : -9223372036854775808 ≤ b) (gb : b ≤ 9223372036854775807) (d1 : decide (a < b) = false) (d2 : (a == 0) = false) (d3 : decide (0 ≤ a) = false) (pa : (a.tmod 2 == 0) = false) (pb : (b.tmod 2 == 0) = true) (A : ∀ W : World, Calls Try.prog 97 #[.int .u8 1, .int .i64 a, .int .i64 b] W fun e w' => e = .returned (.int .i64 1) ∧ Ext W w') (B : ∀ W : World, Calls Try.prog 97 #[.int .u8 2, .int .i64 a, .int .i64 b] W fun e w' => e = .returned (.int .i64 (-1)) ∧ Ext W w') (C : ∀ W : World, Calls Try.prog 97 #[.int .u8 3, .int .i64 0, .int .i64 a] W fun e w' => e = .returned (.int .i64 (-1)) ∧ Ext W w') (F : ∀ W : World, Calls Try.prog 97 #[.int .u8 5, .int .i64 a, .int .i64 b] W fun e w' => e = .returned (.int .i64 1) ∧ Ext W w') :
    Calls Try.prog 24 #[.int .i64 a, .int .i64 b] w fun e w' => e = .returned (.bool true) ∧ Ext w w' := by
  have z := Ext.refl w
  have d4 : ¬ (0 ≤ a) := by simpa using d3
  have d6 : ¬ a = 0 := by simpa using d2
  have qa : ¬ a.tmod 2 = 0 := by simpa using pa
  have qb : b.tmod 2 = 0 := by simpa using pb
  have ra : ¬ a % 2 = 0 := by rw [← tmod_emod]; exact qa
  have rb : b % 2 = 0 := by rw [← tmod_emod]; exact qb
  have d5 : ¬ (a < b) := of_decide_eq_false d1
  go_enter Try.func24, Try.ntmps24
  go_wp2_with fail
  refine (A _).mono ?_; rintro e w1 ⟨rfl, x1⟩
  have z := Ext.trans z x1
  go_wp2_with fail
  refine (B _).mono ?_; rintro e w2 ⟨rfl, x2⟩
  have z := Ext.trans z x2
  go_wp2_with fail
  refine (C _).mono ?_; rintro e w3 ⟨rfl, x3⟩
  have z := Ext.trans z x3
  go_wp2_with fail
  refine (F _).mono ?_; rintro e w4 ⟨rfl, x4⟩
  have z := Ext.trans z x4
  go_wp2_with fail
  refine (alive02 _).mono ?_; rintro e w9 ⟨rfl, x9⟩
  have z := Ext.trans z x9
  go_wp2_with fail
  go_ret
  exact ⟨rfl, z⟩
set_option maxRecDepth 100000 in
set_option maxHeartbeats 4000000 in
theorem om_2011 {a b : Int} {w : World} (la : -9223372036854775808 ≤ a) (ga : a ≤ 9223372036854775807) (lb : -9223372036854775808 ≤ b) (gb : b ≤ 9223372036854775807) (d1 : decide (a < b) = false) (d2 : (a == 0) = false) (d3 : decide (0 ≤ a) = false) (pa : (a.tmod 2 == 0) = false) (pb : (b.tmod 2 == 0) = false) (A : ∀ W : World, Calls Try.prog 97 #[.int .u8 1, .int .i64 a, .int .i64 b] W fun e w' => e = .returned (.int .i64 1) ∧ Ext W w') (B : ∀ W : World, Calls Try.prog 97 #[.int .u8 2, .int .i64 a, .int .i64 b] W fun e w' => e = .returned (.int .i64 (-1)) ∧ Ext W w') (C : ∀ W : World, Calls Try.prog 97 #[.int .u8 3, .int .i64 0, .int .i64 a] W fun e w' => e = .returned (.int .i64 (-1)) ∧ Ext W w') (F : ∀ W : World, Calls Try.prog 97 #[.int .u8 5, .int .i64 a, .int .i64 b] W fun e w' => e = .returned (.int .i64 1) ∧ Ext W w') :
    Calls Try.prog 24 #[.int .i64 a, .int .i64 b] w fun e w' => e = .returned (.bool true) ∧ Ext w w' := by
  have z := Ext.refl w
  have d4 : ¬ (0 ≤ a) := by simpa using d3
  have d6 : ¬ a = 0 := by simpa using d2
  have qa : ¬ a.tmod 2 = 0 := by simpa using pa
  have qb : ¬ b.tmod 2 = 0 := by simpa using pb
  have ra : ¬ a % 2 = 0 := by rw [← tmod_emod]; exact qa
  have rb : ¬ b % 2 = 0 := by rw [← tmod_emod]; exact qb
  have d5 : ¬ (a < b) := of_decide_eq_false d1
  go_enter Try.func24, Try.ntmps24
  go_wp2_with fail
  refine (A _).mono ?_; rintro e w1 ⟨rfl, x1⟩
  have z := Ext.trans z x1
  go_wp2_with fail
  refine (B _).mono ?_; rintro e w2 ⟨rfl, x2⟩
  have z := Ext.trans z x2
  go_wp2_with fail
  refine (C _).mono ?_; rintro e w3 ⟨rfl, x3⟩
  have z := Ext.trans z x3
  go_wp2_with fail
  refine (F _).mono ?_; rintro e w4 ⟨rfl, x4⟩
  have z := Ext.trans z x4
  go_wp2_with fail
  refine (alive02 _).mono ?_; rintro e w9 ⟨rfl, x9⟩
  have z := Ext.trans z x9
  go_wp2_with fail
  go_ret
  exact ⟨rfl, z⟩
set_option maxHeartbeats 4000000 in
theorem orderMeans_walk {a b : Int} {w : World} (wa : (Lit.int .i64 a).wf = true) (wb : (Lit.int .i64 b).wf = true) :
    Calls Try.prog 24 #[.int .i64 a, .int .i64 b] w fun e w' => e = .returned (.bool true) ∧ Ext w w' := by
  have ha := wf_i64 wa
  have hb := wf_i64 wb
  clear wa wb
  have A := fun u (h : cmpI a b = u) W => cmp_at1 ha hb h W
  have B := fun u (h : cmpI a b = -u) W => cmp_at2 ha hb h W
  have C := fun (h : a ≠ 0) W => cmp_at3z ha h W
  have D := fun (h : 0 ≤ a ∧ a < b) W => cmp_at3p ha hb h W
  have E := fun (h : 0 ≤ a ∧ a < b) W => cmp_at3n ha hb h W
  have F := fun u (h : evenI a b = u) W => cmp_at5 ha hb h W
  rcases Int.lt_trichotomy a b with h | h | h
  · skip
    rcases Int.lt_trichotomy a 0 with g | g | g
    · skip
      by_cases pa : a.tmod 2 = 0
      · skip
        by_cases pb : b.tmod 2 = 0
        · skip
          exact om_0000 ha.1 ha.2 hb.1 hb.2 (decide_eq_true (by omega)) (beq_eq_false_iff_ne.2 (by omega)) (decide_eq_false (by omega)) (beq_iff_eq.2 pa) (beq_iff_eq.2 pb) (A (-1) (by unfold cmpI; (repeat' split) <;> omega)) (B 1 (by unfold cmpI; (repeat' split) <;> omega)) (C (by omega)) (F (-1) (by unfold evenI cmpI; (repeat' split) <;> omega))
        · skip
          exact om_0001 ha.1 ha.2 hb.1 hb.2 (decide_eq_true (by omega)) (beq_eq_false_iff_ne.2 (by omega)) (decide_eq_false (by omega)) (beq_iff_eq.2 pa) (beq_eq_false_iff_ne.2 pb) (A (-1) (by unfold cmpI; (repeat' split) <;> omega)) (B 1 (by unfold cmpI; (repeat' split) <;> omega)) (C (by omega)) (F (-1) (by unfold evenI cmpI; (repeat' split) <;> omega))
      · skip
        by_cases pb : b.tmod 2 = 0
        · skip
          exact om_0010 ha.1 ha.2 hb.1 hb.2 (decide_eq_true (by omega)) (beq_eq_false_iff_ne.2 (by omega)) (decide_eq_false (by omega)) (beq_eq_false_iff_ne.2 pa) (beq_iff_eq.2 pb) (A (-1) (by unfold cmpI; (repeat' split) <;> omega)) (B 1 (by unfold cmpI; (repeat' split) <;> omega)) (C (by omega)) (F 1 (by unfold evenI cmpI; (repeat' split) <;> omega))
        · skip
          exact om_0011 ha.1 ha.2 hb.1 hb.2 (decide_eq_true (by omega)) (beq_eq_false_iff_ne.2 (by omega)) (decide_eq_false (by omega)) (beq_eq_false_iff_ne.2 pa) (beq_eq_false_iff_ne.2 pb) (A (-1) (by unfold cmpI; (repeat' split) <;> omega)) (B 1 (by unfold cmpI; (repeat' split) <;> omega)) (C (by omega)) (F (-1) (by unfold evenI cmpI; (repeat' split) <;> omega))
    · subst g
      by_cases pb : b.tmod 2 = 0
      · skip
        exact om_0100 hb.1 hb.2 (decide_eq_true (by omega)) (beq_iff_eq.2 pb) (A (-1) (by unfold cmpI; (repeat' split) <;> omega)) (B 1 (by unfold cmpI; (repeat' split) <;> omega)) (D (by omega)) (by simpa using E (by omega)) (F (-1) (by unfold evenI cmpI; simp only [Int.zero_tmod, if_true]; (repeat' split) <;> omega))
      · skip
        exact om_0101 hb.1 hb.2 (decide_eq_true (by omega)) (beq_eq_false_iff_ne.2 pb) (A (-1) (by unfold cmpI; (repeat' split) <;> omega)) (B 1 (by unfold cmpI; (repeat' split) <;> omega)) (D (by omega)) (by simpa using E (by omega)) (F (-1) (by unfold evenI cmpI; simp only [Int.zero_tmod, if_true]; (repeat' split) <;> omega))
    · skip
      by_cases pa : a.tmod 2 = 0
      · skip
        by_cases pb : b.tmod 2 = 0
        · skip
          exact om_0200 ha.1 ha.2 hb.1 hb.2 (decide_eq_true (by omega)) (beq_eq_false_iff_ne.2 (by omega)) (decide_eq_true (by omega)) (beq_iff_eq.2 pa) (beq_iff_eq.2 pb) (A (-1) (by unfold cmpI; (repeat' split) <;> omega)) (B 1 (by unfold cmpI; (repeat' split) <;> omega)) (C (by omega)) (D (by omega)) (E (by omega)) (F (-1) (by unfold evenI cmpI; (repeat' split) <;> omega))
        · skip
          exact om_0201 ha.1 ha.2 hb.1 hb.2 (decide_eq_true (by omega)) (beq_eq_false_iff_ne.2 (by omega)) (decide_eq_true (by omega)) (beq_iff_eq.2 pa) (beq_eq_false_iff_ne.2 pb) (A (-1) (by unfold cmpI; (repeat' split) <;> omega)) (B 1 (by unfold cmpI; (repeat' split) <;> omega)) (C (by omega)) (D (by omega)) (E (by omega)) (F (-1) (by unfold evenI cmpI; (repeat' split) <;> omega))
      · skip
        by_cases pb : b.tmod 2 = 0
        · skip
          exact om_0210 ha.1 ha.2 hb.1 hb.2 (decide_eq_true (by omega)) (beq_eq_false_iff_ne.2 (by omega)) (decide_eq_true (by omega)) (beq_eq_false_iff_ne.2 pa) (beq_iff_eq.2 pb) (A (-1) (by unfold cmpI; (repeat' split) <;> omega)) (B 1 (by unfold cmpI; (repeat' split) <;> omega)) (C (by omega)) (D (by omega)) (E (by omega)) (F 1 (by unfold evenI cmpI; (repeat' split) <;> omega))
        · skip
          exact om_0211 ha.1 ha.2 hb.1 hb.2 (decide_eq_true (by omega)) (beq_eq_false_iff_ne.2 (by omega)) (decide_eq_true (by omega)) (beq_eq_false_iff_ne.2 pa) (beq_eq_false_iff_ne.2 pb) (A (-1) (by unfold cmpI; (repeat' split) <;> omega)) (B 1 (by unfold cmpI; (repeat' split) <;> omega)) (C (by omega)) (D (by omega)) (E (by omega)) (F (-1) (by unfold evenI cmpI; (repeat' split) <;> omega))
  · subst h
    rcases Int.lt_trichotomy a 0 with g | g | g
    · skip
      by_cases pa : a.tmod 2 = 0
      · skip
        exact om_1000 ha.1 ha.2 (decide_eq_false (by omega)) (beq_eq_false_iff_ne.2 (by omega)) (decide_eq_false (by omega)) (beq_iff_eq.2 pa) (A 0 (by unfold cmpI; (repeat' split) <;> omega)) (B 0 (by unfold cmpI; (repeat' split) <;> omega)) (C (by omega)) (F 0 (by unfold evenI cmpI; (repeat' split) <;> omega))
      · skip
        exact om_1011 ha.1 ha.2 (decide_eq_false (by omega)) (beq_eq_false_iff_ne.2 (by omega)) (decide_eq_false (by omega)) (beq_eq_false_iff_ne.2 pa) (A 0 (by unfold cmpI; (repeat' split) <;> omega)) (B 0 (by unfold cmpI; (repeat' split) <;> omega)) (C (by omega)) (F 0 (by unfold evenI cmpI; (repeat' split) <;> omega))
    · subst g
      exact om_1100 (A 0 (by decide)) (B 0 (by decide)) (F 0 (by decide))
    · skip
      by_cases pa : a.tmod 2 = 0
      · skip
        exact om_1200 ha.1 ha.2 (decide_eq_false (by omega)) (beq_eq_false_iff_ne.2 (by omega)) (decide_eq_true (by omega)) (beq_iff_eq.2 pa) (A 0 (by unfold cmpI; (repeat' split) <;> omega)) (B 0 (by unfold cmpI; (repeat' split) <;> omega)) (C (by omega)) (F 0 (by unfold evenI cmpI; (repeat' split) <;> omega))
      · skip
        exact om_1211 ha.1 ha.2 (decide_eq_false (by omega)) (beq_eq_false_iff_ne.2 (by omega)) (decide_eq_true (by omega)) (beq_eq_false_iff_ne.2 pa) (A 0 (by unfold cmpI; (repeat' split) <;> omega)) (B 0 (by unfold cmpI; (repeat' split) <;> omega)) (C (by omega)) (F 0 (by unfold evenI cmpI; (repeat' split) <;> omega))
  · skip
    rcases Int.lt_trichotomy a 0 with g | g | g
    · skip
      by_cases pa : a.tmod 2 = 0
      · skip
        by_cases pb : b.tmod 2 = 0
        · skip
          exact om_2000 ha.1 ha.2 hb.1 hb.2 (decide_eq_false (by omega)) (beq_eq_false_iff_ne.2 (by omega)) (decide_eq_false (by omega)) (beq_iff_eq.2 pa) (beq_iff_eq.2 pb) (A 1 (by unfold cmpI; (repeat' split) <;> omega)) (B (-1) (by unfold cmpI; (repeat' split) <;> omega)) (C (by omega)) (F 1 (by unfold evenI cmpI; (repeat' split) <;> omega))
        · skip
          exact om_2001 ha.1 ha.2 hb.1 hb.2 (decide_eq_false (by omega)) (beq_eq_false_iff_ne.2 (by omega)) (decide_eq_false (by omega)) (beq_iff_eq.2 pa) (beq_eq_false_iff_ne.2 pb) (A 1 (by unfold cmpI; (repeat' split) <;> omega)) (B (-1) (by unfold cmpI; (repeat' split) <;> omega)) (C (by omega)) (F (-1) (by unfold evenI cmpI; (repeat' split) <;> omega))
      · skip
        by_cases pb : b.tmod 2 = 0
        · skip
          exact om_2010 ha.1 ha.2 hb.1 hb.2 (decide_eq_false (by omega)) (beq_eq_false_iff_ne.2 (by omega)) (decide_eq_false (by omega)) (beq_eq_false_iff_ne.2 pa) (beq_iff_eq.2 pb) (A 1 (by unfold cmpI; (repeat' split) <;> omega)) (B (-1) (by unfold cmpI; (repeat' split) <;> omega)) (C (by omega)) (F 1 (by unfold evenI cmpI; (repeat' split) <;> omega))
        · skip
          exact om_2011 ha.1 ha.2 hb.1 hb.2 (decide_eq_false (by omega)) (beq_eq_false_iff_ne.2 (by omega)) (decide_eq_false (by omega)) (beq_eq_false_iff_ne.2 pa) (beq_eq_false_iff_ne.2 pb) (A 1 (by unfold cmpI; (repeat' split) <;> omega)) (B (-1) (by unfold cmpI; (repeat' split) <;> omega)) (C (by omega)) (F 1 (by unfold evenI cmpI; (repeat' split) <;> omega))
    · subst g
      by_cases pb : b.tmod 2 = 0
      · skip
        exact om_2100 hb.1 hb.2 (decide_eq_false (by omega)) (beq_iff_eq.2 pb) (A 1 (by unfold cmpI; (repeat' split) <;> omega)) (B (-1) (by unfold cmpI; (repeat' split) <;> omega)) (F 1 (by unfold evenI cmpI; simp only [Int.zero_tmod, if_true]; (repeat' split) <;> omega))
      · skip
        exact om_2101 hb.1 hb.2 (decide_eq_false (by omega)) (beq_eq_false_iff_ne.2 pb) (A 1 (by unfold cmpI; (repeat' split) <;> omega)) (B (-1) (by unfold cmpI; (repeat' split) <;> omega)) (F (-1) (by unfold evenI cmpI; simp only [Int.zero_tmod, if_true]; (repeat' split) <;> omega))
    · skip
      by_cases pa : a.tmod 2 = 0
      · skip
        by_cases pb : b.tmod 2 = 0
        · skip
          exact om_2200 ha.1 ha.2 hb.1 hb.2 (decide_eq_false (by omega)) (beq_eq_false_iff_ne.2 (by omega)) (decide_eq_true (by omega)) (beq_iff_eq.2 pa) (beq_iff_eq.2 pb) (A 1 (by unfold cmpI; (repeat' split) <;> omega)) (B (-1) (by unfold cmpI; (repeat' split) <;> omega)) (C (by omega)) (F 1 (by unfold evenI cmpI; (repeat' split) <;> omega))
        · skip
          exact om_2201 ha.1 ha.2 hb.1 hb.2 (decide_eq_false (by omega)) (beq_eq_false_iff_ne.2 (by omega)) (decide_eq_true (by omega)) (beq_iff_eq.2 pa) (beq_eq_false_iff_ne.2 pb) (A 1 (by unfold cmpI; (repeat' split) <;> omega)) (B (-1) (by unfold cmpI; (repeat' split) <;> omega)) (C (by omega)) (F (-1) (by unfold evenI cmpI; (repeat' split) <;> omega))
      · skip
        by_cases pb : b.tmod 2 = 0
        · skip
          exact om_2210 ha.1 ha.2 hb.1 hb.2 (decide_eq_false (by omega)) (beq_eq_false_iff_ne.2 (by omega)) (decide_eq_true (by omega)) (beq_eq_false_iff_ne.2 pa) (beq_iff_eq.2 pb) (A 1 (by unfold cmpI; (repeat' split) <;> omega)) (B (-1) (by unfold cmpI; (repeat' split) <;> omega)) (C (by omega)) (F 1 (by unfold evenI cmpI; (repeat' split) <;> omega))
        · skip
          exact om_2211 ha.1 ha.2 hb.1 hb.2 (decide_eq_false (by omega)) (beq_eq_false_iff_ne.2 (by omega)) (decide_eq_true (by omega)) (beq_eq_false_iff_ne.2 pa) (beq_eq_false_iff_ne.2 pb) (A 1 (by unfold cmpI; (repeat' split) <;> omega)) (B (-1) (by unfold cmpI; (repeat' split) <;> omega)) (C (by omega)) (F 1 (by unfold evenI cmpI; (repeat' split) <;> omega))
end Go.Proofs.Ytlehcagpddgamaa
