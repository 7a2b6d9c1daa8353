/- The document's answer for package order: joineryref02. -/
import Derived.Test.YtphpaaaaifpidaaMeans
namespace Go.Proofs.Ytphpaaaaifpidaa
open Go.RowKit

theorem rIs_yes {k : Int} (h : 1 ≤ k ∧ k ≤ 7) (w : World) : Calls Try.prog 21 #[.int .u8 k] w fun e w' => e = .returned (.bool true) ∧ w' = w := by
  have d1 : decide (1 ≤ k) = true := by simpa using h.1
  have d2 : decide (k ≤ 7) = true := by simpa using h.2
  clear h
  go_enter Try.func21, Try.ntmps21
  go_wp2_with fail
  go_ret
  exact ⟨rfl, rfl⟩
theorem rIs_no {k : Int} (h : ¬ (1 ≤ k ∧ k ≤ 7)) (w : World) : Calls Try.prog 21 #[.int .u8 k] w fun e w' => e = .returned (.bool false) ∧ w' = w := by
  by_cases h1 : 1 ≤ k
  · have d1 : decide (1 ≤ k) = true := by simpa using h1
    have d2 : decide (k ≤ 7) = false := by simp; omega
    clear h h1
    go_enter Try.func21, Try.ntmps21
    go_wp2_with fail
    go_ret
    exact ⟨rfl, rfl⟩
  · have d1 : decide (1 ≤ k) = false := by simpa using h1
    clear h h1
    go_enter Try.func21, Try.ntmps21
    go_wp2_with fail
    go_ret
    exact ⟨rfl, rfl⟩
section
variable (x : BitVec 64) (w : World)
theorem rup_any : Calls Try.prog 56 #[KW x] w fun e w' => e = .returned (U (CO 1 x)) ∧ w' = w := by
  have c := up_conv x
  have d : IntKind.u64.wrap ((x.toNat : Int) + 9223372036854775808) = ((CO 1 x).toNat : Int) := by
    have h := x.isLt
    rw [IntKind.wrap_u64, CO1_val]
    rcases toInt_cases x with ⟨h1, h2⟩ | ⟨h1, h2⟩ <;> omega
  unfold KW U
  generalize ((CO 1 x).toNat : Int) = m at *
  generalize x.toInt = i at *
  generalize (x.toNat : Int) = n at *
  go_enter Try.func56, Try.ntmps56
  go_wp2_with fail
  go_ret
  exact ⟨rfl, rfl⟩
set_option maxRecDepth 100000 in
theorem rcode1_any : Calls Try.prog 22 #[.int .u8 1, KW x] w fun e w' => e = .returned (U (CO 1 x)) ∧ Ext w w' := by
  have u := fun w => rup_any x w
  unfold KW U at *
  generalize ((CO 1 x).toNat : Int) = m at *
  generalize x.toInt = i at *
  go_enter Try.func22, Try.ntmps22
  go_wp2_with fail
  refine (u _).mono ?_; rintro e w1 ⟨rfl, rfl⟩
  go_wp2_with fail
  go_ret
  exact ⟨rfl, Ext.refl _⟩
set_option maxRecDepth 100000 in
theorem rcode2_any : Calls Try.prog 22 #[.int .u8 2, KW x] w fun e w' => e = .returned (U (CO 2 x)) ∧ Ext w w' := by
  have u := fun w => rup_any x w
  have d : IntKind.u64.wrap (18446744073709551615 - ((CO 1 x).toNat : Int)) = ((CO 2 x).toNat : Int) := by
    have h := x.isLt
    rw [IntKind.wrap_u64, CO1_val, CO2_val]
    rcases toInt_cases x with ⟨h1, h2⟩ | ⟨h1, h2⟩ <;> omega
  unfold KW U at *
  generalize ((CO 1 x).toNat : Int) = m at *
  generalize ((CO 2 x).toNat : Int) = n at *
  generalize x.toInt = i at *
  go_enter Try.func22, Try.ntmps22
  go_wp2_with fail
  refine (u _).mono ?_; rintro e w1 ⟨rfl, rfl⟩
  go_wp2_with fail
  go_ret
  exact ⟨rfl, Ext.refl _⟩
set_option maxRecDepth 100000 in
theorem rcode3_any : Calls Try.prog 22 #[.int .u8 3, KW x] w fun e w' => e = .returned (U (CO 3 x)) ∧ Ext w w' := by
  have d := CO3_val x
  have hb : -9223372036854775808 ≤ x.toInt ∧ x.toInt ≤ 9223372036854775807 := by
    have h := x.isLt
    rcases toInt_cases x with ⟨h1, h2⟩ | ⟨h1, h2⟩ <;> omega
  unfold KW U at *
  generalize ((CO 3 x).toNat : Int) = m at *
  generalize x.toInt = i at *
  obtain ⟨hb1, hb2⟩ := hb
  by_cases h : i < 0
  · rw [if_pos h] at d
    have HD := Lib.hid d
    clear d
    go_enter Try.func22, Try.ntmps22
    go_wp2_with fail
    go_ret
    have d := HD.out
    obtain rfl : m = -(i + 1) * 2 + 1 := by omega
    exact ⟨rfl, Ext.refl _⟩
  · rw [if_neg h] at d
    have HD := Lib.hid d
    clear d
    go_enter Try.func22, Try.ntmps22
    go_wp2_with fail
    go_ret
    have d := HD.out
    obtain rfl : m = i * 2 := by omega
    exact ⟨rfl, Ext.refl _⟩
set_option maxRecDepth 100000 in
theorem rcode4_any : Calls Try.prog 22 #[.int .u8 4, KW x] w fun e w' => e = .returned (U (CO 4 x)) ∧ Ext w w' := by
  have c := up_conv x
  have r : ∀ W : World, Calls Try.prog 57 #[U x] W fun e w' => e = .returned (U (CO 4 x)) ∧ Ext W w' := fun W => refFlip_any x W
  unfold KW U at *
  generalize ((CO 4 x).toNat : Int) = m at *
  generalize x.toInt = i at *
  generalize (x.toNat : Int) = n at *
  go_enter Try.func22, Try.ntmps22
  go_wp2_with fail
  refine (r _).mono ?_; rintro e w1 ⟨rfl, x1⟩
  go_wp2_with fail
  go_ret
  exact ⟨rfl, x1⟩
set_option maxRecDepth 100000 in
theorem rcode5_core {i n p q : Int} {w : World} (c : IntKind.u64.wrap i = n) (n1 : 0 ≤ n) (n2 : n < 18446744073709551616) (p1 : 0 ≤ p) (p2 : p < 18446744073709551616) (hq : (n % 2 = 1 ∧ q = p / 2 + 9223372036854775808 ∧ q < 18446744073709551616) ∨ (¬ n % 2 = 1 ∧ q = p / 2))
    (u : ∀ w : World, Calls Try.prog 56 #[.int .i64 i] w fun e w' => e = .returned (.int .u64 p) ∧ w' = w) :
    Calls Try.prog 22 #[.int .u8 5, .int .i64 i] w fun e w' => e = .returned (.int .u64 q) ∧ Ext w w' := by
  rcases hq with ⟨h, rfl, h2⟩ | ⟨h, rfl⟩
  · have b1 : n.tmod 2 = 1 := by rw [Int.tmod_eq_emod_of_nonneg n1]; exact h
    go_enter Try.func22, Try.ntmps22
    go_wp2_with fail
    refine (u _).mono ?_; rintro e w1 ⟨rfl, rfl⟩
    go_wp2_with fail
    go_ret
    exact ⟨rfl, Ext.refl _⟩
  · have b1 : ¬ n.tmod 2 = 1 := by rw [Int.tmod_eq_emod_of_nonneg n1]; exact h
    go_enter Try.func22, Try.ntmps22
    go_wp2_with fail
    refine (u _).mono ?_; rintro e w1 ⟨rfl, rfl⟩
    go_wp2_with fail
    go_ret
    exact ⟨rfl, Ext.refl _⟩
theorem rcode5_any : Calls Try.prog 22 #[.int .u8 5, KW x] w fun e w' => e = .returned (U (CO 5 x)) ∧ Ext w w' := by
  have hn := x.isLt
  have e1 := CO1_val x
  have e5 := CO5_val x
  have hu := (CO 1 x).isLt
  have h5 := (CO 5 x).isLt
  refine rcode5_core (up_conv x) (Int.natCast_nonneg _) (by omega) (Int.natCast_nonneg (CO 1 x).toNat) (by omega) ?_ (fun w => rup_any x w)
  rcases toInt_cases x with ⟨h1, h2⟩ | ⟨h1, h2⟩ <;> omega
set_option maxRecDepth 100000 in
theorem rcode6_any : Calls Try.prog 22 #[.int .u8 6, KW x] w fun e w' => e = .returned (U (CO 6 x)) ∧ Ext w w' := by
  have u := fun w => rup_any x w
  have r : ∀ W : World, Calls Try.prog 58 #[U (CO 1 x), .int .i64 32] W fun e w' => e = .returned (U (CO 6 x)) ∧ Ext W w' := fun W => refTurn_any (CO 1 x) 32 W
  unfold KW U at *
  generalize ((CO 1 x).toNat : Int) = m at *
  generalize ((CO 6 x).toNat : Int) = n at *
  generalize x.toInt = i at *
  go_enter Try.func22, Try.ntmps22
  go_wp2_with fail
  refine (u _).mono ?_; rintro e w1 ⟨rfl, rfl⟩
  go_wp2_with fail
  refine (r _).mono ?_; rintro e w1 ⟨rfl, x1⟩
  go_wp2_with fail
  go_ret
  exact ⟨rfl, x1⟩
set_option maxRecDepth 100000 in
theorem rcode7_any : Calls Try.prog 22 #[.int .u8 7, KW x] w fun e w' => e = .returned (U (CO 7 x)) ∧ Ext w w' := by
  have c := up_conv x
  have r : ∀ W : World, Calls Try.prog 59 #[U x] W fun e w' => e = .returned (U (CO 7 x)) ∧ Ext W w' := fun W => refMix_any x W
  unfold KW U at *
  generalize ((CO 7 x).toNat : Int) = m at *
  generalize x.toInt = i at *
  generalize (x.toNat : Int) = n at *
  go_enter Try.func22, Try.ntmps22
  go_wp2_with fail
  refine (r _).mono ?_; rintro e w1 ⟨rfl, x1⟩
  go_wp2_with fail
  go_ret
  exact ⟨rfl, x1⟩
end
theorem rcode_o (o : Nat) (h1 : 1 ≤ o) (h2 : o ≤ 7) (x : BitVec 64) (w : World) : Calls Try.prog 22 #[.int .u8 (o : Int), KW x] w fun e w' => e = .returned (U (CO o x)) ∧ Ext w w' := by
  match o, h1, h2 with
  | 1, _, _ => exact rcode1_any x w
  | 2, _, _ => exact rcode2_any x w
  | 3, _, _ => exact rcode3_any x w
  | 4, _, _ => exact rcode4_any x w
  | 5, _, _ => exact rcode5_any x w
  | 6, _, _ => exact rcode6_any x w
  | 7, _, _ => exact rcode7_any x w
set_option maxHeartbeats 1000000 in
theorem rcmp_o (o : Nat) (h1 : 1 ≤ o) (h2 : o ≤ 7) (x y : BitVec 64) (w : World) : Calls Try.prog 16 #[.int .u8 (o : Int), KW x, KW y] w fun e w' => e = .returned (.int .i64 (cmpI (CO o x).toNat (CO o y).toNat)) ∧ Ext w w' := by
  have is := fun w => rIs_yes (k := o) ⟨by omega, by omega⟩ w
  have ca := fun w => rcode_o o h1 h2 x w
  have cb := fun w => rcode_o o h1 h2 y w
  unfold KW U at *
  generalize ((CO o x).toNat : Int) = m at *
  generalize ((CO o y).toNat : Int) = n at *
  generalize x.toInt = i at *
  generalize y.toInt = j at *
  generalize (o : Int) = q at *
  clear h1 h2
  have z := Ext.refl w
  rcases Int.lt_trichotomy m n with h | h | h
  · have hr : cmpI m n = -1 := by unfold cmpI; rw [if_pos h]
    rw [hr]
    have d1 : decide (m < n) = true := by simpa using h
    have d2 : (m == n) = false := by simp; omega
    clear h hr
    go_enter Try.func16, Try.ntmps16
    go_wp2_with fail
    refine (is _).mono ?_; rintro e w1 ⟨rfl, rfl⟩
    go_wp2_with fail
    refine (ca _).mono ?_; rintro e w1 ⟨rfl, x1⟩
    have z := Ext.trans z x1
    go_wp2_with fail
    refine (cb _).mono ?_; rintro e w2 ⟨rfl, x2⟩
    have z := Ext.trans z x2
    go_wp2_with fail
    refine (ca _).mono ?_; rintro e w3 ⟨rfl, x3⟩
    have z := Ext.trans z x3
    go_wp2_with fail
    refine (cb _).mono ?_; rintro e w4 ⟨rfl, x4⟩
    have z := Ext.trans z x4
    go_wp2_with fail
    go_ret
    exact ⟨rfl, z⟩
  · subst h
    have hr : cmpI m m = 0 := by unfold cmpI; rw [if_neg (by omega), if_neg (by omega)]
    rw [hr]
    have d2 : (m == m) = true := by simp
    clear hr
    go_enter Try.func16, Try.ntmps16
    go_wp2_with fail
    refine (is _).mono ?_; rintro e w1 ⟨rfl, rfl⟩
    go_wp2_with fail
    refine (ca _).mono ?_; rintro e w1 ⟨rfl, x1⟩
    have z := Ext.trans z x1
    go_wp2_with fail
    refine (cb _).mono ?_; rintro e w2 ⟨rfl, x2⟩
    have z := Ext.trans z x2
    go_wp2_with fail
    go_ret
    exact ⟨rfl, z⟩
  · have hr : cmpI m n = 1 := by unfold cmpI; rw [if_neg (by omega), if_pos h]
    rw [hr]
    have d1 : decide (m < n) = false := by simp; omega
    have d2 : (m == n) = false := by simp; omega
    clear h hr
    go_enter Try.func16, Try.ntmps16
    go_wp2_with fail
    refine (is _).mono ?_; rintro e w1 ⟨rfl, rfl⟩
    go_wp2_with fail
    refine (ca _).mono ?_; rintro e w1 ⟨rfl, x1⟩
    have z := Ext.trans z x1
    go_wp2_with fail
    refine (cb _).mono ?_; rintro e w2 ⟨rfl, x2⟩
    have z := Ext.trans z x2
    go_wp2_with fail
    refine (ca _).mono ?_; rintro e w3 ⟨rfl, x3⟩
    have z := Ext.trans z x3
    go_wp2_with fail
    refine (cb _).mono ?_; rintro e w4 ⟨rfl, x4⟩
    have z := Ext.trans z x4
    go_wp2_with fail
    go_ret
    exact ⟨rfl, z⟩
theorem rcmp_no {k : Int} (h : ¬ (1 ≤ k ∧ k ≤ 7)) (a b : Int) (w : World) : Calls Try.prog 16 #[.int .u8 k, .int .i64 a, .int .i64 b] w fun e w' => e = .returned (.int .i64 0) ∧ Ext w w' := by
  have is := fun w => rIs_no h w
  clear h
  go_enter Try.func16, Try.ntmps16
  go_wp2_with fail
  refine (is _).mono ?_; rintro e w1 ⟨rfl, rfl⟩
  go_wp2_with fail
  go_ret
  exact ⟨rfl, Ext.refl _⟩
/- package order's own, of no order -/
theorem compare_no {k : Int} (h : ¬ (1 ≤ k ∧ k ≤ 7)) (a b : Int) (w : World) : Calls Try.prog 15 #[.int .u8 k, .int .i64 a, .int .i64 b] w fun e w' => e = .returned (.int .i64 0) ∧ Ext w w' := by
  have c := fun n w => code_no h n w
  clear h
  go_enter Try.func15, Try.ntmps15
  go_wp2_with fail
  refine (c _ _).mono ?_; rintro e w1 ⟨rfl, x1⟩
  go_wp2_with fail
  refine (c _ _).mono ?_; rintro e w2 ⟨rfl, x2⟩
  go_wp2_with fail
  go_ret
  exact ⟨rfl, x1.trans x2⟩
set_option maxRecDepth 100000 in
theorem name_no {k : Int} (h : ¬ (1 ≤ k ∧ k ≤ 7)) (w : World) : Calls Try.prog 17 #[.int .u8 k] w fun e w' => e = .returned (.string (nmB 0)) ∧ Ext w w' := by
  have hk := fun w => kinds_any w
  have hl := look_no w k false (find_no h)
  have hn := kind_name
  simp only [Bool.false_eq_true, if_false] at hl
  unfold nmB
  clear h
  go_enter Try.func17, Try.ntmps17
  go_wp2_with fail
  refine (hk _).mono ?_; rintro e w1 ⟨rfl, rfl⟩
  go_wp2_with fail
  go_ret
  exact ⟨rfl, (Ext.refl w).alloc _⟩
theorem rname1_any (w : World) : Calls Try.prog 18 #[.int .u8 1] w fun e w' => e = .returned (.string (nmB 1)) ∧ w' = w := by
  unfold nmB
  go_enter Try.func18, Try.ntmps18
  go_wp2_with fail
  go_ret
  exact ⟨rfl, rfl⟩
theorem rname2_any (w : World) : Calls Try.prog 18 #[.int .u8 2] w fun e w' => e = .returned (.string (nmB 2)) ∧ w' = w := by
  unfold nmB
  go_enter Try.func18, Try.ntmps18
  go_wp2_with fail
  go_ret
  exact ⟨rfl, rfl⟩
theorem rname3_any (w : World) : Calls Try.prog 18 #[.int .u8 3] w fun e w' => e = .returned (.string (nmB 3)) ∧ w' = w := by
  unfold nmB
  go_enter Try.func18, Try.ntmps18
  go_wp2_with fail
  go_ret
  exact ⟨rfl, rfl⟩
theorem rname4_any (w : World) : Calls Try.prog 18 #[.int .u8 4] w fun e w' => e = .returned (.string (nmB 4)) ∧ w' = w := by
  unfold nmB
  go_enter Try.func18, Try.ntmps18
  go_wp2_with fail
  go_ret
  exact ⟨rfl, rfl⟩
theorem rname5_any (w : World) : Calls Try.prog 18 #[.int .u8 5] w fun e w' => e = .returned (.string (nmB 5)) ∧ w' = w := by
  unfold nmB
  go_enter Try.func18, Try.ntmps18
  go_wp2_with fail
  go_ret
  exact ⟨rfl, rfl⟩
theorem rname6_any (w : World) : Calls Try.prog 18 #[.int .u8 6] w fun e w' => e = .returned (.string (nmB 6)) ∧ w' = w := by
  unfold nmB
  go_enter Try.func18, Try.ntmps18
  go_wp2_with fail
  go_ret
  exact ⟨rfl, rfl⟩
theorem rname7_any (w : World) : Calls Try.prog 18 #[.int .u8 7] w fun e w' => e = .returned (.string (nmB 7)) ∧ w' = w := by
  unfold nmB
  go_enter Try.func18, Try.ntmps18
  go_wp2_with fail
  go_ret
  exact ⟨rfl, rfl⟩
theorem rname_o (o : Nat) (h1 : 1 ≤ o) (h2 : o ≤ 7) (w : World) : Calls Try.prog 18 #[.int .u8 (o : Int)] w fun e w' => e = .returned (.string (nmB o)) ∧ w' = w := by
  match o, h1, h2 with
  | 1, _, _ => exact rname1_any w
  | 2, _, _ => exact rname2_any w
  | 3, _, _ => exact rname3_any w
  | 4, _, _ => exact rname4_any w
  | 5, _, _ => exact rname5_any w
  | 6, _, _ => exact rname6_any w
  | 7, _, _ => exact rname7_any w
theorem rname_no {k : Int} (h : ¬ (1 ≤ k ∧ k ≤ 7)) (w : World) : Calls Try.prog 18 #[.int .u8 k] w fun e w' => e = .returned (.string (nmB 0)) ∧ w' = w := by
  have b1 : (k == 1) = false := by simp; omega
  have b2 : (k == 2) = false := by simp; omega
  have b3 : (k == 3) = false := by simp; omega
  have b4 : (k == 4) = false := by simp; omega
  have b5 : (k == 5) = false := by simp; omega
  have b6 : (k == 6) = false := by simp; omega
  have b7 : (k == 7) = false := by simp; omega
  clear h
  unfold nmB
  go_enter Try.func18, Try.ntmps18
  go_wp2_with fail
  go_ret
  exact ⟨rfl, rfl⟩
set_option maxHeartbeats 2000000 in
theorem rOf_any (s : ByteArray) (w : World) : Calls Try.prog 20 #[.string s] w fun e w' => e = .returned (.int .u8 (ofN s : Int)) ∧ Ext w w' := by
  go_enter Try.func20, Try.ntmps20
  go_wp2_with fail
  go_loopw [2, 3] (fun o i wr => ∃ j : Nat, 1 ≤ j ∧ j ≤ 8 ∧ i = .int .u8 (j : Int) ∧ o = .int .u8 0 ∧ (∀ i, 1 ≤ i → i < j → (nmB i == s) = false) ∧ Ext w wr) (fun _ i _ => 8 - (intOf i).toNat)
  case atStart => exact ⟨1, Nat.le_refl _, by omega, rfl, rfl, fun i h1 h2 => by omega, Ext.refl w⟩
  case round =>
    obtain ⟨j, h1, h2, rfl, rfl, hn, hx⟩ := hrel
    have HN := Lib.hid hn
    have HX := Lib.hid hx
    clear hn hx
    by_cases hj : j ≤ 7
    · have nm := fun w => rname_o j h1 hj w
      have hj2 : (j : Int) ≤ 7 := by omega
      cases hb : (nmB j == s) with
      | true =>
        have hr := ofN_hit h1 hj HN.out hb
        have HR := Lib.hid hr
        have hb2 : ((nmB j).toList == s.toList) = true := by rw [list_beq]; exact hb
        clear hr hb
        go_wp2_with fail
        refine (nm _).mono ?_; rintro e w1 ⟨rfl, rfl⟩
        go_wp2_with fail
        go_ret
        exact ⟨by rw [HR.out]; rfl, HX.out⟩
      | false =>
        have HF := Lib.hid (show ∀ i, 1 ≤ i → i < j + 1 → (nmB i == s) = false from fun i k1 k2 => by
          rcases Nat.lt_or_ge i j with h | h
          · exact HN.out i k1 h
          · obtain rfl : i = j := by omega
            exact hb)
        have hb2 : ((nmB j).toList == s.toList) = false := by rw [list_beq]; exact hb
        clear hb
        go_wp2_with fail
        refine (nm _).mono ?_; rintro e w1 ⟨rfl, rfl⟩
        go_wp2_with fail
        exact ⟨⟨j + 1, by omega, by omega, by go_num, rfl, HF.out, HX.out⟩, by simp [intOf]; omega⟩
    · obtain rfl : j = 8 := by omega
      have HR := Lib.hid (ofN_none HN.out)
      go_wp2_with fail
      go_ret
      exact ⟨by rw [HR.out]; rfl, HX.out⟩
end Go.Proofs.Ytphpaaaaifpidaa
