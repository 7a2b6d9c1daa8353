/- Package order: Code and Key of no order; Compare, Name, Of. -/
import Derived.Test.YtphpaaaaifpidaaOrderC
namespace Go.Proofs.Ytphpaaaaifpidaa
open Go.RowKit Go.MapKept

set_option maxRecDepth 100000 in
set_option maxHeartbeats 1000000 in
theorem code_no {k : Int} (h : ¬ (1 ≤ k ∧ k ≤ 7)) (n : Int) (w : World) : Calls Try.prog 13 #[.int .u8 k, .int .i64 n] w fun e w' => e = .returned (.tuple #[.int .u64 0, .int .i64 2]) ∧ Ext w w' := by
  have hk := fun w => kinds_any w
  have hl := look_no w k true (find_no h)
  simp only [if_true] at hl
  clear h
  go_enter Try.func13, Try.ntmps13
  go_wp2_with fail
  refine (hk _).mono ?_; rintro e w1 ⟨rfl, rfl⟩
  have y := (Ext.refl w).alloc (.map kindsA 7)
  go_wp2_with fail
  go_ret2
  exact ⟨rfl, y.alloc _⟩
set_option maxRecDepth 100000 in
set_option maxHeartbeats 1000000 in
theorem key_no {k : Int} (h : ¬ (1 ≤ k ∧ k ≤ 7)) (n : Int) (w : World) : Calls Try.prog 14 #[.int .u8 k, .int .u64 n] w fun e w' => e = .returned (.tuple #[.int .i64 0, .int .i64 2]) ∧ Ext w w' := by
  have hk := fun w => kinds_any w
  have hl := look_no w k true (find_no h)
  simp only [if_true] at hl
  clear h
  go_enter Try.func14, Try.ntmps14
  go_wp2_with fail
  refine (hk _).mono ?_; rintro e w1 ⟨rfl, rfl⟩
  have y := (Ext.refl w).alloc (.map kindsA 7)
  go_wp2_with fail
  go_ret2
  exact ⟨rfl, y.alloc _⟩
theorem code_o (o : Nat) (h1 : 1 ≤ o) (h2 : o ≤ 7) (x : BitVec 64) (w : World) : Calls Try.prog 13 #[.int .u8 (o : Int), KW x] w fun e w' => e = .returned (.tuple #[U (CO o x), .int .i64 0]) ∧ Ext w w' := by
  match o, h1, h2 with
  | 1, _, _ => exact code1_any x w
  | 2, _, _ => exact code2_any x w
  | 3, _, _ => exact code3_any x w
  | 4, _, _ => exact code4_any x w
  | 5, _, _ => exact code5_any x w
  | 6, _, _ => exact code6_any x w
  | 7, _, _ => exact code7_any x w
theorem key_o (o : Nat) (h1 : 1 ≤ o) (h2 : o ≤ 7) (x : BitVec 64) (w : World) : Calls Try.prog 14 #[.int .u8 (o : Int), U x] w fun e w' => e = .returned (.tuple #[KW (KO o x), .int .i64 0]) ∧ Ext w w' := by
  match o, h1, h2 with
  | 1, _, _ => exact key1_any x w
  | 2, _, _ => exact key2_any x w
  | 3, _, _ => exact key3_any x w
  | 4, _, _ => exact key4_any x w
  | 5, _, _ => exact key5_any x w
  | 6, _, _ => exact key6_any x w
  | 7, _, _ => exact key7_any x w

/-- How two numbers stand. -/
def cmpI (a b : Int) : Int := if a < b then -1 else if b < a then 1 else 0
theorem nan_any (n : Int) (w : World) : Calls Try.prog 86 #[.int .u64 n] w fun e w' => e = .returned (.bool false) ∧ w' = w := by
  go_enter Try.func86, Try.ntmps86
  go_wp2_with fail
  go_ret
  exact ⟨rfl, rfl⟩
set_option maxHeartbeats 1000000 in
theorem cmp_any (a b : Int) (w : World) : Calls Try.prog 55 #[.int .u64 a, .int .u64 b] w fun e w' => e = .returned (.int .i64 (cmpI a b)) ∧ w' = w := by
  have na := nan_any a
  have nb := nan_any b
  by_cases h1 : a < b
  · have hr : cmpI a b = -1 := by simp [cmpI, h1]
    rw [hr]
    have d1 : decide (a < b) = true := by simpa using h1
    go_enter Try.func55, Try.ntmps55
    go_wp2_with fail
    refine (na _).mono ?_; rintro e w' ⟨rfl, rfl⟩
    go_wp2_with fail
    refine (nb _).mono ?_; rintro e w' ⟨rfl, rfl⟩
    go_wp2_with fail
    go_ret
    exact ⟨rfl, rfl⟩
  · have d1 : decide (a < b) = false := by simpa using h1
    by_cases h2 : b < a
    · have hr : cmpI a b = 1 := by simp [cmpI, h1, h2]
      rw [hr]
      have d2 : decide (b < a) = true := by simpa using h2
      go_enter Try.func55, Try.ntmps55
      go_wp2_with fail
      refine (na _).mono ?_; rintro e w' ⟨rfl, rfl⟩
      go_wp2_with fail
      refine (nb _).mono ?_; rintro e w' ⟨rfl, rfl⟩
      go_wp2_with fail
      go_ret
      exact ⟨rfl, rfl⟩
    · have hr : cmpI a b = 0 := by simp [cmpI, h1, h2]
      rw [hr]
      have d2 : decide (b < a) = false := by simpa using h2
      go_enter Try.func55, Try.ntmps55
      go_wp2_with fail
      refine (na _).mono ?_; rintro e w' ⟨rfl, rfl⟩
      go_wp2_with fail
      refine (nb _).mono ?_; rintro e w' ⟨rfl, rfl⟩
      go_wp2_with fail
      go_ret
      exact ⟨rfl, rfl⟩
set_option maxHeartbeats 1000000 in
theorem compare_o (o : Nat) (h1 : 1 ≤ o) (h2 : o ≤ 7) (x y : BitVec 64) (w : World) : Calls Try.prog 15 #[.int .u8 (o : Int), KW x, KW y] w fun e w' => e = .returned (.int .i64 (cmpI (CO o x).toNat (CO o y).toNat)) ∧ Ext w w' := by
  have ca := fun w => code_o o h1 h2 x w
  have cb := fun w => code_o o h1 h2 y w
  unfold KW U at *
  generalize ((CO o x).toNat : Int) = m at *
  generalize ((CO o y).toNat : Int) = n at *
  generalize x.toInt = i at *
  generalize y.toInt = j at *
  generalize (o : Int) = q at *
  clear h1 h2
  go_enter Try.func15, Try.ntmps15
  go_wp2_with fail
  refine (ca _).mono ?_; rintro e w1 ⟨rfl, x1⟩
  go_wp2_with fail
  refine (cb _).mono ?_; rintro e w2 ⟨rfl, x2⟩
  go_wp2_with fail
  refine (cmp_any _ _ _).mono ?_; rintro e w' ⟨rfl, rfl⟩
  go_wp2_with fail
  go_ret
  exact ⟨rfl, x1.trans x2⟩

theorem list_beq (a b : ByteArray) : (a.toList == b.toList) = (a == b) := by
  rw [Bool.eq_iff_iff, bytes_beq, beq_iff_eq]
  simp only [ByteArray.toList_eq, Array.toList_inj]
  exact ⟨fun h => ByteArray.ext h, fun h => h ▸ rfl⟩
/-- What an order is called. -/
def nmB (o : Nat) : ByteArray := match o with | 1 => ⟨#[117, 112]⟩ | 2 => ⟨#[100, 111, 119, 110]⟩ | 3 => ⟨#[115, 105, 122, 101]⟩ | 4 => ⟨#[98, 105, 116, 115]⟩ | 5 => ⟨#[101, 118, 101, 110]⟩ | 6 => ⟨#[108, 111, 119]⟩ | 7 => ⟨#[109, 105, 120]⟩ | _ => ⟨#[]⟩
theorem kind_name (a b c : Value) : ∀ w : World, (Instr.field 80 (.agg #[a, b, c]) 0).run Try.prog w = .ok a w := fun _ => by kernel_rfl
set_option maxRecDepth 100000 in
theorem name1_any (w : World) : Calls Try.prog 17 #[.int .u8 1] w fun e w' => e = .returned (.string (nmB 1)) ∧ Ext w w' := by
  have hk := fun w => kinds_any w
  have hl := look_yes w 1 0 (kv [117, 112] 68 69) false rfl
  have hn := kind_name
  simp only [kv, Bool.false_eq_true, if_false] at hl
  unfold nmB
  go_enter Try.func17, Try.ntmps17
  go_wp2_with fail
  refine (hk _).mono ?_; rintro e w1 ⟨rfl, rfl⟩
  go_wp2_with fail
  go_ret
  exact ⟨rfl, (Ext.refl w).alloc _⟩
set_option maxRecDepth 100000 in
theorem name2_any (w : World) : Calls Try.prog 17 #[.int .u8 2] w fun e w' => e = .returned (.string (nmB 2)) ∧ Ext w w' := by
  have hk := fun w => kinds_any w
  have hl := look_yes w 2 1 (kv [100, 111, 119, 110] 70 71) false rfl
  have hn := kind_name
  simp only [kv, Bool.false_eq_true, if_false] at hl
  unfold nmB
  go_enter Try.func17, Try.ntmps17
  go_wp2_with fail
  refine (hk _).mono ?_; rintro e w1 ⟨rfl, rfl⟩
  go_wp2_with fail
  go_ret
  exact ⟨rfl, (Ext.refl w).alloc _⟩
set_option maxRecDepth 100000 in
theorem name3_any (w : World) : Calls Try.prog 17 #[.int .u8 3] w fun e w' => e = .returned (.string (nmB 3)) ∧ Ext w w' := by
  have hk := fun w => kinds_any w
  have hl := look_yes w 3 2 (kv [115, 105, 122, 101] 72 73) false rfl
  have hn := kind_name
  simp only [kv, Bool.false_eq_true, if_false] at hl
  unfold nmB
  go_enter Try.func17, Try.ntmps17
  go_wp2_with fail
  refine (hk _).mono ?_; rintro e w1 ⟨rfl, rfl⟩
  go_wp2_with fail
  go_ret
  exact ⟨rfl, (Ext.refl w).alloc _⟩
set_option maxRecDepth 100000 in
theorem name4_any (w : World) : Calls Try.prog 17 #[.int .u8 4] w fun e w' => e = .returned (.string (nmB 4)) ∧ Ext w w' := by
  have hk := fun w => kinds_any w
  have hl := look_yes w 4 3 (kv [98, 105, 116, 115] 74 76) false rfl
  have hn := kind_name
  simp only [kv, Bool.false_eq_true, if_false] at hl
  unfold nmB
  go_enter Try.func17, Try.ntmps17
  go_wp2_with fail
  refine (hk _).mono ?_; rintro e w1 ⟨rfl, rfl⟩
  go_wp2_with fail
  go_ret
  exact ⟨rfl, (Ext.refl w).alloc _⟩
set_option maxRecDepth 100000 in
theorem name5_any (w : World) : Calls Try.prog 17 #[.int .u8 5] w fun e w' => e = .returned (.string (nmB 5)) ∧ Ext w w' := by
  have hk := fun w => kinds_any w
  have hl := look_yes w 5 4 (kv [101, 118, 101, 110] 77 79) false rfl
  have hn := kind_name
  simp only [kv, Bool.false_eq_true, if_false] at hl
  unfold nmB
  go_enter Try.func17, Try.ntmps17
  go_wp2_with fail
  refine (hk _).mono ?_; rintro e w1 ⟨rfl, rfl⟩
  go_wp2_with fail
  go_ret
  exact ⟨rfl, (Ext.refl w).alloc _⟩
set_option maxRecDepth 100000 in
theorem name6_any (w : World) : Calls Try.prog 17 #[.int .u8 6] w fun e w' => e = .returned (.string (nmB 6)) ∧ Ext w w' := by
  have hk := fun w => kinds_any w
  have hl := look_yes w 6 5 (kv [108, 111, 119] 80 81) false rfl
  have hn := kind_name
  simp only [kv, Bool.false_eq_true, if_false] at hl
  unfold nmB
  go_enter Try.func17, Try.ntmps17
  go_wp2_with fail
  refine (hk _).mono ?_; rintro e w1 ⟨rfl, rfl⟩
  go_wp2_with fail
  go_ret
  exact ⟨rfl, (Ext.refl w).alloc _⟩
set_option maxRecDepth 100000 in
theorem name7_any (w : World) : Calls Try.prog 17 #[.int .u8 7] w fun e w' => e = .returned (.string (nmB 7)) ∧ Ext w w' := by
  have hk := fun w => kinds_any w
  have hl := look_yes w 7 6 (kv [109, 105, 120] 82 84) false rfl
  have hn := kind_name
  simp only [kv, Bool.false_eq_true, if_false] at hl
  unfold nmB
  go_enter Try.func17, Try.ntmps17
  go_wp2_with fail
  refine (hk _).mono ?_; rintro e w1 ⟨rfl, rfl⟩
  go_wp2_with fail
  go_ret
  exact ⟨rfl, (Ext.refl w).alloc _⟩
theorem name_o (o : Nat) (h1 : 1 ≤ o) (h2 : o ≤ 7) (w : World) : Calls Try.prog 17 #[.int .u8 (o : Int)] w fun e w' => e = .returned (.string (nmB o)) ∧ Ext w w' := by
  match o, h1, h2 with
  | 1, _, _ => exact name1_any w
  | 2, _, _ => exact name2_any w
  | 3, _, _ => exact name3_any w
  | 4, _, _ => exact name4_any w
  | 5, _, _ => exact name5_any w
  | 6, _, _ => exact name6_any w
  | 7, _, _ => exact name7_any w
/-- The order of a name: the first one of those from j on. -/
def ofN (s : ByteArray) : Nat := if (nmB 1 == s) = true then 1 else if (nmB 2 == s) = true then 2 else if (nmB 3 == s) = true then 3 else if (nmB 4 == s) = true then 4 else if (nmB 5 == s) = true then 5 else if (nmB 6 == s) = true then 6 else if (nmB 7 == s) = true then 7 else 0
theorem ofN_hit {s : ByteArray} {j : Nat} (h1 : 1 ≤ j) (h2 : j ≤ 7) (hn : ∀ i, 1 ≤ i → i < j → (nmB i == s) = false) (h : (nmB j == s) = true) : ofN s = j := by
  unfold ofN
  match j, h1, h2 with
  | 1, _, _ => simp [h]
  | 2, _, _ => simp [h, hn 1 (by omega) (by omega)]
  | 3, _, _ => simp [h, hn 1 (by omega) (by omega), hn 2 (by omega) (by omega)]
  | 4, _, _ => simp [h, hn 1 (by omega) (by omega), hn 2 (by omega) (by omega), hn 3 (by omega) (by omega)]
  | 5, _, _ => simp [h, hn 1 (by omega) (by omega), hn 2 (by omega) (by omega), hn 3 (by omega) (by omega), hn 4 (by omega) (by omega)]
  | 6, _, _ => simp [h, hn 1 (by omega) (by omega), hn 2 (by omega) (by omega), hn 3 (by omega) (by omega), hn 4 (by omega) (by omega), hn 5 (by omega) (by omega)]
  | 7, _, _ => simp [h, hn 1 (by omega) (by omega), hn 2 (by omega) (by omega), hn 3 (by omega) (by omega), hn 4 (by omega) (by omega), hn 5 (by omega) (by omega), hn 6 (by omega) (by omega)]
theorem ofN_none {s : ByteArray} (hn : ∀ i, 1 ≤ i → i < 8 → (nmB i == s) = false) : ofN s = 0 := by
  unfold ofN
  simp [hn 1 (by omega) (by omega), hn 2 (by omega) (by omega), hn 3 (by omega) (by omega), hn 4 (by omega) (by omega), hn 5 (by omega) (by omega), hn 6 (by omega) (by omega), hn 7 (by omega) (by omega)]
set_option maxHeartbeats 2000000 in
theorem orderOf_any (s : ByteArray) (w : World) : Calls Try.prog 19 #[.string s] w fun e w' => e = .returned (.int .u8 (ofN s : Int)) ∧ Ext w w' := by
  go_enter Try.func19, Try.ntmps19
  go_wp2_with fail
  go_step3
  go_wp2_with fail
  go_step3
  go_wp2_with fail
  go_loopw [2, 3] (fun o i wr => ∃ j : Nat, 1 ≤ j ∧ j ≤ 8 ∧ i = .int .u8 (j : Int) ∧ o = .int .u8 0 ∧ (∀ i, 1 ≤ i → i < j → (nmB i == s) = false) ∧ Ext w wr) (fun _ i _ => 8 - (intOf i).toNat)
  case atStart => exact ⟨1, Nat.le_refl _, by omega, rfl, rfl, fun i h1 h2 => by omega, Ext.refl w⟩
  case round =>
    obtain ⟨j, h1, h2, rfl, rfl, hn, hx⟩ := hrel
    have HN := Lib.hid hn
    have HX := Lib.hid hx
    clear hn hx
    by_cases hj : j ≤ 7
    · have nm := fun w => name_o j h1 hj w
      have hj2 : (j : Int) ≤ 7 := by omega
      cases hb : (nmB j == s) with
      | true =>
        have hr := ofN_hit h1 hj HN.out hb
        have HR := Lib.hid hr
        have hb2 : ((nmB j).toList == s.toList) = true := by rw [list_beq]; exact hb
        clear hr hb
        go_wp2_with fail
        refine (nm _).mono ?_; rintro e w1 ⟨rfl, x1⟩
        go_wp2_with fail
        rw [Exit.noGoto_ret]
        go_ret
        exact ⟨by rw [HR.out]; rfl, HX.out.trans x1⟩
      | false =>
        have HF := Lib.hid (show ∀ i, 1 ≤ i → i < j + 1 → (nmB i == s) = false from fun i k1 k2 => by
          rcases Nat.lt_or_ge i j with h | h
          · exact HN.out i k1 h
          · obtain rfl : i = j := by omega
            exact hb)
        have hb2 : ((nmB j).toList == s.toList) = false := by rw [list_beq]; exact hb
        clear hb
        go_wp2_with fail
        refine (nm _).mono ?_; rintro e w1 ⟨rfl, x1⟩
        go_wp2_with fail
        exact ⟨⟨j + 1, by omega, by omega, by go_num, rfl, HF.out, HX.out.trans x1⟩, by simp [intOf]; omega⟩
    · obtain rfl : j = 8 := by omega
      have HR := Lib.hid (ofN_none HN.out)
      go_wp2_with fail
      rw [Exit.noGoto_ret]
      go_ret
      exact ⟨by rw [HR.out]; rfl, HX.out⟩
end Go.Proofs.Ytphpaaaaifpidaa
