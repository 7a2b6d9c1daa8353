/- The statements of joinerylaw02: alive; OrderBack. -/
import Derived.Test.YtlehcagpddgamaaOrderD
namespace Go.Proofs.Ytlehcagpddgamaa
open Go.RowKit

section
variable {o : Nat} {n m i j : Int} {w : World}
theorem code_is (x : BitVec 64) (h1 : 1 ≤ o) (h2 : o ≤ 7) (hi : (o : Int) = i) (hn : x.toInt = n) (hm : ((CO o x).toNat : Int) = m) : Calls Try.prog 95 #[.int .u8 i, .int .i64 n] w fun e w' => e = .returned (.tuple #[.int .u64 m, .int .i64 0]) ∧ Ext w w' := by
  subst hi hn hm; exact code_o o h1 h2 x w
theorem key_is (x : BitVec 64) (h1 : 1 ≤ o) (h2 : o ≤ 7) (hi : (o : Int) = i) (hn : (x.toNat : Int) = n) (hm : (KO o x).toInt = m) : Calls Try.prog 96 #[.int .u8 i, .int .u64 n] w fun e w' => e = .returned (.tuple #[.int .i64 m, .int .i64 0]) ∧ Ext w w' := by
  subst hi hn hm; exact key_o o h1 h2 x w
theorem compare_is (x y : BitVec 64) (h1 : 1 ≤ o) (h2 : o ≤ 7) (hi : (o : Int) = i) (hn : x.toInt = n) (hj : y.toInt = j) (hm : cmpI (CO o x).toNat (CO o y).toNat = m) : Calls Try.prog 97 #[.int .u8 i, .int .i64 n, .int .i64 j] w fun e w' => e = .returned (.int .i64 m) ∧ Ext w w' := by
  subst hi hn hj hm; exact compare_o o h1 h2 x y w
theorem orderOf_is {s : ByteArray} (hm : ((ofN s : Nat) : Int) = m) : Calls Try.prog 101 #[.string s] w fun e w' => e = .returned (.int .u8 m) ∧ Ext w w' := by
  subst hm; exact orderOf_any s w
end
/-- A key is a word. -/
theorem key_word {n : Int} (h : (Lit.int .i64 n).wf = true) : ∃ x : BitVec 64, x.toInt = n := by
  refine ⟨BitVec.ofInt 64 n, ?_⟩
  simp [Lit.wf, IntKind.min, IntKind.max, IntKind.bits, IntKind.signed] at h
  rcases toInt_cases (BitVec.ofInt 64 n) with ⟨h1, h2⟩ | ⟨h1, h2⟩ <;> rw [h2] <;> rw [BitVec.toNat_ofInt] at * <;> omega
theorem num_word {n : Int} (h : (Lit.int .u64 n).wf = true) : ∃ x : BitVec 64, (x.toNat : Int) = n := by
  refine ⟨BitVec.ofInt 64 n, ?_⟩
  simp [Lit.wf, IntKind.min, IntKind.max, IntKind.bits, IntKind.signed] at h
  rw [BitVec.toNat_ofInt]
  omega

set_option maxRecDepth 100000 in
set_option maxHeartbeats 4000000 in
theorem alive02 (w : World) : Calls Try.prog 94 #[] w fun e w' => e = .returned (.bool true) ∧ Ext w w' := by
  have z := Ext.refl w
  have nm := fun w => name3_any w
  unfold nmB at nm
  go_enter Try.func94, Try.ntmps94
  go_wp2_with fail
  refine (code_is (o := 1) 0#64 (m := 9223372036854775808) (by decide) (by decide) rfl (by decide) (by decide)).mono ?_; rintro e w1 ⟨rfl, x1⟩
  have z := Ext.trans z x1
  go_wp2_with fail
  refine (code_is (o := 3) 0xffffffffffffffff#64 (m := 1) (by decide) (by decide) rfl (by decide) (by decide)).mono ?_; rintro e w2 ⟨rfl, x2⟩
  have z := Ext.trans z x2
  go_wp2_with fail
  refine (code_is (o := 3) 1#64 (m := 2) (by decide) (by decide) rfl (by decide) (by decide)).mono ?_; rintro e w3 ⟨rfl, x3⟩
  have z := Ext.trans z x3
  go_wp2_with fail
  refine (key_is (o := 3) 3#64 (m := -2) (by decide) (by decide) rfl (by decide) (by decide)).mono ?_; rintro e w4 ⟨rfl, x4⟩
  have z := Ext.trans z x4
  go_wp2_with fail
  refine (code_no (k := 0) (by decide) 1 _).mono ?_; rintro e w5 ⟨rfl, x5⟩
  have z := Ext.trans z x5
  go_wp2_with fail
  refine (compare_is (o := 5) 2#64 1#64 (m := -1) (by decide) (by decide) rfl (by decide) (by decide) (by decide)).mono ?_; rintro e w6 ⟨rfl, x6⟩
  have z := Ext.trans z x6
  go_wp2_with fail
  refine (nm _).mono ?_; rintro e w7 ⟨rfl, x7⟩
  have z := Ext.trans z x7
  go_wp2_with fail
  refine (orderOf_is (m := 6) (by decide)).mono ?_; rintro e w8 ⟨rfl, x8⟩
  have z := Ext.trans z x8
  go_wp2_with fail
  go_ret
  exact ⟨rfl, z⟩

theorem back_eq {o : Nat} (h : o ≤ 7) {x c : BitVec 64} : CO o x = c ↔ KO o c = x := ⟨fun e => by rw [← e, KO_CO o h], fun e => by rw [← e, CO_KO o h]⟩
set_option maxRecDepth 100000 in
set_option maxHeartbeats 4000000 in
theorem orderBack_walk {o key code : Int} {w : World} (wo : (Lit.int .u8 o).wf = true) (wk : (Lit.int .i64 key).wf = true) (wc : (Lit.int .u64 code).wf = true) :
    Calls Try.prog 22 #[.int .u8 o, .int .i64 key, .int .u64 code] w fun e w' => e = .returned (.bool true) ∧ Ext w w' := by
  obtain ⟨x, hx⟩ := key_word wk
  obtain ⟨c, hc⟩ := num_word wc
  have ho : 0 ≤ o ∧ o ≤ 255 := by simp [Lit.wf] at wo; exact wo
  clear wo wk wc
  obtain ⟨q, hq, hq7⟩ : ∃ q : Nat, o % 7 = q ∧ q < 7 := ⟨(o % 7).toNat, by omega, by omega⟩
  have h1 : 1 ≤ q + 1 := by omega
  have h2 : q + 1 ≤ 7 := by omega
  have ht : o.tmod 7 = q := by rw [Int.tmod_eq_emod_of_nonneg ho.1, hq]
  generalize hm : ((CO (q + 1) x).toNat : Int) = m
  generalize hj : (KO (q + 1) c).toInt = j
  have hcase : (m = code ∧ j = key) ∨ (¬ m = code ∧ ¬ j = key) := by
    by_cases h : CO (q + 1) x = c
    · have h3 := (back_eq h2).1 h
      left
      exact ⟨by rw [← hm, h, hc], by rw [← hj, h3, hx]⟩
    · have h3 := mt (back_eq h2).2 h
      right
      refine ⟨fun e => h (BitVec.eq_of_toNat_eq (by omega)), fun e => h3 (BitVec.eq_of_toInt_eq (by rw [hj, hx, e]))⟩
  have A := fun (W : World) => code_is (o := q + 1) (i := 1 + (q : Int)) (w := W) x h1 h2 (by omega) hx hm
  have B := fun (W : World) => key_is (o := q + 1) (i := 1 + (q : Int)) (m := key) (w := W) (CO (q + 1) x) h1 h2 (by omega) hm (by rw [KO_CO _ h2]; exact hx)
  have C := fun (W : World) => key_is (o := q + 1) (i := 1 + (q : Int)) (w := W) c h1 h2 (by omega) hc hj
  have D := fun (W : World) => code_is (o := q + 1) (i := 1 + (q : Int)) (m := code) (w := W) (KO (q + 1) c) h1 h2 (by omega) hj (by rw [CO_KO _ h2]; exact hc)
  have z := Ext.refl w
  have hq8 : (q : Int) ≤ 6 := by omega
  clear hx hc hm hj h1 h2 ho
  rcases hcase with ⟨rfl, rfl⟩ | ⟨n1, n2⟩
  · go_enter Try.func22, Try.ntmps22
    go_wp2_with fail
    refine (A _).mono ?_; rintro e w1 ⟨rfl, x1⟩
    have z := Ext.trans z x1
    go_wp2_with fail
    refine (B _).mono ?_; rintro e w2 ⟨rfl, x2⟩
    have z := Ext.trans z x2
    go_wp2_with fail
    refine (C _).mono ?_; rintro e w3 ⟨rfl, x3⟩
    have z := Ext.trans z x3
    go_wp2_with fail
    refine (D _).mono ?_; rintro e w4 ⟨rfl, x4⟩
    have z := Ext.trans z x4
    go_wp2_with fail
    refine (alive02 _).mono ?_; rintro e w5 ⟨rfl, x5⟩
    have z := Ext.trans z x5
    go_wp2_with fail
    go_ret
    exact ⟨rfl, z⟩
  · have b1 : (m == code) = false := by simpa using n1
    have b2 : (j == key) = false := by simpa using n2
    clear n1 n2
    go_enter Try.func22, Try.ntmps22
    go_wp2_with fail
    refine (A _).mono ?_; rintro e w1 ⟨rfl, x1⟩
    have z := Ext.trans z x1
    go_wp2_with fail
    refine (B _).mono ?_; rintro e w2 ⟨rfl, x2⟩
    have z := Ext.trans z x2
    go_wp2_with fail
    refine (C _).mono ?_; rintro e w3 ⟨rfl, x3⟩
    have z := Ext.trans z x3
    go_wp2_with fail
    refine (D _).mono ?_; rintro e w4 ⟨rfl, x4⟩
    have z := Ext.trans z x4
    go_wp2_with fail
    refine (alive02 _).mono ?_; rintro e w5 ⟨rfl, x5⟩
    have z := Ext.trans z x5
    go_wp2_with fail
    go_ret
    exact ⟨rfl, z⟩
end Go.Proofs.Ytlehcagpddgamaa
