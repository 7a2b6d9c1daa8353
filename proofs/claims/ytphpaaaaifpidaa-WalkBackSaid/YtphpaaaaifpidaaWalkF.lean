/- Package walk: Go, Copy, First, Last. -/
import Derived.Test.YtphpaaaaifpidaaWalkE
namespace Go.Proofs.Ytphpaaaaifpidaa
open Go.RowKit
set_option linter.unusedVariables false

theorem clamp_in {n : Nat} {p : Int} (h : -1 ≤ p ∧ p ≤ n) : clampI n p = p := by
  unfold clampI; rw [if_neg (by omega), if_neg (by omega)]
theorem clamp_range (n : Nat) (p : Int) : -1 ≤ clampI n p ∧ clampI n p ≤ n := by
  unfold clampI; split
  · omega
  · split <;> omega
theorem clamp_right {n : Nat} {p k : Int} (h : -1 ≤ p ∧ p ≤ n) (hk : 0 < k) : clampI n (moveI n true p + (k - 1)) = clampI n (p + k) := by
  unfold moveI clampI
  simp only [if_true]
  split
  · rw [show p + 1 + (k - 1) = p + k from by omega]
  · repeat' split
    all_goals omega
theorem clamp_left {n : Nat} {p k : Int} (h : -1 ≤ p ∧ p ≤ n) (hk : k < 0) : clampI n (moveI n false p + (k + 1)) = clampI n (p + k) := by
  unfold moveI clampI
  simp only [Bool.false_eq_true, if_false]
  split
  · rw [show p - 1 + (k + 1) = p + k from by omega]
  · repeat' split
    all_goals omega
theorem clamp_stay_r {n : Nat} {p k : Int} (h : -1 ≤ p ∧ p ≤ n) (hk : 0 < k) (hs : moveI n true p = p) : clampI n (p + k) = p := by
  unfold moveI at hs
  unfold clampI
  simp only [if_true] at hs
  split at hs
  · omega
  · repeat' split
    all_goals omega
theorem clamp_stay_l {n : Nat} {p k : Int} (h : -1 ≤ p ∧ p ≤ n) (hk : k < 0) (hs : moveI n false p = p) : clampI n (p + k) = p := by
  unfold moveI at hs
  unfold clampI
  simp only [Bool.false_eq_true, if_false] at hs
  split at hs
  · omega
  · repeat' split
    all_goals omega
section
variable {P : Nat → Prop} {a : A} {p : Int} {w : World} {B : Nat}
set_option maxRecDepth 100000 in
set_option maxHeartbeats 8000000 in
theorem go_any {k : Int} (hk : Wks P w B a p) (ha : AP P w a) (hP : ∀ b, P b → b < w.heap.size) (hm : a.size ≤ 100000) (hr : InR k) :
    Calls Try.prog 30 #[.pointer (some ⟨B, 0, none⟩), .int .i64 k] w fun e w' => e = .returned (.int .i64 0) ∧ Wks P w' B a (clampI a.size (p + k)) ∧ Keep P w w' := by
  have q := eql_walk B
  have HP := Lib.hid hP
  have HM := Lib.hid hm
  have HA := Lib.hid ha
  clear hP hm ha
  go_enter Try.func30, Try.ntmps30
  go_wp2_with fail
  go_loopw [1] (fun n wr => ∃ (m pp : Int), n = .int .i64 m ∧ InR m ∧ Wks P wr B a pp ∧ Keep P w wr ∧ clampI a.size (pp + m) = clampI a.size (p + k)) (fun n _ => (intOf n).natAbs)
  case atStart => exact ⟨k, p, rfl, hr, hk, Keep.refl P w, rfl⟩
  case round =>
    clear hk hr
    obtain ⟨m, pp, rfl, hm, hw, hkp, hc⟩ := hrel
    have HC := Lib.hid hc
    have HK := Lib.hid hkp
    have HW := Lib.hid hw
    have HI := Lib.hid hm
    have GO := fun d => Lib.hid (goes_any d hw (HA.out.keep hkp) (fun b hb => Nat.lt_of_lt_of_le (HP.out b hb) hkp.size) HM.out)
    have hrg := hw.range
    obtain ⟨hm1, hm2⟩ := hm
    obtain ⟨s, hs, hwk⟩ := hw
    obtain ⟨AA, c, c0, c1, c2, ff, hBl⟩ := hwk.cells
    have HR := Lib.hid hrg
    clear hc hkp hwk hs ff c0 c1 hrg
    by_cases h0 : m = 0
    · subst h0
      have hw := HW.out
      have hcc := HC.out
      rw [Int.add_zero, clamp_in HR.out] at hcc
      have HC2 := Lib.hid hcc
      clear hw hcc
      go_wp2_with fail
      go_ret
      exact ⟨rfl, by rw [← HC2.out]; exact HW.out, HK.out⟩
    · have h1 : (m != 0) = true := by simpa using h0
      by_cases hp : 0 < m
      · have G := (GO true)
        have E1 := Lib.hid (clamp_right HR.out hp)
        have E2 := Lib.hid (fun h => clamp_stay_r (n := a.size) (p := pp) (k := m) HR.out hp h)
        generalize (decide (0 ≤ moveI a.size true pp ∧ moveI a.size true pp < a.size) && decide (moveI a.size true pp ≠ pp)) = r at G
        generalize moveI a.size true pp = p2 at *
        clear GO
        go_wp2_with fail
        refine G.out.mono ?_; rintro e w1 ⟨rfl, h1, h2⟩
        have W1 := Lib.hid h1
        obtain ⟨s, hs, hwk⟩ := h1
        obtain ⟨AA, c, c0, c1, c2, ff, hBl⟩ := hwk.cells
        clear hwk hs ff c0 c1
        by_cases he : p2 = pp
        · subst he
          have E3 := Lib.hid (E2.out rfl)
          clear E1 E2 hp
          go_wp2_with fail
          go_ret
          refine ⟨rfl, ?_, HK.out.trans h2⟩
          rw [← HC.out, E3.out]
          exact W1.out
        · have h3 : (p2 == pp) = false := by simpa using he
          go_wp2_with fail
          refine ⟨⟨m - 1, p2, by go_num, by unfold InR; omega, W1.out, HK.out.trans h2, by rw [← HC.out]; exact E1.out⟩, by simp only [intOf]; omega⟩
      · have hp' : m < 0 := by omega
        have G := (GO false)
        have E1 := Lib.hid (clamp_left HR.out hp')
        have E2 := Lib.hid (fun h => clamp_stay_l (n := a.size) (p := pp) (k := m) HR.out hp' h)
        generalize (decide (0 ≤ moveI a.size false pp ∧ moveI a.size false pp < a.size) && decide (moveI a.size false pp ≠ pp)) = r at G
        generalize moveI a.size false pp = p2 at *
        clear GO
        go_wp2_with fail
        refine G.out.mono ?_; rintro e w1 ⟨rfl, h1, h2⟩
        have W1 := Lib.hid h1
        obtain ⟨s, hs, hwk⟩ := h1
        obtain ⟨AA, c, c0, c1, c2, ff, hBl⟩ := hwk.cells
        clear hwk hs ff c0 c1
        by_cases he : p2 = pp
        · subst he
          have E3 := Lib.hid (E2.out rfl)
          clear E1 E2
          go_wp2_with fail
          go_ret
          refine ⟨rfl, ?_, HK.out.trans h2⟩
          rw [← HC.out, E3.out]
          exact W1.out
        · have h3 : (p2 == pp) = false := by simpa using he
          go_wp2_with fail
          refine ⟨⟨m + 1, p2, by go_num, by unfold InR; omega, W1.out, HK.out.trans h2, by rw [← HC.out]; exact E1.out⟩, by simp only [intOf]; omega⟩
theorem go_none (k : Int) (w : World) : Calls Try.prog 30 #[.pointer none, .int .i64 k] w fun e w' => e = .returned (.int .i64 1) ∧ w' = w := by
  go_enter Try.func30, Try.ntmps30
  go_wp2_with fail
  go_ret
  exact ⟨rfl, rfl⟩
theorem here_none (w : World) : Calls Try.prog 29 #[.pointer none] w fun e w' => e = .returned (.tuple #[.agg #[.int .i64 0, .int .i64 0], .bool false]) ∧ Ext w w' := by
  go_enter Try.func29, Try.ntmps29
  go_wp2_with fail
  exact bodyPost_ret (v := .tuple #[.agg #[.int .i64 0, .int .i64 0], .bool false]) (by simp [results, Try.results29, go_sem]) rfl ⟨rfl, (Ext.refl w).alloc _⟩
theorem copy_none (w : World) : Calls Try.prog 39 #[.pointer none] w fun e w' => e = .returned (.pointer none) ∧ w' = w := by
  go_enter Try.func39, Try.ntmps39
  go_wp2_with fail
  go_ret
  exact ⟨rfl, rfl⟩
end
end Go.Proofs.Ytphpaaaaifpidaa
