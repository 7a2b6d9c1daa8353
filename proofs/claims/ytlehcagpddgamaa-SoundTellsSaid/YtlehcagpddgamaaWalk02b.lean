/- The statement OrderRows. -/
import Derived.Test.YtlehcagpddgamaaWalk02
namespace Go.Proofs.Ytlehcagpddgamaa
open Go.RowKit

theorem cmp_three (a b : Int) : cmpI a b = -1 ∨ cmpI a b = 0 ∨ cmpI a b = 1 := by
  unfold cmpI
  split
  · exact .inl rfl
  · split
    · exact .inr (.inr rfl)
    · exact .inr (.inl rfl)
theorem cmp_zero (a b : Int) : cmpI a b = 0 ↔ a = b := by
  unfold cmpI
  split
  · constructor <;> intro h <;> omega
  · split
    · constructor <;> intro h <;> omega
    · constructor <;> intro h <;> omega
theorem cmp_turn (a b : Int) : cmpI b a = -cmpI a b := by
  unfold cmpI
  split <;> split <;> (try split) <;> omega
theorem cmp_row (a b c : Int) : 0 < cmpI a b ∨ 0 < cmpI b c ∨ cmpI a c = min (cmpI a b) (cmpI b c) := by
  unfold cmpI
  split <;> split <;> split <;> (try split) <;> (try split) <;> (try split) <;> omega
theorem CO_inj {o : Nat} (h : o ≤ 7) {x y : BitVec 64} : ((CO o x).toNat : Int) = (CO o y).toNat ↔ x = y := by
  constructor
  · intro e
    have e2 : CO o x = CO o y := BitVec.eq_of_toNat_eq (by omega)
    have := congrArg (KO o) e2
    rwa [KO_CO o h, KO_CO o h] at this
  · intro e; rw [e]

set_option maxRecDepth 100000 in
set_option maxHeartbeats 8000000 in
theorem orderRows_core {o a b c xi yi zi vi : Int} {q : Nat} {w : World} (ht : o.tmod 7 = (q : Int)) (he : o % 7 = (q : Int)) (hq6 : (q : Int) ≤ 6)
    (X : ∀ W : World, Calls Try.prog 97 #[.int .u8 (1 + (q : Int)), .int .i64 a, .int .i64 b] W fun e w' => e = .returned (.int .i64 xi) ∧ Ext W w')
    (Y : ∀ W : World, Calls Try.prog 97 #[.int .u8 (1 + (q : Int)), .int .i64 b, .int .i64 c] W fun e w' => e = .returned (.int .i64 yi) ∧ Ext W w')
    (Z : ∀ W : World, Calls Try.prog 97 #[.int .u8 (1 + (q : Int)), .int .i64 a, .int .i64 c] W fun e w' => e = .returned (.int .i64 zi) ∧ Ext W w')
    (V : ∀ W : World, Calls Try.prog 97 #[.int .u8 (1 + (q : Int)), .int .i64 b, .int .i64 a] W fun e w' => e = .returned (.int .i64 vi) ∧ Ext W w')
    (hx : xi = -1 ∨ xi = 0 ∨ xi = 1) (hy : yi = -1 ∨ yi = 0 ∨ yi = 1) (hz : zi = -1 ∨ zi = 0 ∨ zi = 1) (hab : a = b ↔ xi = 0) (hlaw : 0 < xi ∨ 0 < yi ∨ zi = min xi yi) (hv : vi = -1 ∨ vi = 0 ∨ vi = 1) (hvx : vi = -xi) :
    Calls Try.prog 23 #[.int .u8 o, .int .i64 a, .int .i64 b, .int .i64 c] w fun e w' => e = .returned (.bool true) ∧ Ext w w' := by
  have z := Ext.refl w
  have hq7 := hq6
  clear hq6
  rcases hx with rfl | rfl | rfl <;> rcases hy with rfl | rfl | rfl <;> rcases hz with rfl | rfl | rfl <;> first | (exact absurd hlaw (by decide)) | (rcases hv with rfl | rfl | rfl <;> first | (exact absurd hvx (by decide)) | skip)
  all_goals
    clear hlaw hvx
    first
      | (obtain rfl := hab.2 rfl; clear hab)
      | (have eb : (a == b) = false := by (have h := mt hab.1 (by decide)); simpa using h
         clear hab)
    go_enter Try.func23, Try.ntmps23
    go_wp2_with fail
    refine (X _).mono ?_; rintro e w1 ⟨rfl, x1⟩
    have z := Ext.trans z x1
    go_wp2_with fail
    refine (Y _).mono ?_; rintro e w2 ⟨rfl, x2⟩
    have z := Ext.trans z x2
    go_wp2_with fail
    refine (Z _).mono ?_; rintro e w3 ⟨rfl, x3⟩
    have z := Ext.trans z x3
    go_wp2_with fail
    refine (V _).mono ?_; rintro e w4 ⟨rfl, x4⟩
    have z := Ext.trans z x4
    go_wp2_with fail
    refine (alive02 _).mono ?_; rintro e w5 ⟨rfl, x5⟩
    have z := Ext.trans z x5
    go_wp2_with fail
    go_ret
    exact ⟨rfl, z⟩
theorem orderRows_walk {o a b c : Int} {w : World} (wo : (Lit.int .u8 o).wf = true) (wa : (Lit.int .i64 a).wf = true) (wb : (Lit.int .i64 b).wf = true) (wc : (Lit.int .i64 c).wf = true) :
    Calls Try.prog 23 #[.int .u8 o, .int .i64 a, .int .i64 b, .int .i64 c] w fun e w' => e = .returned (.bool true) ∧ Ext w w' := by
  obtain ⟨x, hx⟩ := key_word wa
  obtain ⟨y, hy⟩ := key_word wb
  obtain ⟨u, hu⟩ := key_word wc
  have ho : 0 ≤ o ∧ o ≤ 255 := by simp [Lit.wf] at wo; exact wo
  obtain ⟨q, hq, hq7⟩ : ∃ q : Nat, o % 7 = q ∧ q < 7 := ⟨(o % 7).toNat, by omega, by omega⟩
  have h1 : 1 ≤ q + 1 := by omega
  have h2 : q + 1 ≤ 7 := by omega
  have hi : ((q + 1 : Nat) : Int) = 1 + (q : Int) := by omega
  refine orderRows_core (q := q) (by rw [Int.tmod_eq_emod_of_nonneg ho.1, hq]) hq (by omega) (fun W => compare_is (w := W) x y h1 h2 hi hx hy rfl) (fun W => compare_is (w := W) y u h1 h2 hi hy hu rfl) (fun W => compare_is (w := W) x u h1 h2 hi hx hu rfl)
    (fun W => compare_is (w := W) y x h1 h2 hi hy hx rfl) (cmp_three _ _) (cmp_three _ _) (cmp_three _ _) ?_ (cmp_row _ _ _) (cmp_three _ _) (cmp_turn _ _)
  rw [cmp_zero, CO_inj h2, ← hx, ← hy]
  exact ⟨fun h => BitVec.eq_of_toInt_eq h, fun h => by rw [h]⟩
end Go.Proofs.Ytlehcagpddgamaa
