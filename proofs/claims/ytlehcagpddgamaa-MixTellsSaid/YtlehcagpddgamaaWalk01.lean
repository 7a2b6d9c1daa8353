/- The statements of joinerylaw01: alive, and the three walks. -/
import Derived.Test.YtlehcagpddgamaaMixF
import Derived.Test.YtlehcagpddgamaaMixG
namespace Go.Proofs.Ytlehcagpddgamaa
open Go.RowKit

section
variable (x : BitVec 64) {n m : Int} {w : World}
theorem mix_is (hn : (x.toNat : Int) = n) (hm : ((mixB x).toNat : Int) = m) : Calls Try.prog 43 #[.int .u64 n] w fun e w' => e = .returned (.int .u64 m) ∧ Ext w w' := by subst hn hm; exact mix_any x w
theorem unmix_is (hn : (x.toNat : Int) = n) (hm : ((unmixB x).toNat : Int) = m) : Calls Try.prog 42 #[.int .u64 n] w fun e w' => e = .returned (.int .u64 m) ∧ Ext w w' := by subst hn hm; exact unmix_any x w
theorem turn_is (k : Int) (hn : (x.toNat : Int) = n) (hm : ((turnB x k).toNat : Int) = m) : Calls Try.prog 45 #[.int .u64 n, .int .i64 k] w fun e w' => e = .returned (.int .u64 m) ∧ Ext w w' := by subst hn hm; exact turn_any x k w
theorem flip_is (hn : (x.toNat : Int) = n) (hm : ((flipB x).toNat : Int) = m) : Calls Try.prog 46 #[.int .u64 n] w fun e w' => e = .returned (.int .u64 m) ∧ Ext w w' := by subst hn hm; exact flip_any x w
theorem refMix_is (hn : (x.toNat : Int) = n) (hm : ((mixB x).toNat : Int) = m) : Calls Try.prog 47 #[.int .u64 n] w fun e w' => e = .returned (.int .u64 m) ∧ Ext w w' := by subst hn hm; exact refMix_any x w
theorem refTurn_is (k : Int) (hn : (x.toNat : Int) = n) (hm : ((turnB x k).toNat : Int) = m) : Calls Try.prog 48 #[.int .u64 n, .int .i64 k] w fun e w' => e = .returned (.int .u64 m) ∧ Ext w w' := by subst hn hm; exact refTurn_any x k w
theorem refFlip_is (hn : (x.toNat : Int) = n) (hm : ((flipB x).toNat : Int) = m) : Calls Try.prog 49 #[.int .u64 n] w fun e w' => e = .returned (.int .u64 m) ∧ Ext w w' := by subst hn hm; exact refFlip_any x w
end
/-- A number is a word. -/
theorem word_of {n : Int} (h : (Lit.int .u64 n).wf = true) : ∃ x : BitVec 64, n = (x.toNat : Int) := by
  refine ⟨BitVec.ofInt 64 n, ?_⟩
  simp [Lit.wf, IntKind.min, IntKind.max, IntKind.bits, IntKind.signed] at h
  rw [BitVec.toNat_ofInt]
  omega
theorem ne_word {x y : BitVec 64} (h : ¬ x = y) : ¬ (x.toNat : Int) = (y.toNat : Int) := fun e => h (BitVec.eq_of_toNat_eq (by omega))

set_option maxRecDepth 100000 in
set_option maxHeartbeats 1000000 in
theorem alive01 (w : World) : Calls Try.prog 44 #[] w fun e w' => e = .returned (.bool true) ∧ Ext w w' := by
  go_enter Try.func44, Try.ntmps44
  go_wp2_with fail
  refine (mix_is 0#64 (n := 0) (m := 0) (by decide) (by decide)).mono ?_; rintro e w1 ⟨rfl, x1⟩
  have y := x1
  clear x1
  go_wp2_with fail
  refine (unmix_is 0#64 (n := 0) (m := 0) (by decide) (by decide)).mono ?_; rintro e w2 ⟨rfl, x2⟩
  have y := y.trans x2
  clear x2
  go_wp2_with fail
  refine (turn_is 1#64 65 (n := 1) (m := 2) (by decide) (by decide)).mono ?_; rintro e w3 ⟨rfl, x3⟩
  have y := y.trans x3
  clear x3
  go_wp2_with fail
  refine (turn_is 1#64 (-1) (n := 1) (m := 9223372036854775808) (by decide) (by decide)).mono ?_; rintro e w4 ⟨rfl, x4⟩
  have y := y.trans x4
  clear x4
  go_wp2_with fail
  refine (flip_is 1#64 (n := 1) (m := 9223372036854775808) (by decide) (by decide)).mono ?_; rintro e w5 ⟨rfl, x5⟩
  have y := y.trans x5
  clear x5
  go_wp2_with fail
  refine (flip_is 3#64 (n := 3) (m := 13835058055282163712) (by decide) (by decide)).mono ?_; rintro e w6 ⟨rfl, x6⟩
  have y := y.trans x6
  clear x6
  go_wp2_with fail
  refine (mix_is 1#64 (n := 1) (m := 6238072747940578789) (by decide) (by decide)).mono ?_; rintro e w7 ⟨rfl, x7⟩
  have y := y.trans x7
  clear x7
  go_wp2_with fail
  go_ret
  exact ⟨rfl, y⟩

set_option maxRecDepth 100000 in
set_option maxHeartbeats 1000000 in
theorem mixBack_walk {w : World} {n m : Int} (hn : (Lit.int .u64 n).wf = true) (hm : (Lit.int .u64 m).wf = true) : Calls Try.prog 7 #[.int .u64 n, .int .u64 m] w fun e w' => e = .returned (.bool true) ∧ Ext w w' := by
  obtain ⟨x, rfl⟩ := word_of hn
  obtain ⟨z, rfl⟩ := word_of hm
  clear hn hm
  by_cases hxy : x = z
  · subst hxy
    generalize en : (x.toNat : Int) = n at *
    have hn := Lib.hid en
    clear en
    generalize ep : ((mixB x).toNat : Int) = p at *
    have hp := Lib.hid ep
    clear ep
    generalize er : ((unmixB x).toNat : Int) = r at *
    have hr := Lib.hid er
    clear er
    go_enter Try.func7, Try.ntmps7
    go_wp2_with fail
    refine (mix_is x hn.out hp.out).mono ?_; rintro e w1 ⟨rfl, x1⟩
    have y := x1
    clear x1
    go_wp2_with fail
    refine (unmix_is (mixB x) (n := p) (m := n) hp.out (by rw [unmix_mix]; exact hn.out)).mono ?_; rintro e w2 ⟨rfl, x2⟩
    have y := y.trans x2
    clear x2
    go_wp2_with fail
    refine (unmix_is x hn.out hr.out).mono ?_; rintro e w3 ⟨rfl, x3⟩
    have y := y.trans x3
    clear x3
    go_wp2_with fail
    refine (mix_is (unmixB x) (n := r) (m := n) hr.out (by rw [mix_unmix]; exact hn.out)).mono ?_; rintro e w4 ⟨rfl, x4⟩
    have y := y.trans x4
    clear x4
    go_wp2_with fail
    refine (mix_is x hn.out hp.out).mono ?_; rintro e w5 ⟨rfl, x5⟩
    have y := y.trans x5
    clear x5
    go_wp2_with fail
    refine (mix_is x hn.out hp.out).mono ?_; rintro e w6 ⟨rfl, x6⟩
    have y := y.trans x6
    clear x6
    go_wp2_with fail
    refine (unmix_is x hn.out hr.out).mono ?_; rintro e w7 ⟨rfl, x7⟩
    have y := y.trans x7
    clear x7
    go_wp2_with fail
    refine (unmix_is x hn.out hr.out).mono ?_; rintro e w8 ⟨rfl, x8⟩
    have y := y.trans x8
    clear x8
    go_wp2_with fail
    refine (alive01 _).mono ?_; rintro e w9 ⟨rfl, x9⟩
    have y := y.trans x9
    clear x9
    go_wp2_with fail
    go_ret
    exact ⟨rfl, y⟩
  · have h1 := ne_word hxy
    have h2 : ¬ ((mixB x).toNat : Int) = ((mixB z).toNat : Int) := ne_word fun e => hxy (mix_inj e)
    have h3 : ¬ ((unmixB x).toNat : Int) = ((unmixB z).toNat : Int) := ne_word fun e => hxy (unmix_inj e)
    generalize en : (x.toNat : Int) = n at *
    have hn := Lib.hid en
    clear en
    generalize ep : ((mixB x).toNat : Int) = p at *
    have hp := Lib.hid ep
    clear ep
    generalize er : ((unmixB x).toNat : Int) = r at *
    have hr := Lib.hid er
    clear er
    generalize em : (z.toNat : Int) = m at *
    have hm := Lib.hid em
    clear em
    generalize eq : ((mixB z).toNat : Int) = q at *
    have hq := Lib.hid eq
    clear eq
    generalize es : ((unmixB z).toNat : Int) = s at *
    have hs := Lib.hid es
    clear es
    have h1 := beq_false_of_ne h1
    have h2 := beq_false_of_ne h2
    have h3 := beq_false_of_ne h3
    go_enter Try.func7, Try.ntmps7
    go_wp2_with fail
    refine (mix_is x hn.out hp.out).mono ?_; rintro e w1 ⟨rfl, x1⟩
    have y := x1
    clear x1
    go_wp2_with fail
    refine (unmix_is (mixB x) (n := p) (m := n) hp.out (by rw [unmix_mix]; exact hn.out)).mono ?_; rintro e w2 ⟨rfl, x2⟩
    have y := y.trans x2
    clear x2
    go_wp2_with fail
    refine (unmix_is x hn.out hr.out).mono ?_; rintro e w3 ⟨rfl, x3⟩
    have y := y.trans x3
    clear x3
    go_wp2_with fail
    refine (mix_is (unmixB x) (n := r) (m := n) hr.out (by rw [mix_unmix]; exact hn.out)).mono ?_; rintro e w4 ⟨rfl, x4⟩
    have y := y.trans x4
    clear x4
    go_wp2_with fail
    refine (mix_is x hn.out hp.out).mono ?_; rintro e w5 ⟨rfl, x5⟩
    have y := y.trans x5
    clear x5
    go_wp2_with fail
    refine (mix_is z hm.out hq.out).mono ?_; rintro e w6 ⟨rfl, x6⟩
    have y := y.trans x6
    clear x6
    go_wp2_with fail
    refine (unmix_is x hn.out hr.out).mono ?_; rintro e w7 ⟨rfl, x7⟩
    have y := y.trans x7
    clear x7
    go_wp2_with fail
    refine (unmix_is z hm.out hs.out).mono ?_; rintro e w8 ⟨rfl, x8⟩
    have y := y.trans x8
    clear x8
    go_wp2_with fail
    refine (alive01 _).mono ?_; rintro e w9 ⟨rfl, x9⟩
    have y := y.trans x9
    clear x9
    go_wp2_with fail
    go_ret
    exact ⟨rfl, y⟩

set_option maxRecDepth 100000 in
set_option maxHeartbeats 2000000 in
theorem mixTurns_walk {w : World} {u : Int} (n m : Int) (hu : (Lit.int .u64 u).wf = true) : Calls Try.prog 8 #[.int .u64 u, .int .i64 n, .int .i64 m] w fun e w' => e = .returned (.bool true) ∧ Ext w w' := by
  obtain ⟨x, rfl⟩ := word_of hu
  clear hu
  obtain ⟨ha1, ha2⟩ := tmod_lo n 64 (by decide)
  obtain ⟨hb1, hb2⟩ := tmod_lo m 64 (by decide)
  have hn := turn_mod x (n.tmod 64) n (tmod_mod n)
  have H := Lib.hid hn
  clear hn
  go_enter Try.func8, Try.ntmps8
  go_wp2_with fail
  generalize n.tmod 64 = a at *
  generalize m.tmod 64 = b at *
  refine (turn_is x a rfl rfl).mono ?_; rintro e w1 ⟨rfl, x1⟩
  have y := x1
  clear x1
  go_wp2_with fail
  refine (turn_is (turnB x a) (-a) (m := (x.toNat : Int)) rfl (by rw [turn_turn, turn_zero _ _ (by omega)])).mono ?_; rintro e w2 ⟨rfl, x2⟩
  have y := y.trans x2
  clear x2
  go_wp2_with fail
  refine (turn_is x a rfl rfl).mono ?_; rintro e w3 ⟨rfl, x3⟩
  have y := y.trans x3
  clear x3
  go_wp2_with fail
  refine (turn_is (turnB x a) b (m := ((turnB x (a + b)).toNat : Int)) rfl (by rw [turn_turn])).mono ?_; rintro e w4 ⟨rfl, x4⟩
  have y := y.trans x4
  clear x4
  go_wp2_with fail
  refine (turn_is x (a + b) rfl rfl).mono ?_; rintro e w5 ⟨rfl, x5⟩
  have y := y.trans x5
  clear x5
  go_wp2_with fail
  refine (turn_is x n (m := ((turnB x a).toNat : Int)) rfl (by rw [H.out])).mono ?_; rintro e w6 ⟨rfl, x6⟩
  have y := y.trans x6
  clear x6
  go_wp2_with fail
  refine (turn_is x a rfl rfl).mono ?_; rintro e w7 ⟨rfl, x7⟩
  have y := y.trans x7
  clear x7
  go_wp2_with fail
  refine (flip_is x rfl rfl).mono ?_; rintro e w8 ⟨rfl, x8⟩
  have y := y.trans x8
  clear x8
  go_wp2_with fail
  refine (flip_is (flipB x) (m := (x.toNat : Int)) rfl (by rw [flip_flip])).mono ?_; rintro e w9 ⟨rfl, x9⟩
  have y := y.trans x9
  clear x9
  go_wp2_with fail
  refine (turn_is x a rfl rfl).mono ?_; rintro e w10 ⟨rfl, x10⟩
  have y := y.trans x10
  clear x10
  go_wp2_with fail
  refine (flip_is (turnB x a) rfl rfl).mono ?_; rintro e w11 ⟨rfl, x11⟩
  have y := y.trans x11
  clear x11
  go_wp2_with fail
  refine (flip_is x rfl rfl).mono ?_; rintro e w12 ⟨rfl, x12⟩
  have y := y.trans x12
  clear x12
  go_wp2_with fail
  refine (turn_is (flipB x) (-a) (m := ((flipB (turnB x a)).toNat : Int)) rfl (by rw [flip_turn])).mono ?_; rintro e w13 ⟨rfl, x13⟩
  have y := y.trans x13
  clear x13
  go_wp2_with fail
  refine (alive01 _).mono ?_; rintro e w14 ⟨rfl, x14⟩
  have y := y.trans x14
  clear x14
  go_wp2_with fail
  go_ret
  exact ⟨rfl, y⟩

set_option maxRecDepth 100000 in
set_option maxHeartbeats 2000000 in
theorem mixTells_walk {w : World} {u : Int} (n key : Int) (hu : (Lit.int .u64 u).wf = true) : Calls Try.prog 9 #[.int .u64 u, .int .i64 n, .int .i64 key] w fun e w' => e = .returned (.bool true) ∧ Ext w w' := by
  obtain ⟨x, rfl⟩ := word_of hu
  clear hu
  go_enter Try.func9, Try.ntmps9
  go_wp2_with fail
  refine (mix_is x rfl rfl).mono ?_; rintro e w1 ⟨rfl, x1⟩
  have y := x1
  clear x1
  go_wp2_with fail
  refine (refMix_is x rfl rfl).mono ?_; rintro e w2 ⟨rfl, x2⟩
  have y := y.trans x2
  clear x2
  go_wp2_with fail
  refine (turn_is x n rfl rfl).mono ?_; rintro e w3 ⟨rfl, x3⟩
  have y := y.trans x3
  clear x3
  go_wp2_with fail
  refine (refTurn_is x n rfl rfl).mono ?_; rintro e w4 ⟨rfl, x4⟩
  have y := y.trans x4
  clear x4
  go_wp2_with fail
  refine (flip_is x rfl rfl).mono ?_; rintro e w5 ⟨rfl, x5⟩
  have y := y.trans x5
  clear x5
  go_wp2_with fail
  refine (refFlip_is x rfl rfl).mono ?_; rintro e w6 ⟨rfl, x6⟩
  have y := y.trans x6
  clear x6
  go_wp2_with fail
  refine (of_any key _).mono ?_; rintro e w7 ⟨rfl, x7⟩
  unfold U
  have y := y.trans x7
  clear x7
  go_wp2_with fail
  refine (refOf_any key _).mono ?_; rintro e w8 ⟨rfl, x8⟩
  unfold U
  have y := y.trans x8
  clear x8
  go_wp2_with fail
  refine (unmix_is x rfl rfl).mono ?_; rintro e w9 ⟨rfl, x9⟩
  have y := y.trans x9
  clear x9
  go_wp2_with fail
  refine (refMix_is (unmixB x) (m := (x.toNat : Int)) rfl (by rw [mix_unmix])).mono ?_; rintro e w10 ⟨rfl, x10⟩
  have y := y.trans x10
  clear x10
  go_wp2_with fail
  refine (alive01 _).mono ?_; rintro e w11 ⟨rfl, x11⟩
  have y := y.trans x11
  clear x11
  go_wp2_with fail
  go_ret
  exact ⟨rfl, y⟩
end Go.Proofs.Ytlehcagpddgamaa
