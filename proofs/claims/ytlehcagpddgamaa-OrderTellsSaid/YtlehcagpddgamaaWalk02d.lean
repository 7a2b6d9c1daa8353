/- The statement OrderTells. -/
import Derived.Test.YtlehcagpddgamaaRef02
namespace Go.Proofs.Ytlehcagpddgamaa
open Go.RowKit

set_option maxRecDepth 100000 in
set_option maxHeartbeats 4000000 in
theorem tells_long {o a b : Int} {s : ByteArray} {w : World} (h : 1024 < s.size) :
    Calls Try.prog 21 #[.int .u8 o, .int .i64 a, .int .i64 b, .string s] w fun e w' => e = .returned (.bool true) ∧ Ext w w' := by
  have d1 : decide ((1024 : Int) < s.size) = true := by simp; omega
  clear h
  go_enter Try.func21, Try.ntmps21
  go_wp2_with fail
  refine (alive02 _).mono ?_; rintro e w1 ⟨rfl, x1⟩
  go_wp2_with fail
  go_ret
  exact ⟨rfl, x1⟩
set_option maxRecDepth 100000 in
set_option maxHeartbeats 4000000 in
theorem tells_no {o a b : Int} {s : ByteArray} {w : World} (h : s.size ≤ 1024) (ho : ¬ (1 ≤ o ∧ o ≤ 7)) :
    Calls Try.prog 21 #[.int .u8 o, .int .i64 a, .int .i64 b, .string s] w fun e w' => e = .returned (.bool true) ∧ Ext w w' := by
  have d1 : decide ((1024 : Int) < s.size) = false := by simp; omega
  have A := fun W => code_no ho a W
  have B := fun n W => key_no ho n W
  have C := fun W => compare_no ho a b W
  have D := fun W => rcmp_no ho a b W
  have E := fun W => name_no ho W
  have F := fun W => rname_no ho W
  have G := fun W => orderOf_any s W
  have H := fun W => rOf_any s W
  have I := fun W => rIs_no ho W
  have bb : ((nmB 0).toList == (nmB 0).toList) = true := by simp
  generalize ((ofN s : Nat) : Int) = g at *
  generalize nmB 0 = nn at *
  have z := Ext.refl w
  clear h ho
  go_enter Try.func21, Try.ntmps21
  go_wp2_with fail
  refine (A _).mono ?_; rintro e w1 ⟨rfl, x1⟩
  have z := Ext.trans z x1
  go_wp2_with fail
  refine (B _ _).mono ?_; rintro e w2 ⟨rfl, x2⟩
  have z := Ext.trans z x2
  go_wp2_with fail
  refine (C _).mono ?_; rintro e w3 ⟨rfl, x3⟩
  have z := Ext.trans z x3
  go_wp2_with fail
  refine (D _).mono ?_; rintro e w4 ⟨rfl, x4⟩
  have z := Ext.trans z x4
  go_wp2_with fail
  refine (E _).mono ?_; rintro e w5 ⟨rfl, x5⟩
  have z := Ext.trans z x5
  go_wp2_with fail
  refine (F _).mono ?_; rintro e w5 ⟨rfl, rfl⟩
  go_wp2_with fail
  refine (G _).mono ?_; rintro e w6 ⟨rfl, x6⟩
  have z := Ext.trans z x6
  go_wp2_with fail
  refine (H _).mono ?_; rintro e w7 ⟨rfl, x7⟩
  have z := Ext.trans z x7
  go_wp2_with fail
  refine (I _).mono ?_; rintro e w5 ⟨rfl, rfl⟩
  go_wp2_with fail
  refine (alive02 _).mono ?_; rintro e w9 ⟨rfl, x9⟩
  have z := Ext.trans z x9
  go_wp2_with fail
  go_ret
  exact ⟨rfl, z⟩
set_option maxRecDepth 100000 in
set_option maxHeartbeats 4000000 in
theorem tells_yes {q a b bu c k u g : Int} {nn s : ByteArray} {w : World} (d1 : decide ((1024 : Int) < s.size) = false) (hbu : IntKind.u64.wrap b = bu) (bb : (nn.toList == nn.toList) = true)
    (A : ∀ W : World, Calls Try.prog 95 #[.int .u8 q, .int .i64 a] W fun e w' => e = .returned (.tuple #[.int .u64 c, .int .i64 0]) ∧ Ext W w')
    (B : ∀ W : World, Calls Try.prog 96 #[.int .u8 q, .int .u64 bu] W fun e w' => e = .returned (.tuple #[.int .i64 k, .int .i64 0]) ∧ Ext W w')
    (C : ∀ W : World, Calls Try.prog 97 #[.int .u8 q, .int .i64 a, .int .i64 b] W fun e w' => e = .returned (.int .i64 u) ∧ Ext W w')
    (D : ∀ W : World, Calls Try.prog 98 #[.int .u8 q, .int .i64 a, .int .i64 b] W fun e w' => e = .returned (.int .i64 u) ∧ Ext W w')
    (E : ∀ W : World, Calls Try.prog 99 #[.int .u8 q] W fun e w' => e = .returned (.string nn) ∧ Ext W w')
    (F : ∀ W : World, Calls Try.prog 100 #[.int .u8 q] W fun e w' => e = .returned (.string nn) ∧ w' = W)
    (G : ∀ W : World, Calls Try.prog 101 #[.string s] W fun e w' => e = .returned (.int .u8 g) ∧ Ext W w')
    (H : ∀ W : World, Calls Try.prog 102 #[.string s] W fun e w' => e = .returned (.int .u8 g) ∧ Ext W w')
    (I : ∀ W : World, Calls Try.prog 103 #[.int .u8 q] W fun e w' => e = .returned (.bool true) ∧ w' = W)
    (J : ∀ W : World, Calls Try.prog 104 #[.int .u8 q, .int .i64 a] W fun e w' => e = .returned (.int .u64 c) ∧ Ext W w')
    (K : ∀ W : World, Calls Try.prog 104 #[.int .u8 q, .int .i64 k] W fun e w' => e = .returned (.int .u64 bu) ∧ Ext W w') :
    Calls Try.prog 21 #[.int .u8 q, .int .i64 a, .int .i64 b, .string s] w fun e w' => e = .returned (.bool true) ∧ Ext w w' := by
  have bn := bb
  clear bb
  have z := Ext.refl w
  go_enter Try.func21, Try.ntmps21
  go_wp2_with fail
  refine (A _).mono ?_; rintro e w1 ⟨rfl, x1⟩
  have z := Ext.trans z x1
  go_wp2_with fail
  refine (B _).mono ?_; rintro e w2 ⟨rfl, x2⟩
  have z := Ext.trans z x2
  go_wp2_with fail
  refine (C _).mono ?_; rintro e w3 ⟨rfl, x3⟩
  have z := Ext.trans z x3
  go_wp2_with fail
  refine (D _).mono ?_; rintro e w4 ⟨rfl, x4⟩
  have z := Ext.trans z x4
  go_wp2_with fail
  refine (E _).mono ?_; rintro e w5 ⟨rfl, x5⟩
  have z := Ext.trans z x5
  go_wp2_with fail
  refine (F _).mono ?_; rintro e w5 ⟨rfl, rfl⟩
  go_wp2_with fail
  refine (G _).mono ?_; rintro e w6 ⟨rfl, x6⟩
  have z := Ext.trans z x6
  go_wp2_with fail
  refine (H _).mono ?_; rintro e w7 ⟨rfl, x7⟩
  have z := Ext.trans z x7
  go_wp2_with fail
  refine (I _).mono ?_; rintro e w5 ⟨rfl, rfl⟩
  go_wp2_with fail
  refine (J _).mono ?_; rintro e w8 ⟨rfl, x8⟩
  have z := Ext.trans z x8
  go_wp2_with fail
  refine (K _).mono ?_; rintro e w8 ⟨rfl, x8⟩
  have z := Ext.trans z x8
  go_wp2_with fail
  refine (alive02 _).mono ?_; rintro e w9 ⟨rfl, x9⟩
  have z := Ext.trans z x9
  go_wp2_with fail
  go_ret
  exact ⟨rfl, z⟩
theorem orderTells_walk {o a b : Int} {s : ByteArray} {w : World} (wo : (Lit.int .u8 o).wf = true) (wa : (Lit.int .i64 a).wf = true) (wb : (Lit.int .i64 b).wf = true) :
    Calls Try.prog 21 #[.int .u8 o, .int .i64 a, .int .i64 b, .string s] w fun e w' => e = .returned (.bool true) ∧ Ext w w' := by
  by_cases h : 1024 < s.size
  · exact tells_long h
  · by_cases ho : 1 ≤ o ∧ o ≤ 7
    · obtain ⟨x, rfl⟩ := key_word wa
      obtain ⟨y, rfl⟩ := key_word wb
      obtain ⟨q, rfl⟩ : ∃ q : Nat, (q : Int) = o := ⟨o.toNat, by omega⟩
      have h1 : 1 ≤ q := by omega
      have h2 : q ≤ 7 := by omega
      have hb : CO q (KO q y) = y := CO_KO q h2 y
      exact tells_yes (by simp; omega) (up_conv y) (by simp) (fun W => code_o q h1 h2 x W) (fun W => key_o q h1 h2 y W) (fun W => compare_o q h1 h2 x y W) (fun W => rcmp_o q h1 h2 x y W)
        (fun W => name_o q h1 h2 W) (fun W => rname_o q h1 h2 W) (fun W => orderOf_any s W) (fun W => rOf_any s W) (fun W => rIs_yes ⟨by omega, by omega⟩ W) (fun W => rcode_o q h1 h2 x W) (fun W => by
          have := rcode_o q h1 h2 (KO q y) W
          rw [hb] at this
          exact this)
    · exact tells_no (by omega) ho
end Go.Proofs.Ytlehcagpddgamaa
