/- Package order: the other closures; Code, Key. -/
import Derived.Test.YtphpaaaaifpidaaOrderB
import Derived.Test.YtphpaaaaifpidaaMixF
namespace Go.Proofs.Ytphpaaaaifpidaa
open Go.RowKit Go.MapKept

section
variable (x : BitVec 64) (w : World)
set_option maxHeartbeats 1000000 in
theorem k5_any : Calls Try.prog 74 #[KW x] w fun e w' => e = .returned (U (flipB x)) ∧ Ext w w' := by
  have hu := fun w => flip_any x w
  have d := up_conv x
  unfold KW U at *
  rw [← d] at hu
  generalize ((flipB x).toNat : Int) = m at *
  generalize x.toInt = n at *
  clear d
  go_enter Try.func74, Try.ntmps74
  go_wp2_with fail
  refine (hu _).mono ?_; rintro e w1 ⟨rfl, x1⟩
  go_wp2_with (fail)
  go_ret
  exact ⟨rfl, x1⟩
set_option maxHeartbeats 1000000 in
theorem k11_any : Calls Try.prog 82 #[KW x] w fun e w' => e = .returned (U (mixB x)) ∧ Ext w w' := by
  have hu := fun w => mix_any x w
  have d := up_conv x
  unfold KW U at *
  rw [← d] at hu
  generalize ((mixB x).toNat : Int) = m at *
  generalize x.toInt = n at *
  clear d
  go_enter Try.func82, Try.ntmps82
  go_wp2_with fail
  refine (hu _).mono ?_; rintro e w1 ⟨rfl, x1⟩
  go_wp2_with (fail)
  go_ret
  exact ⟨rfl, x1⟩
set_option maxHeartbeats 1000000 in
theorem k6_any : Calls Try.prog 76 #[U x] w fun e w' => e = .returned (KW (flipB x)) ∧ Ext w w' := by
  have hu := fun w => flip_any x w
  have d := down_conv (flipB x)
  unfold KW U at *
  rw [← d]
  clear d
  generalize ((flipB x).toNat : Int) = m at *
  generalize (x.toNat : Int) = n at *
  go_enter Try.func76, Try.ntmps76
  go_wp2_with fail
  refine (hu _).mono ?_; rintro e w1 ⟨rfl, x1⟩
  go_wp2_with (fail)
  go_ret
  exact ⟨rfl, x1⟩
set_option maxHeartbeats 1000000 in
theorem k12_any : Calls Try.prog 84 #[U x] w fun e w' => e = .returned (KW (unmixB x)) ∧ Ext w w' := by
  have hu := fun w => unmix_any x w
  have d := down_conv (unmixB x)
  unfold KW U at *
  rw [← d]
  clear d
  generalize ((unmixB x).toNat : Int) = m at *
  generalize (x.toNat : Int) = n at *
  go_enter Try.func84, Try.ntmps84
  go_wp2_with fail
  refine (hu _).mono ?_; rintro e w1 ⟨rfl, x1⟩
  go_wp2_with (fail)
  go_ret
  exact ⟨rfl, x1⟩
set_option maxHeartbeats 1000000 in
theorem k7_any : Calls Try.prog 77 #[KW x] w fun e w' => e = .returned (U (turnB (x ^^^ msb) (-1))) ∧ Ext w w' := by
  have hu := fun w => oup_any x w
  have ht := fun w => turn_any (x ^^^ msb) (-1) w
  generalize turnB (x ^^^ msb) (-1) = z at *
  generalize x ^^^ msb = y at *
  unfold KW U at *
  generalize x.toInt = n at *
  generalize (z.toNat : Int) = m at *
  generalize (y.toNat : Int) = q at *
  go_enter Try.func77, Try.ntmps77
  go_wp2_with fail
  refine (hu _).mono ?_; rintro e w1 ⟨rfl, x1⟩
  go_wp2_with (fail)
  refine (ht _).mono ?_; rintro e w2 ⟨rfl, x2⟩
  go_wp2_with (fail)
  go_ret
  exact ⟨rfl, x1.trans x2⟩
set_option maxHeartbeats 1000000 in
theorem k9_any : Calls Try.prog 80 #[KW x] w fun e w' => e = .returned (U (turnB (x ^^^ msb) 32)) ∧ Ext w w' := by
  have hu := fun w => oup_any x w
  have ht := fun w => turn_any (x ^^^ msb) 32 w
  generalize turnB (x ^^^ msb) 32 = z at *
  generalize x ^^^ msb = y at *
  unfold KW U at *
  generalize x.toInt = n at *
  generalize (z.toNat : Int) = m at *
  generalize (y.toNat : Int) = q at *
  go_enter Try.func80, Try.ntmps80
  go_wp2_with fail
  refine (hu _).mono ?_; rintro e w1 ⟨rfl, x1⟩
  go_wp2_with (fail)
  refine (ht _).mono ?_; rintro e w2 ⟨rfl, x2⟩
  go_wp2_with (fail)
  go_ret
  exact ⟨rfl, x1.trans x2⟩
set_option maxHeartbeats 1000000 in
theorem k8_any : Calls Try.prog 79 #[U x] w fun e w' => e = .returned (KW (turnB x 1 ^^^ msb)) ∧ Ext w w' := by
  have ht := fun w => turn_any x 1 w
  have hu := fun w => odown_any (turnB x 1) w
  generalize turnB x 1 = z at *
  unfold KW U at *
  generalize (z ^^^ msb).toInt = n at *
  generalize (z.toNat : Int) = m at *
  generalize (x.toNat : Int) = q at *
  go_enter Try.func79, Try.ntmps79
  go_wp2_with fail
  refine (ht _).mono ?_; rintro e w1 ⟨rfl, x1⟩
  go_wp2_with (fail)
  refine (hu _).mono ?_; rintro e w2 ⟨rfl, x2⟩
  go_wp2_with (fail)
  go_ret
  exact ⟨rfl, x1.trans x2⟩
set_option maxHeartbeats 1000000 in
theorem k10_any : Calls Try.prog 81 #[U x] w fun e w' => e = .returned (KW (turnB x 32 ^^^ msb)) ∧ Ext w w' := by
  have ht := fun w => turn_any x 32 w
  have hu := fun w => odown_any (turnB x 32) w
  generalize turnB x 32 = z at *
  unfold KW U at *
  generalize (z ^^^ msb).toInt = n at *
  generalize (z.toNat : Int) = m at *
  generalize (x.toNat : Int) = q at *
  go_enter Try.func81, Try.ntmps81
  go_wp2_with fail
  refine (ht _).mono ?_; rintro e w1 ⟨rfl, x1⟩
  go_wp2_with (fail)
  refine (hu _).mono ?_; rintro e w2 ⟨rfl, x2⟩
  go_wp2_with (fail)
  go_ret
  exact ⟨rfl, x1.trans x2⟩
end
/-- The code of a key, by an order; and back. -/
def CO (o : Nat) (x : BitVec 64) : BitVec 64 := match o with | 1 => x ^^^ msb | 2 => ~~~ (x ^^^ msb) | 3 => sizeB x | 4 => flipB x | 5 => turnB (x ^^^ msb) (-1) | 6 => turnB (x ^^^ msb) 32 | _ => mixB x
def KO (o : Nat) (c : BitVec 64) : BitVec 64 := match o with | 1 => c ^^^ msb | 2 => ~~~ c ^^^ msb | 3 => unsizeB c | 4 => flipB c | 5 => turnB c 1 ^^^ msb | 6 => turnB c 32 ^^^ msb | _ => unmixB c
theorem xor_twice (x : BitVec 64) : x ^^^ msb ^^^ msb = x := by rw [BitVec.xor_assoc, BitVec.xor_self, BitVec.xor_zero]
theorem KO_CO : ∀ o : Nat, o ≤ 7 → ∀ x : BitVec 64, KO o (CO o x) = x
  | 0, _, x => unmix_mix x
  | 1, _, x => xor_twice x
  | 2, _, x => by show ~~~ (~~~ (x ^^^ msb)) ^^^ msb = x; rw [BitVec.not_not]; exact xor_twice x
  | 3, _, x => unsize_size x
  | 4, _, x => flip_flip x
  | 5, _, x => by show turnB (turnB (x ^^^ msb) (-1)) 1 ^^^ msb = x; rw [turn_turn, turn_zero _ _ (by decide)]; exact xor_twice x
  | 6, _, x => by show turnB (turnB (x ^^^ msb) 32) 32 ^^^ msb = x; rw [turn_turn, turn_zero _ _ (by decide)]; exact xor_twice x
  | 7, _, x => unmix_mix x
  | n + 8, h, _ => by omega
theorem CO_KO : ∀ o : Nat, o ≤ 7 → ∀ x : BitVec 64, CO o (KO o x) = x
  | 0, _, x => mix_unmix x
  | 1, _, x => xor_twice x
  | 2, _, x => by show ~~~ (~~~ x ^^^ msb ^^^ msb) = x; rw [xor_twice, BitVec.not_not]
  | 3, _, x => size_unsize x
  | 4, _, x => flip_flip x
  | 5, _, x => by show turnB (turnB x 1 ^^^ msb ^^^ msb) (-1) = x; rw [xor_twice, turn_turn, turn_zero _ _ (by decide)]
  | 6, _, x => by show turnB (turnB x 32 ^^^ msb ^^^ msb) 32 = x; rw [xor_twice, turn_turn, turn_zero _ _ (by decide)]
  | 7, _, x => mix_unmix x
  | n + 8, h, _ => by omega

theorem zero_kind (w : World) : (zeroValue 80).run Try.prog w = .ok (.agg #[.string ⟨#[]⟩, .nilFunc, .nilFunc]) w := by kernel_rfl
theorem look_yes (w : World) (k : Int) (i : Nat) (v : Value) (ok : Bool) (h : Instr.findNow (.int .u8) (.int .u8 k) kindsA.toList 0 = some (some (i, v))) :
    (Instr.lookup 82 (.map (some w.heap.size)) (.int .u8 k) ok).run Try.prog (w.alloc (.map kindsA 7)) = .ok (if ok then .tuple #[v, .bool true] else v) (w.alloc (.map kindsA 7)) := by
  have hb : (w.alloc (.map kindsA 7)).heap[w.heap.size]? = some (.map kindsA 7) := (heap_alloc w _).1
  have hk : IsKey (.int .u8) (.int .u8 k) := by simp [IsKey]
  unfold Instr.lookup
  simp only [Sem.run_bind, Sem.run_pure, run_underlying Try.underlying82, Result.andThen, Go.MapKept.run_getObj_map hb, run_checkKey Try.underlying5 hk _ 9999, run_findKey Try.underlying5 h]
theorem look_no (w : World) (k : Int) (ok : Bool) (h : Instr.findNow (.int .u8) (.int .u8 k) kindsA.toList 0 = some none) :
    (Instr.lookup 82 (.map (some w.heap.size)) (.int .u8 k) ok).run Try.prog (w.alloc (.map kindsA 7)) = .ok (if ok then .tuple #[.agg #[.string ⟨#[]⟩, .nilFunc, .nilFunc], .bool false] else .agg #[.string ⟨#[]⟩, .nilFunc, .nilFunc]) (w.alloc (.map kindsA 7)) := by
  have hb : (w.alloc (.map kindsA 7)).heap[w.heap.size]? = some (.map kindsA 7) := (heap_alloc w _).1
  have hk : IsKey (.int .u8) (.int .u8 k) := by simp [IsKey]
  unfold Instr.lookup
  simp only [Sem.run_bind, Sem.run_pure, run_underlying Try.underlying82, Result.andThen, Go.MapKept.run_getObj_map hb, run_checkKey Try.underlying5 hk _ 9999, run_findKey Try.underlying5 h, zero_kind]
theorem find_no {k : Int} (h : ¬ (1 ≤ k ∧ k ≤ 7)) : Instr.findNow (.int .u8) (.int .u8 k) kindsA.toList 0 = some none := by
  have h1 : (k == 1) = false := by simp; omega
  have h2 : (k == 2) = false := by simp; omega
  have h3 : (k == 3) = false := by simp; omega
  have h4 : (k == 4) = false := by simp; omega
  have h5 : (k == 5) = false := by simp; omega
  have h6 : (k == 6) = false := by simp; omega
  have h7 : (k == 7) = false := by simp; omega
  simp [kindsA, Instr.findNow, Instr.sameNow, h1, h2, h3, h4, h5, h6, h7]
set_option maxRecDepth 100000 in
set_option maxHeartbeats 1000000 in
theorem code1_any (x : BitVec 64) (w : World) : Calls Try.prog 13 #[.int .u8 1, KW x] w fun e w' => e = .returned (.tuple #[U (CO 1 x), .int .i64 0]) ∧ Ext w w' := by
  have hk := fun w => kinds_any w
  have hl := look_yes w 1 0 (kv [117, 112] 68 69) true rfl
  simp only [kv, if_true] at hl
  have hc : ∀ W : World, Calls Try.prog 68 #[KW x] W fun e w' => e = .returned (U (CO 1 x)) ∧ Ext W w' := fun W => oup_any x W
  unfold KW U at *
  generalize ((CO 1 x).toNat : Int) = m at *
  generalize x.toInt = n at *
  go_enter Try.func13, Try.ntmps13
  go_wp2_with fail
  refine (hk _).mono ?_; rintro e w1 ⟨rfl, rfl⟩
  have y := (Ext.refl w).alloc (.map kindsA 7)
  go_wp2_with fail
  refine (hc _).mono ?_; rintro e w2 ⟨rfl, x2⟩
  go_wp2_with fail
  go_ret2
  exact ⟨rfl, (y.alloc _).trans x2⟩
set_option maxRecDepth 100000 in
set_option maxHeartbeats 1000000 in
theorem key1_any (x : BitVec 64) (w : World) : Calls Try.prog 14 #[.int .u8 1, U x] w fun e w' => e = .returned (.tuple #[KW (KO 1 x), .int .i64 0]) ∧ Ext w w' := by
  have hk := fun w => kinds_any w
  have hl := look_yes w 1 0 (kv [117, 112] 68 69) true rfl
  simp only [kv, if_true] at hl
  have hc : ∀ W : World, Calls Try.prog 69 #[U x] W fun e w' => e = .returned (KW (KO 1 x)) ∧ Ext W w' := fun W => odown_any x W
  unfold KW U at *
  generalize (KO 1 x).toInt = m at *
  generalize (x.toNat : Int) = n at *
  go_enter Try.func14, Try.ntmps14
  go_wp2_with fail
  refine (hk _).mono ?_; rintro e w1 ⟨rfl, rfl⟩
  have y := (Ext.refl w).alloc (.map kindsA 7)
  go_wp2_with fail
  refine (hc _).mono ?_; rintro e w2 ⟨rfl, x2⟩
  go_wp2_with fail
  go_ret2
  exact ⟨rfl, (y.alloc _).trans x2⟩
set_option maxRecDepth 100000 in
set_option maxHeartbeats 1000000 in
theorem code2_any (x : BitVec 64) (w : World) : Calls Try.prog 13 #[.int .u8 2, KW x] w fun e w' => e = .returned (.tuple #[U (CO 2 x), .int .i64 0]) ∧ Ext w w' := by
  have hk := fun w => kinds_any w
  have hl := look_yes w 2 1 (kv [100, 111, 119, 110] 70 71) true rfl
  simp only [kv, if_true] at hl
  have hc : ∀ W : World, Calls Try.prog 70 #[KW x] W fun e w' => e = .returned (U (CO 2 x)) ∧ Ext W w' := fun W => k1_any x W
  unfold KW U at *
  generalize ((CO 2 x).toNat : Int) = m at *
  generalize x.toInt = n at *
  go_enter Try.func13, Try.ntmps13
  go_wp2_with fail
  refine (hk _).mono ?_; rintro e w1 ⟨rfl, rfl⟩
  have y := (Ext.refl w).alloc (.map kindsA 7)
  go_wp2_with fail
  refine (hc _).mono ?_; rintro e w2 ⟨rfl, x2⟩
  go_wp2_with fail
  go_ret2
  exact ⟨rfl, (y.alloc _).trans x2⟩
set_option maxRecDepth 100000 in
set_option maxHeartbeats 1000000 in
theorem key2_any (x : BitVec 64) (w : World) : Calls Try.prog 14 #[.int .u8 2, U x] w fun e w' => e = .returned (.tuple #[KW (KO 2 x), .int .i64 0]) ∧ Ext w w' := by
  have hk := fun w => kinds_any w
  have hl := look_yes w 2 1 (kv [100, 111, 119, 110] 70 71) true rfl
  simp only [kv, if_true] at hl
  have hc : ∀ W : World, Calls Try.prog 71 #[U x] W fun e w' => e = .returned (KW (KO 2 x)) ∧ Ext W w' := fun W => k2_any x W
  unfold KW U at *
  generalize (KO 2 x).toInt = m at *
  generalize (x.toNat : Int) = n at *
  go_enter Try.func14, Try.ntmps14
  go_wp2_with fail
  refine (hk _).mono ?_; rintro e w1 ⟨rfl, rfl⟩
  have y := (Ext.refl w).alloc (.map kindsA 7)
  go_wp2_with fail
  refine (hc _).mono ?_; rintro e w2 ⟨rfl, x2⟩
  go_wp2_with fail
  go_ret2
  exact ⟨rfl, (y.alloc _).trans x2⟩
set_option maxRecDepth 100000 in
set_option maxHeartbeats 1000000 in
theorem code3_any (x : BitVec 64) (w : World) : Calls Try.prog 13 #[.int .u8 3, KW x] w fun e w' => e = .returned (.tuple #[U (CO 3 x), .int .i64 0]) ∧ Ext w w' := by
  have hk := fun w => kinds_any w
  have hl := look_yes w 3 2 (kv [115, 105, 122, 101] 72 73) true rfl
  simp only [kv, if_true] at hl
  have hc : ∀ W : World, Calls Try.prog 72 #[KW x] W fun e w' => e = .returned (U (CO 3 x)) ∧ Ext W w' := fun W => k3_any x W
  unfold KW U at *
  generalize ((CO 3 x).toNat : Int) = m at *
  generalize x.toInt = n at *
  go_enter Try.func13, Try.ntmps13
  go_wp2_with fail
  refine (hk _).mono ?_; rintro e w1 ⟨rfl, rfl⟩
  have y := (Ext.refl w).alloc (.map kindsA 7)
  go_wp2_with fail
  refine (hc _).mono ?_; rintro e w2 ⟨rfl, x2⟩
  go_wp2_with fail
  go_ret2
  exact ⟨rfl, (y.alloc _).trans x2⟩
set_option maxRecDepth 100000 in
set_option maxHeartbeats 1000000 in
theorem key3_any (x : BitVec 64) (w : World) : Calls Try.prog 14 #[.int .u8 3, U x] w fun e w' => e = .returned (.tuple #[KW (KO 3 x), .int .i64 0]) ∧ Ext w w' := by
  have hk := fun w => kinds_any w
  have hl := look_yes w 3 2 (kv [115, 105, 122, 101] 72 73) true rfl
  simp only [kv, if_true] at hl
  have hc : ∀ W : World, Calls Try.prog 73 #[U x] W fun e w' => e = .returned (KW (KO 3 x)) ∧ Ext W w' := fun W => k4_any x W
  unfold KW U at *
  generalize (KO 3 x).toInt = m at *
  generalize (x.toNat : Int) = n at *
  go_enter Try.func14, Try.ntmps14
  go_wp2_with fail
  refine (hk _).mono ?_; rintro e w1 ⟨rfl, rfl⟩
  have y := (Ext.refl w).alloc (.map kindsA 7)
  go_wp2_with fail
  refine (hc _).mono ?_; rintro e w2 ⟨rfl, x2⟩
  go_wp2_with fail
  go_ret2
  exact ⟨rfl, (y.alloc _).trans x2⟩
set_option maxRecDepth 100000 in
set_option maxHeartbeats 1000000 in
theorem code4_any (x : BitVec 64) (w : World) : Calls Try.prog 13 #[.int .u8 4, KW x] w fun e w' => e = .returned (.tuple #[U (CO 4 x), .int .i64 0]) ∧ Ext w w' := by
  have hk := fun w => kinds_any w
  have hl := look_yes w 4 3 (kv [98, 105, 116, 115] 74 76) true rfl
  simp only [kv, if_true] at hl
  have hc : ∀ W : World, Calls Try.prog 74 #[KW x] W fun e w' => e = .returned (U (CO 4 x)) ∧ Ext W w' := fun W => k5_any x W
  unfold KW U at *
  generalize ((CO 4 x).toNat : Int) = m at *
  generalize x.toInt = n at *
  go_enter Try.func13, Try.ntmps13
  go_wp2_with fail
  refine (hk _).mono ?_; rintro e w1 ⟨rfl, rfl⟩
  have y := (Ext.refl w).alloc (.map kindsA 7)
  go_wp2_with fail
  refine (hc _).mono ?_; rintro e w2 ⟨rfl, x2⟩
  go_wp2_with fail
  go_ret2
  exact ⟨rfl, (y.alloc _).trans x2⟩
set_option maxRecDepth 100000 in
set_option maxHeartbeats 1000000 in
theorem key4_any (x : BitVec 64) (w : World) : Calls Try.prog 14 #[.int .u8 4, U x] w fun e w' => e = .returned (.tuple #[KW (KO 4 x), .int .i64 0]) ∧ Ext w w' := by
  have hk := fun w => kinds_any w
  have hl := look_yes w 4 3 (kv [98, 105, 116, 115] 74 76) true rfl
  simp only [kv, if_true] at hl
  have hc : ∀ W : World, Calls Try.prog 76 #[U x] W fun e w' => e = .returned (KW (KO 4 x)) ∧ Ext W w' := fun W => k6_any x W
  unfold KW U at *
  generalize (KO 4 x).toInt = m at *
  generalize (x.toNat : Int) = n at *
  go_enter Try.func14, Try.ntmps14
  go_wp2_with fail
  refine (hk _).mono ?_; rintro e w1 ⟨rfl, rfl⟩
  have y := (Ext.refl w).alloc (.map kindsA 7)
  go_wp2_with fail
  refine (hc _).mono ?_; rintro e w2 ⟨rfl, x2⟩
  go_wp2_with fail
  go_ret2
  exact ⟨rfl, (y.alloc _).trans x2⟩
set_option maxRecDepth 100000 in
set_option maxHeartbeats 1000000 in
theorem code5_any (x : BitVec 64) (w : World) : Calls Try.prog 13 #[.int .u8 5, KW x] w fun e w' => e = .returned (.tuple #[U (CO 5 x), .int .i64 0]) ∧ Ext w w' := by
  have hk := fun w => kinds_any w
  have hl := look_yes w 5 4 (kv [101, 118, 101, 110] 77 79) true rfl
  simp only [kv, if_true] at hl
  have hc : ∀ W : World, Calls Try.prog 77 #[KW x] W fun e w' => e = .returned (U (CO 5 x)) ∧ Ext W w' := fun W => k7_any x W
  unfold KW U at *
  generalize ((CO 5 x).toNat : Int) = m at *
  generalize x.toInt = n at *
  go_enter Try.func13, Try.ntmps13
  go_wp2_with fail
  refine (hk _).mono ?_; rintro e w1 ⟨rfl, rfl⟩
  have y := (Ext.refl w).alloc (.map kindsA 7)
  go_wp2_with fail
  refine (hc _).mono ?_; rintro e w2 ⟨rfl, x2⟩
  go_wp2_with fail
  go_ret2
  exact ⟨rfl, (y.alloc _).trans x2⟩
set_option maxRecDepth 100000 in
set_option maxHeartbeats 1000000 in
theorem key5_any (x : BitVec 64) (w : World) : Calls Try.prog 14 #[.int .u8 5, U x] w fun e w' => e = .returned (.tuple #[KW (KO 5 x), .int .i64 0]) ∧ Ext w w' := by
  have hk := fun w => kinds_any w
  have hl := look_yes w 5 4 (kv [101, 118, 101, 110] 77 79) true rfl
  simp only [kv, if_true] at hl
  have hc : ∀ W : World, Calls Try.prog 79 #[U x] W fun e w' => e = .returned (KW (KO 5 x)) ∧ Ext W w' := fun W => k8_any x W
  unfold KW U at *
  generalize (KO 5 x).toInt = m at *
  generalize (x.toNat : Int) = n at *
  go_enter Try.func14, Try.ntmps14
  go_wp2_with fail
  refine (hk _).mono ?_; rintro e w1 ⟨rfl, rfl⟩
  have y := (Ext.refl w).alloc (.map kindsA 7)
  go_wp2_with fail
  refine (hc _).mono ?_; rintro e w2 ⟨rfl, x2⟩
  go_wp2_with fail
  go_ret2
  exact ⟨rfl, (y.alloc _).trans x2⟩
set_option maxRecDepth 100000 in
set_option maxHeartbeats 1000000 in
theorem code6_any (x : BitVec 64) (w : World) : Calls Try.prog 13 #[.int .u8 6, KW x] w fun e w' => e = .returned (.tuple #[U (CO 6 x), .int .i64 0]) ∧ Ext w w' := by
  have hk := fun w => kinds_any w
  have hl := look_yes w 6 5 (kv [108, 111, 119] 80 81) true rfl
  simp only [kv, if_true] at hl
  have hc : ∀ W : World, Calls Try.prog 80 #[KW x] W fun e w' => e = .returned (U (CO 6 x)) ∧ Ext W w' := fun W => k9_any x W
  unfold KW U at *
  generalize ((CO 6 x).toNat : Int) = m at *
  generalize x.toInt = n at *
  go_enter Try.func13, Try.ntmps13
  go_wp2_with fail
  refine (hk _).mono ?_; rintro e w1 ⟨rfl, rfl⟩
  have y := (Ext.refl w).alloc (.map kindsA 7)
  go_wp2_with fail
  refine (hc _).mono ?_; rintro e w2 ⟨rfl, x2⟩
  go_wp2_with fail
  go_ret2
  exact ⟨rfl, (y.alloc _).trans x2⟩
set_option maxRecDepth 100000 in
set_option maxHeartbeats 1000000 in
theorem key6_any (x : BitVec 64) (w : World) : Calls Try.prog 14 #[.int .u8 6, U x] w fun e w' => e = .returned (.tuple #[KW (KO 6 x), .int .i64 0]) ∧ Ext w w' := by
  have hk := fun w => kinds_any w
  have hl := look_yes w 6 5 (kv [108, 111, 119] 80 81) true rfl
  simp only [kv, if_true] at hl
  have hc : ∀ W : World, Calls Try.prog 81 #[U x] W fun e w' => e = .returned (KW (KO 6 x)) ∧ Ext W w' := fun W => k10_any x W
  unfold KW U at *
  generalize (KO 6 x).toInt = m at *
  generalize (x.toNat : Int) = n at *
  go_enter Try.func14, Try.ntmps14
  go_wp2_with fail
  refine (hk _).mono ?_; rintro e w1 ⟨rfl, rfl⟩
  have y := (Ext.refl w).alloc (.map kindsA 7)
  go_wp2_with fail
  refine (hc _).mono ?_; rintro e w2 ⟨rfl, x2⟩
  go_wp2_with fail
  go_ret2
  exact ⟨rfl, (y.alloc _).trans x2⟩
set_option maxRecDepth 100000 in
set_option maxHeartbeats 1000000 in
theorem code7_any (x : BitVec 64) (w : World) : Calls Try.prog 13 #[.int .u8 7, KW x] w fun e w' => e = .returned (.tuple #[U (CO 7 x), .int .i64 0]) ∧ Ext w w' := by
  have hk := fun w => kinds_any w
  have hl := look_yes w 7 6 (kv [109, 105, 120] 82 84) true rfl
  simp only [kv, if_true] at hl
  have hc : ∀ W : World, Calls Try.prog 82 #[KW x] W fun e w' => e = .returned (U (CO 7 x)) ∧ Ext W w' := fun W => k11_any x W
  unfold KW U at *
  generalize ((CO 7 x).toNat : Int) = m at *
  generalize x.toInt = n at *
  go_enter Try.func13, Try.ntmps13
  go_wp2_with fail
  refine (hk _).mono ?_; rintro e w1 ⟨rfl, rfl⟩
  have y := (Ext.refl w).alloc (.map kindsA 7)
  go_wp2_with fail
  refine (hc _).mono ?_; rintro e w2 ⟨rfl, x2⟩
  go_wp2_with fail
  go_ret2
  exact ⟨rfl, (y.alloc _).trans x2⟩
set_option maxRecDepth 100000 in
set_option maxHeartbeats 1000000 in
theorem key7_any (x : BitVec 64) (w : World) : Calls Try.prog 14 #[.int .u8 7, U x] w fun e w' => e = .returned (.tuple #[KW (KO 7 x), .int .i64 0]) ∧ Ext w w' := by
  have hk := fun w => kinds_any w
  have hl := look_yes w 7 6 (kv [109, 105, 120] 82 84) true rfl
  simp only [kv, if_true] at hl
  have hc : ∀ W : World, Calls Try.prog 84 #[U x] W fun e w' => e = .returned (KW (KO 7 x)) ∧ Ext W w' := fun W => k12_any x W
  unfold KW U at *
  generalize (KO 7 x).toInt = m at *
  generalize (x.toNat : Int) = n at *
  go_enter Try.func14, Try.ntmps14
  go_wp2_with fail
  refine (hk _).mono ?_; rintro e w1 ⟨rfl, rfl⟩
  have y := (Ext.refl w).alloc (.map kindsA 7)
  go_wp2_with fail
  refine (hc _).mono ?_; rintro e w2 ⟨rfl, x2⟩
  go_wp2_with fail
  go_ret2
  exact ⟨rfl, (y.alloc _).trans x2⟩
end Go.Proofs.Ytphpaaaaifpidaa
