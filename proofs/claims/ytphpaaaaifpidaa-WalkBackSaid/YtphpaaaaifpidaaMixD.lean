/- Turning: math/bits.RotateLeft64, mix.Turn. -/
import Derived.Test.YtphpaaaaifpidaaMixC
namespace Go.Proofs.Ytphpaaaaifpidaa
open Go.RowKit

theorem and_val (a b : BitVec 64) : bits .and .u64 (a.toNat : Int) (b.toNat : Int) = ((a &&& b).toNat : Int) := by
  show IntKind.u64.wrap ((BitVec.ofInt 64 (a.toNat : Int) &&& BitVec.ofInt 64 (b.toNat : Int)).toNat : Int) = _
  rw [BitVec.ofInt_natCast, BitVec.ofInt_natCast, BitVec.ofNat_toNat, BitVec.ofNat_toNat, IntKind.wrap_u64]
  have := (BitVec.setWidth 64 a &&& BitVec.setWidth 64 b).isLt
  simp only [BitVec.setWidth_eq] at *
  omega
theorem or_val (a b : BitVec 64) : bits .or .u64 (a.toNat : Int) (b.toNat : Int) = ((a ||| b).toNat : Int) := by
  show IntKind.u64.wrap ((BitVec.ofInt 64 (a.toNat : Int) ||| BitVec.ofInt 64 (b.toNat : Int)).toNat : Int) = _
  rw [BitVec.ofInt_natCast, BitVec.ofInt_natCast, BitVec.ofNat_toNat, BitVec.ofNat_toNat, IntKind.wrap_u64]
  have := (BitVec.setWidth 64 a ||| BitVec.setWidth 64 b).isLt
  simp only [BitVec.setWidth_eq] at *
  omega
theorem shl_val (a : BitVec 64) (n : Nat) : IntKind.u64.wrap ((a.toNat : Int) * 2 ^ n) = ((a <<< n).toNat : Int) := by
  rw [IntKind.wrap_u64, BitVec.toNat_shiftLeft, Nat.shiftLeft_eq]
  simp
theorem shr_val (a : BitVec 64) (n : Nat) : (a.toNat : Int) / 2 ^ n = ((a >>> n).toNat : Int) := by
  rw [BitVec.toNat_ushiftRight, Nat.shiftRight_eq_div_pow]
  simp
theorem and_63 (k : Int) : bits .and .u64 (IntKind.u64.wrap k) 63 = k % 64 := by
  have h : IntKind.u64.wrap k = ((BitVec.ofInt 64 k).toNat : Int) := by
    rw [IntKind.wrap_u64, BitVec.toNat_ofInt]; omega
  rw [h, show (63 : Int) = ((63#64).toNat : Int) from rfl, and_val, BitVec.toNat_and, show (63#64).toNat = 2 ^ 6 - 1 from rfl, Nat.and_two_pow_sub_one_eq_mod, BitVec.toNat_ofInt]
  omega
theorem turn_val (x : BitVec 64) {k : Int} {c : Int} (hc : c = k % 64) : bits .or .u64 (IntKind.u64.wrap ((x.toNat : Int) * 2 ^ c.toNat)) ((x.toNat : Int) / 2 ^ (64 - c).toNat) = ((turnB x k).toNat : Int) := by
  subst hc
  rw [shl_val, shr_val, or_val, turnB, rotB, show (64 - k % 64).toNat = 64 - (k % 64).toNat from by omega]

set_option maxHeartbeats 1000000 in
theorem rot_any (x : BitVec 64) (k : Int) (w : World) : Calls Try.prog 89 #[U x, .int .i64 k] w fun e w' => e = .returned (U (turnB x k)) ∧ Ext w w' := by
  rw [show U x = .int .u64 (x.toNat : Int) from rfl]
  have h0 : 0 ≤ bits .and .u64 (IntKind.u64.wrap k) 63 := by rw [and_63]; omega
  have h1 : bits .and .u64 (IntKind.u64.wrap k) 63 ≤ 63 := by rw [and_63]; omega
  go_enter Try.func89, Try.ntmps89
  go_wp2_with fail
  go_ret
  exact ⟨congrArg (fun z => Ending.returned (.int .u64 z)) (turn_val x (and_63 k)), Ext.refl _⟩

theorem tmod_lo (n m : Int) (hm : 0 < m) : -m < n.tmod m ∧ n.tmod m < m := by
  have h1 := Int.tmod_lt_of_pos n hm
  have h2 := Int.tmod_lt_of_pos (-n) hm
  rw [Int.neg_tmod] at h2
  omega
theorem tmod_mod (n : Int) : n.tmod 64 % 64 = n % 64 := by
  have h := Int.tmod_def n 64
  omega

set_option maxHeartbeats 1000000 in
theorem turn_any (x : BitVec 64) (n : Int) (w : World) : Calls Try.prog 78 #[U x, .int .i64 n] w fun e w' => e = .returned (U (turnB x n)) ∧ Ext w w' := by
  rw [show U x = .int .u64 (x.toNat : Int) from rfl]
  obtain ⟨h1, h2⟩ := tmod_lo n 64 (by decide)
  go_enter Try.func78, Try.ntmps78
  go_wp2_with fail
  refine (rot_any x (n.tmod 64) _).mono ?_
  rintro e w1 ⟨rfl, x1⟩
  unfold U
  go_wp2_with fail
  go_ret
  exact ⟨by rw [turn_mod x (n.tmod 64) n (tmod_mod n)]; rfl, x1⟩

/-! Flip -/
def sw (s : Nat) (m x : BitVec 64) : BitVec 64 := x >>> s &&& m ||| (x &&& m) <<< s
def sg (s i : Nat) : Nat := if i / s % 2 = 0 then i + s else i - s
def swOk (s : Nat) (m : BitVec 64) (i : Nat) : Bool := (m.getLsbD i && (decide (i < s) || !m.getLsbD (i - s)) && sg s i == i + s) || (!m.getLsbD i && decide (s ≤ i) && m.getLsbD (i - s) && sg s i == i - s)
theorem sw_bit {s : Nat} {m : BitVec 64} (x : BitVec 64) {i : Nat} (hi : i < 64) (hm : swOk s m i = true) : (sw s m x).getLsbD i = x.getLsbD (sg s i) := by
  simp only [sw, BitVec.getLsbD_or, BitVec.getLsbD_and, BitVec.getLsbD_shiftLeft, BitVec.getLsbD_ushiftRight]
  simp only [swOk, Bool.or_eq_true, Bool.and_eq_true, Bool.not_eq_true', decide_eq_true_eq, beq_iff_eq] at hm
  rcases hm with ⟨⟨h1, h2⟩, h3⟩ | ⟨⟨⟨h1, h2⟩, h3⟩, h4⟩
  · rw [h1, h3, Nat.add_comm i s]
    rcases h2 with h2 | h2
    · simp [h2]
    · simp [h2]
  · rw [h1, h3, h4]
    simp [hi, Nat.not_lt.2 h2]
def m1 : BitVec 64 := 0x5555555555555555#64
def m2 : BitVec 64 := 0x3333333333333333#64
def m4 : BitVec 64 := 0x0f0f0f0f0f0f0f0f#64
def m8 : BitVec 64 := 0x00ff00ff00ff00ff#64
def m16 : BitVec 64 := 0x0000ffff0000ffff#64
def m32 : BitVec 64 := 0x00000000ffffffff#64
set_option maxRecDepth 100000 in
theorem ok1 : ∀ i, i < 64 → swOk 1 m1 i = true := by decide
set_option maxRecDepth 100000 in
theorem ok2 : ∀ i, i < 64 → swOk 2 m2 i = true := by decide
set_option maxRecDepth 100000 in
theorem ok4 : ∀ i, i < 64 → swOk 4 m4 i = true := by decide
set_option maxRecDepth 100000 in
theorem ok8 : ∀ i, i < 64 → swOk 8 m8 i = true := by decide
set_option maxRecDepth 100000 in
theorem ok16 : ∀ i, i < 64 → swOk 16 m16 i = true := by decide
set_option maxRecDepth 100000 in
theorem ok32 : ∀ i, i < 64 → swOk 32 m32 i = true := by decide
theorem sg_lt : ∀ i, i < 64 → (sg 1 i < 64 ∧ sg 2 i < 64 ∧ sg 4 i < 64) ∧ (sg 8 i < 64 ∧ sg 16 i < 64 ∧ sg 32 i < 64) := by decide
theorem sg_all : ∀ i, i < 64 → sg 1 (sg 2 (sg 4 (sg 8 (sg 16 (sg 32 i))))) = 63 - i := by decide
def rev8 (x : BitVec 64) : BitVec 64 := sw 4 m4 (sw 2 m2 (sw 1 m1 x))
def swab (x : BitVec 64) : BitVec 64 := let y := sw 16 m16 (sw 8 m8 x); y >>> 32 ||| y <<< 32
theorem sw32 (y : BitVec 64) : y >>> 32 ||| y <<< 32 = sw 32 m32 y := by
  apply BitVec.eq_of_getLsbD_eq
  intro i hi
  rw [sw_bit y hi (ok32 i hi)]
  simp only [BitVec.getLsbD_or, BitVec.getLsbD_shiftLeft, BitVec.getLsbD_ushiftRight, sg]
  by_cases h : i < 32
  · have : i / 32 % 2 = 0 := by omega
    simp [h, this, Nat.add_comm]
  · have h2 : ¬ i / 32 % 2 = 0 := by omega
    have h3 : y.getLsbD (32 + i) = false := BitVec.getLsbD_of_ge _ _ (by omega)
    simp [h, h2, h3, hi]
theorem swab_rev8 (x : BitVec 64) : swab (rev8 x) = flipB x := by
  apply BitVec.eq_of_getLsbD_eq
  intro i hi
  unfold swab rev8
  have l := fun i (hi : i < 64) => sg_lt i hi
  have h32 := (l i hi).2.2.2
  have h16 := (l _ h32).2.2.1
  have h8 := (l _ h16).2.1
  have h4 := (l _ h8).1.2.2
  have h2 := (l _ h4).1.2.1
  rw [sw32, sw_bit _ hi (ok32 i hi), sw_bit _ h32 (ok16 _ h32), sw_bit _ h16 (ok8 _ h16), sw_bit _ h8 (ok4 _ h8), sw_bit _ h4 (ok2 _ h4), sw_bit _ h2 (ok1 _ h2), flip_bit x hi, sg_all i hi]
theorem sw_val (s : Nat) (m x : BitVec 64) (d c : Nat) (hd : 2 ^ s = d) (hc : m.toNat = c) : bits .or .u64 (bits .and .u64 ((x.toNat : Int) / (d : Int)) (c : Int)) (IntKind.u64.wrap (bits .and .u64 (x.toNat : Int) (c : Int) * (d : Int))) = ((sw s m x).toNat : Int) := by
  subst hd hc
  rw [and_val, Int.natCast_pow, show ((2 : Nat) : Int) = 2 from rfl, shr_val, and_val, shl_val, or_val, sw]

set_option maxHeartbeats 1000000 in
theorem revb_any (x : BitVec 64) (w : World) : Calls Try.prog 92 #[U x] w fun e w' => e = .returned (U (swab x)) ∧ Ext w w' := by
  have hx : ∀ y : BitVec 64, U y = .int .u64 (y.toNat : Int) := fun _ => rfl
  have e8 : ∀ y : BitVec 64, bits .or .u64 (bits .and .u64 ((y.toNat : Int) / 256) 71777214294589695) (IntKind.u64.wrap (bits .and .u64 (y.toNat : Int) 71777214294589695 * 256)) = ((sw 8 m8 y).toNat : Int) := fun y => sw_val 8 m8 y 256 71777214294589695 (by decide) (by decide)
  have e16 : ∀ y : BitVec 64, bits .or .u64 (bits .and .u64 ((y.toNat : Int) / 65536) 281470681808895) (IntKind.u64.wrap (bits .and .u64 (y.toNat : Int) 281470681808895 * 65536)) = ((sw 16 m16 y).toNat : Int) := fun y => sw_val 16 m16 y 65536 281470681808895 (by decide) (by decide)
  have e32 : ∀ y : BitVec 64, bits .or .u64 ((y.toNat : Int) / 4294967296) (IntKind.u64.wrap ((y.toNat : Int) * 4294967296)) = ((y >>> 32 ||| y <<< 32).toNat : Int) := fun y => by
    rw [show (4294967296 : Int) = 2 ^ 32 from by decide, shr_val, shl_val, or_val]
  rw [hx, hx]
  simp only [swab]
  rw [← e32, ← e16, ← e8]
  clear e8 e16 e32 hx
  go_enter Try.func92, Try.ntmps92
  go_wp2_with fail
  go_ret
  exact ⟨rfl, Ext.refl _⟩

set_option maxHeartbeats 1000000 in
theorem rev_any (x : BitVec 64) (w : World) : Calls Try.prog 88 #[U x] w fun e w' => e = .returned (U (flipB x)) ∧ Ext w w' := by
  have e1 : ∀ y : BitVec 64, bits .or .u64 (bits .and .u64 ((y.toNat : Int) / 2) 6148914691236517205) (IntKind.u64.wrap (bits .and .u64 (y.toNat : Int) 6148914691236517205 * 2)) = ((sw 1 m1 y).toNat : Int) := fun y => sw_val 1 m1 y 2 6148914691236517205 (by decide) (by decide)
  have e2 : ∀ y : BitVec 64, bits .or .u64 (bits .and .u64 ((y.toNat : Int) / 4) 3689348814741910323) (IntKind.u64.wrap (bits .and .u64 (y.toNat : Int) 3689348814741910323 * 4)) = ((sw 2 m2 y).toNat : Int) := fun y => sw_val 2 m2 y 4 3689348814741910323 (by decide) (by decide)
  have e4 : ∀ y : BitVec 64, bits .or .u64 (bits .and .u64 ((y.toNat : Int) / 16) 1085102592571150095) (IntKind.u64.wrap (bits .and .u64 (y.toNat : Int) 1085102592571150095 * 16)) = ((sw 4 m4 y).toNat : Int) := fun y => sw_val 4 m4 y 16 1085102592571150095 (by decide) (by decide)
  have hm : ∀ W, Calls Try.prog 92 #[.int .u64 ((rev8 x).toNat : Int)] W fun e w' => e = .returned (U (flipB x)) ∧ Ext W w' := by
    intro W
    rw [← swab_rev8]
    exact revb_any _ _
  unfold rev8 at hm
  rw [← e4, ← e2, ← e1] at hm
  clear e1 e2 e4
  rw [show U x = .int .u64 (x.toNat : Int) from rfl]
  go_enter Try.func88, Try.ntmps88
  go_wp2_with fail
  refine (hm _).mono ?_
  rintro e w1 ⟨rfl, x1⟩
  unfold U
  go_wp2_with fail
  go_ret
  exact ⟨rfl, x1⟩

set_option maxHeartbeats 1000000 in
theorem flip_any (x : BitVec 64) (w : World) : Calls Try.prog 75 #[U x] w fun e w' => e = .returned (U (flipB x)) ∧ Ext w w' := by
  rw [show U x = .int .u64 (x.toNat : Int) from rfl]
  go_enter Try.func75, Try.ntmps75
  go_wp2_with fail
  refine (rev_any x _).mono ?_
  rintro e w1 ⟨rfl, x1⟩
  unfold U
  go_wp2_with fail
  go_ret
  exact ⟨rfl, x1⟩
end Go.Proofs.Ytphpaaaaifpidaa
