/- THE PLAIN LAW of turning numbers about: words of 64 bits. No program in sight. -/
import Derived.IntWalk
import Derived.Laws.Bits64
namespace Go.Proofs.Ytphpaaaaifpidaa

def c0 : BitVec 64 := 0xbf58476d1ce4e5b9#64
def c1 : BitVec 64 := 0x94d049bb133111eb#64
def i0 : BitVec 64 := 0x96de1b173f119089#64
def i1 : BitVec 64 := 0x319642b2d24d8ec3#64
theorem c0_i0 : c0 * i0 = 1#64 := by decide
theorem c1_i1 : c1 * i1 = 1#64 := by decide

/-- A number and itself shifted. -/
def xs (s : Nat) (x : BitVec 64) : BitVec 64 := x ^^^ x >>> s
/-- What undoes that. -/
def un (s : Nat) (x : BitVec 64) : BitVec 64 := x ^^^ x >>> s ^^^ x >>> (2 * s)
theorem un_bit (s : Nat) (x : BitVec 64) (i : Nat) : (un s x).getLsbD i = (x.getLsbD i ^^ x.getLsbD (s + i) ^^ x.getLsbD (2 * s + i)) := by
  simp [un, BitVec.getLsbD_xor, BitVec.getLsbD_ushiftRight]
theorem xs_bit (s : Nat) (x : BitVec 64) (i : Nat) : (xs s x).getLsbD i = (x.getLsbD i ^^ x.getLsbD (s + i)) := by
  simp [xs, BitVec.getLsbD_xor, BitVec.getLsbD_ushiftRight]
theorem un_xs {s : Nat} (hs : 22 ≤ s) (x : BitVec 64) : un s (xs s x) = x := by
  apply BitVec.eq_of_getLsbD_eq
  intro i hi
  rw [un_bit, xs_bit, xs_bit, xs_bit]
  have h : x.getLsbD (s + (2 * s + i)) = false := BitVec.getLsbD_of_ge _ _ (by omega)
  rw [h, show s + (s + i) = 2 * s + i from by omega]
  cases x.getLsbD i <;> cases x.getLsbD (s + i) <;> cases x.getLsbD (2 * s + i) <;> rfl
theorem xs_un {s : Nat} (hs : 22 ≤ s) (x : BitVec 64) : xs s (un s x) = x := by
  apply BitVec.eq_of_getLsbD_eq
  intro i hi
  rw [xs_bit, un_bit, un_bit]
  have h : x.getLsbD (2 * s + (s + i)) = false := BitVec.getLsbD_of_ge _ _ (by omega)
  rw [h, show s + (s + i) = 2 * s + i from by omega]
  cases x.getLsbD i <;> cases x.getLsbD (s + i) <;> cases x.getLsbD (2 * s + i) <;> rfl

def mixB (x : BitVec 64) : BitVec 64 := xs 31 (xs 27 (xs 30 x * c0) * c1) * 1#64
def unmixB (x : BitVec 64) : BitVec 64 := un 30 (un 27 (un 31 (x * 1#64) * i1) * i0)
theorem mul_back {a b : BitVec 64} (h : a * b = 1#64) (x : BitVec 64) : x * a * b = x := by rw [BitVec.mul_assoc, h, BitVec.mul_one]
theorem unmix_mix (x : BitVec 64) : unmixB (mixB x) = x := by
  unfold unmixB mixB
  rw [BitVec.mul_one, BitVec.mul_one, un_xs (by omega), mul_back c1_i1, un_xs (by omega), mul_back c0_i0, un_xs (by omega)]
theorem mix_unmix (x : BitVec 64) : mixB (unmixB x) = x := by
  unfold unmixB mixB
  rw [xs_un (by omega), mul_back (by rw [BitVec.mul_comm]; exact c0_i0), xs_un (by omega), mul_back (by rw [BitVec.mul_comm]; exact c1_i1), xs_un (by omega), BitVec.mul_one, BitVec.mul_one]
theorem mix_inj {x y : BitVec 64} (h : mixB x = mixB y) : x = y := by rw [← unmix_mix x, h, unmix_mix]
theorem unmix_inj {x y : BitVec 64} (h : unmixB x = unmixB y) : x = y := by rw [← mix_unmix x, h, mix_unmix]

/-- Turned to the left. -/
def rotB (x : BitVec 64) (r : Nat) : BitVec 64 := x <<< r ||| x >>> (64 - r)
theorem rot_bit (x : BitVec 64) {r : Nat} (hr : r < 64) {i : Nat} (hi : i < 64) : (rotB x r).getLsbD i = x.getLsbD ((i + 64 - r) % 64) := by
  simp only [rotB, BitVec.getLsbD_or, BitVec.getLsbD_shiftLeft, BitVec.getLsbD_ushiftRight]
  by_cases h : i < r
  · have h1 : (i + 64 - r) % 64 = 64 - r + i := by omega
    simp [h, hi, h1]
  · have h1 : (i + 64 - r) % 64 = i - r := by omega
    have h2 : x.getLsbD (64 - r + i) = false := BitVec.getLsbD_of_ge _ _ (by omega)
    simp [h, hi, h1, h2]
/-- Turned by any number. -/
def turnB (x : BitVec 64) (n : Int) : BitVec 64 := rotB x (n % 64).toNat
theorem turn_bit (x : BitVec 64) (n : Int) {i : Nat} (hi : i < 64) : (turnB x n).getLsbD i = x.getLsbD (((i : Int) - n) % 64).toNat := by
  unfold turnB
  rw [rot_bit x (by omega) hi]
  congr 1
  omega
theorem turn_turn (x : BitVec 64) (a b : Int) : turnB (turnB x a) b = turnB x (a + b) := by
  apply BitVec.eq_of_getLsbD_eq
  intro i hi
  rw [turn_bit _ _ hi, turn_bit _ _ (by omega), turn_bit _ _ hi]
  congr 1
  omega
theorem turn_zero (x : BitVec 64) (n : Int) (h : n % 64 = 0) : turnB x n = x := by
  apply BitVec.eq_of_getLsbD_eq
  intro i hi
  rw [turn_bit _ _ hi]
  congr 1
  omega
theorem turn_mod (x : BitVec 64) (n m : Int) (h : n % 64 = m % 64) : turnB x n = turnB x m := by unfold turnB; rw [h]

/-- The other way round. -/
def flipB (x : BitVec 64) : BitVec 64 := x.reverse
theorem flip_bit (x : BitVec 64) {i : Nat} (hi : i < 64) : (flipB x).getLsbD i = x.getLsbD (63 - i) := by
  unfold flipB
  rw [BitVec.getLsbD_reverse, BitVec.getMsbD_eq_getLsbD]
  simp [hi]
theorem flip_flip (x : BitVec 64) : flipB (flipB x) = x := by
  apply BitVec.eq_of_getLsbD_eq
  intro i hi
  rw [flip_bit _ hi, flip_bit _ (by omega)]
  congr 1; omega
theorem flip_turn (x : BitVec 64) (a : Int) : flipB (turnB x a) = turnB (flipB x) (-a) := by
  apply BitVec.eq_of_getLsbD_eq
  intro i hi
  rw [flip_bit _ hi, turn_bit _ _ (by omega), turn_bit _ _ hi, flip_bit _ (by omega)]
  congr 1; omega
end Go.Proofs.Ytphpaaaaifpidaa
