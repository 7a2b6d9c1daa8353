/- THE PLAIN LAW of numbers as text: what is written as a number is read as that number. No program in sight. -/
import Derived.Lib.ItoaMem
import Derived.Lib.ItoaLen
import Derived.Lib.ParseIntBTie
import Derived.Lib.ParseIntBCases
import Derived.Lib.AtoiAllCases
namespace Go.Proofs.YtgpegcjgmoiglaaDoor
open Go.Lib

/-- A digit, or -. -/
def isW (c : UInt8) : Bool := c == 45 || (decide (48 ≤ c.toNat) && decide (c.toNat ≤ 57))
theorem ofNat_digit {d : Nat} (h : d < 10) : (UInt8.ofNat (48 + d)).toNat = 48 + d := by
  rw [UInt8.toNat_ofNat']; omega
theorem decDigits_digits : ∀ (u : Nat), ∀ c ∈ decDigits u, 48 ≤ c.toNat ∧ c.toNat ≤ 57 := by
  intro u
  induction u using Nat.strongRecOn with
  | ind u ih =>
    intro c hc
    rw [decDigits] at hc
    split at hc
    · rename_i h
      simp only [List.mem_singleton] at hc
      subst hc
      rw [ofNat_digit h]; omega
    · rename_i h
      rcases List.mem_append.1 hc with hc | hc
      · exact ih (u / 10) (by omega) c hc
      · simp only [List.mem_singleton] at hc
        subst hc
        rw [ofNat_digit (Nat.mod_lt _ (by omega))]
        have := Nat.mod_lt u (show 10 > 0 from by omega)
        omega
theorem decDigits_ne (u : Nat) : decDigits u ≠ [] := by
  rw [decDigits]; split <;> simp
theorem parse_snoc (c : UInt8) : ∀ (l : List UInt8) (acc : Nat), parseUint10 acc (l ++ [c]) = (match parseUint10 acc l with
    | .ok a => parseUint10 a [c]
    | e => e)
  | [], acc => rfl
  | d :: l, acc => by
    simp only [List.cons_append, parseUint10]
    split
    · split
      · rfl
      · split
        · rfl
        · exact parse_snoc c l _
    · rfl
theorem parse_dec (u : Nat) (h : u < 18446744073709551616) : parseUint10 0 (decDigits u) = .ok u := by
  induction u using Nat.strongRecOn with
  | ind u ih =>
    rw [decDigits]
    split
    · rename_i h1
      simp only [parseUint10, ofNat_digit h1]
      rw [if_pos (by omega), if_neg (by omega), if_neg (by omega)]
      congr 1; omega
    · rename_i h1
      rw [parse_snoc, ih (u / 10) (by omega) (by omega)]
      have hm := Nat.mod_lt u (show 10 > 0 from by omega)
      simp only [parseUint10, ofNat_digit hm]
      rw [if_pos (by omega), if_neg (by omega), if_neg (by omega)]
      congr 1; omega
theorem parseMag_dec (u : Nat) (h : u < 18446744073709551616) : parseMag (decDigits u) = .ok u := by
  unfold parseMag; rw [if_neg (decDigits_ne u)]; exact parse_dec u h
/-- A tag, read back. -/
theorem parseU_dec (u : Nat) (h : u < 18446744073709551616) : parseUintB 64 (decDigits u) = .ok u := by rw [parseUintB_64]; exact parseMag_dec u h
theorem parseU_lt {l : List UInt8} {u : Nat} (h : parseUintB 64 l = .ok u) : u < 18446744073709551616 := by rw [parseUintB_64] at h; exact parseMag_lt h
/-- A number, read back. -/
theorem parseI_itoa (n : Int) (h0 : -9223372036854775808 ≤ n) (h1 : n ≤ 9223372036854775807) : parseIntB 64 (itoa n) = .ok n := by
  rw [parseIntB_64]
  by_cases h : n < 0
  · obtain ⟨u, rfl⟩ : ∃ u : Nat, n = -(u : Int) := ⟨n.natAbs, by omega⟩
    rw [itoa_neg u (by omega), atoiAll_minus, parseMag_dec u (by omega)]
    simp only [signed]
    rw [if_neg (by omega)]
  · obtain ⟨u, rfl⟩ : ∃ u : Nat, n = (u : Int) := ⟨n.toNat, by omega⟩
    rw [itoa_nonneg]
    obtain ⟨c, r, e⟩ : ∃ c r, decDigits u = c :: r := by
      cases e : decDigits u with
      | nil => exact absurd e (decDigits_ne u)
      | cons c r => exact ⟨c, r, rfl⟩
    have hc := decDigits_digits u c (by rw [e]; simp)
    have hp := parseMag_dec u (by omega)
    rw [e] at hp ⊢
    rw [atoiAll_plain c r (by omega) (by omega), hp]
    simp only [signless]
    rw [if_neg (by omega)]
theorem parseI_bounds {l : List UInt8} {v : Int} (h : parseIntB 64 l = .ok v) : -9223372036854775808 ≤ v ∧ v ≤ 9223372036854775807 := by
  have := parseIntB_bounds h
  have e : (2 ^ (64 - 1) : Nat) = 9223372036854775808 := by decide
  rw [e] at this
  omega
theorem intSat_bounds (l : List UInt8) : -9223372036854775808 ≤ intSat 64 l ∧ intSat 64 l ≤ 9223372036854775807 := by
  unfold intSat; split <;> (constructor <;> decide)
theorem itoa_word (n : Int) : ∀ c ∈ itoa n, isW c = true := by
  intro c hc
  unfold itoa at hc
  split at hc
  · rcases List.mem_cons.1 hc with rfl | hc
    · rfl
    · have := decDigits_digits _ c hc
      simp [isW, this]
  · have := decDigits_digits _ c hc
    simp [isW, this]
theorem dec_word (n : Nat) : ∀ c ∈ decDigits n, isW c = true := by
  intro c hc
  have := decDigits_digits _ c hc
  simp [isW, this]
/-- The word at the front of a text. -/
def wordL (s : List UInt8) : List UInt8 := s.takeWhile isW
def restL (s : List UInt8) : List UInt8 := s.dropWhile isW
theorem word_rest (s : List UInt8) : wordL s ++ restL s = s := List.takeWhile_append_dropWhile
theorem word_app {w s : List UInt8} (h : ∀ c ∈ w, isW c = true) (hs : ∀ c, s.head? = some c → isW c = false) : wordL (w ++ s) = w ∧ restL (w ++ s) = s := by
  unfold wordL restL
  rw [List.takeWhile_append_of_pos h, List.dropWhile_append_of_pos h]
  cases s with
  | nil => simp
  | cons c s =>
    have := hs c rfl
    rw [List.takeWhile_cons, List.dropWhile_cons]
    simp [this]
end Go.Proofs.YtgpegcjgmoiglaaDoor
