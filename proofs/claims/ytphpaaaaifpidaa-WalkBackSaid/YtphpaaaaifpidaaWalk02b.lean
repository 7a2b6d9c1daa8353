/- How numbers are held against each other. -/
import Derived.Test.YtphpaaaaifpidaaWalk02
namespace Go.Proofs.Ytphpaaaaifpidaa
open Go.RowKit

theorem cmp_three (a b : Int) : cmpI a b = -1 ∨ cmpI a b = 0 ∨ cmpI a b = 1 := by
  unfold cmpI
  split
  · exact .inl rfl
  · split
    · exact .inr (.inr rfl)
    · exact .inr (.inl rfl)
theorem cmp_zero (a b : Int) : cmpI a b = 0 ↔ a = b := by
  unfold cmpI
  split
  · constructor <;> intro h <;> omega
  · split
    · constructor <;> intro h <;> omega
    · constructor <;> intro h <;> omega
theorem cmp_turn (a b : Int) : cmpI b a = -cmpI a b := by
  unfold cmpI
  split <;> split <;> (try split) <;> omega
theorem cmp_row (a b c : Int) : 0 < cmpI a b ∨ 0 < cmpI b c ∨ cmpI a c = min (cmpI a b) (cmpI b c) := by
  unfold cmpI
  split <;> split <;> split <;> (try split) <;> (try split) <;> (try split) <;> omega
theorem CO_inj {o : Nat} (h : o ≤ 7) {x y : BitVec 64} : ((CO o x).toNat : Int) = (CO o y).toNat ↔ x = y := by
  constructor
  · intro e
    have e2 : CO o x = CO o y := BitVec.eq_of_toNat_eq (by omega)
    have := congrArg (KO o) e2
    rwa [KO_CO o h, KO_CO o h] at this
  · intro e; rw [e]

end Go.Proofs.Ytphpaaaaifpidaa
