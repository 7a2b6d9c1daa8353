/- KEYS: how they stand by an order; the keys of a tree. -/
import Derived.Test.YtphpaaaaifpidaaRef02
import Derived.Test.YtphpaaaaifpidaaBeadLaw
namespace Go.Proofs.Ytphpaaaaifpidaa
open Go.RowKit

/-- A key is in range. -/
def InR (a : Int) : Prop := -9223372036854775808 ≤ a ∧ a ≤ 9223372036854775807
/-- The code of a key. -/
def codeK (o : Nat) (a : Int) : Int := ((CO o (BitVec.ofInt 64 a)).toNat : Int)
/-- How two keys stand. -/
def cmpK (o : Nat) (a b : Int) : Int := cmpI (codeK o a) (codeK o b)
theorem ofInt_word {n : Int} (h : InR n) : (BitVec.ofInt 64 n).toInt = n := by
  obtain ⟨h1, h2⟩ := h
  rcases toInt_cases (BitVec.ofInt 64 n) with ⟨h1, h2⟩ | ⟨h1, h2⟩ <;> rw [h2] <;> rw [BitVec.toNat_ofInt] at * <;> omega
theorem compareK {o : Nat} {a b : Int} (h1 : 1 ≤ o) (h2 : o ≤ 7) (ha : InR a) (hb : InR b) (W : World) : Calls Try.prog 15 #[.int .u8 (o : Int), .int .i64 a, .int .i64 b] W fun e w' => e = .returned (.int .i64 (cmpK o a b)) ∧ Ext W w' :=
  compare_is (BitVec.ofInt 64 a) (BitVec.ofInt 64 b) h1 h2 rfl (ofInt_word ha) (ofInt_word hb) rfl
theorem rcompareK {o : Nat} {a b : Int} (h1 : 1 ≤ o) (h2 : o ≤ 7) (ha : InR a) (hb : InR b) (W : World) : Calls Try.prog 16 #[.int .u8 (o : Int), .int .i64 a, .int .i64 b] W fun e w' => e = .returned (.int .i64 (cmpK o a b)) ∧ Ext W w' := by
  have := rcmp_o o h1 h2 (BitVec.ofInt 64 a) (BitVec.ofInt 64 b) W
  unfold KW at this
  rw [ofInt_word ha, ofInt_word hb] at this
  exact this
/-- All keys are in range. -/
def KeysR : T → Prop
  | .nil => True
  | .node k _ _ l r => InR k ∧ KeysR l ∧ KeysR r
/-- The keys of a tree, from left to right. -/
def T.keys : T → List Int
  | .nil => []
  | .node k _ _ l r => l.keys ++ k :: r.keys
end Go.Proofs.Ytphpaaaaifpidaa
