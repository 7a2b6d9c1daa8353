/- Package walk: the law of From. -/
import Derived.Test.YtphpaaaaifpidaaWalkG
namespace Go.Proofs.Ytphpaaaaifpidaa
open Go.RowKit
set_option linter.unusedVariables false

/-- What From finds on its way down from a node: 'c': how the key stands to a node's; the way so far, how many stand ahead, the best so far. -/
def fromS (c : Int → Int) : A → List (A × Bool) → Int → List (A × Bool) × Int → List (A × Bool) × Int
  | .nil, _, _, best => best
  | .node b k x g l r, pre, ah, best =>
    if c k = 0 then (pre ++ [(.node b k x g l r, false)], ah + l.size)
    else if c k < 0 then fromS c l (pre ++ [(.node b k x g l r, false)]) ah (pre ++ [(.node b k x g l r, false)], ah + l.size)
    else fromS c r (pre ++ [(.node b k x g l r, true)]) (ah + l.size + 1) best
/-- The place of the last node on the way that the key does not stand behind; below 0: there is none. -/
def lastT (c : Int → Int) : T → Int
  | .nil => -1
  | .node k _ _ l r =>
    if c k = 0 then l.size else if c k < 0 then (if 0 ≤ lastT c l then lastT c l else l.size) else (if 0 ≤ lastT c r then l.size + 1 + lastT c r else -1)
theorem from_law (c : Int → Int) : ∀ (a : A) (pre : List (A × Bool)) (ah : Int) (best : List (A × Bool) × Int),
    (0 ≤ lastT c a.tree → ∃ s, Pth a (lastT c a.tree).toNat s ∧ fromS c a pre ah best = (pre ++ s, ah + lastT c a.tree)) ∧ (lastT c a.tree < 0 → fromS c a pre ah best = best)
  | .nil, pre, ah, best => ⟨fun h => by simp [A.tree, lastT] at h, fun _ => rfl⟩
  | .node b k x g l r, pre, ah, best => by
    have sl := A.size_tree l
    by_cases h0 : c k = 0
    · simp only [A.tree, lastT, fromS, if_pos h0, sl]
      exact ⟨fun _ => ⟨[(.node b k x g l r, false)], .inr (.inl ⟨by simp, _, rfl⟩), rfl⟩, fun h => by omega⟩
    · by_cases h1 : c k < 0
      · obtain ⟨i1, i2⟩ := from_law c l (pre ++ [(.node b k x g l r, false)]) ah (pre ++ [(.node b k x g l r, false)], ah + l.size)
        simp only [A.tree, lastT, fromS, if_neg h0, if_pos h1, sl]
        by_cases h2 : 0 ≤ lastT c l.tree
        · obtain ⟨s, h3, h4⟩ := i1 h2
          rw [if_pos h2]
          exact ⟨fun _ => ⟨_ :: s, .inl ⟨h3.lt, _, rfl, h3⟩, by rw [h4]; simp⟩, fun h => by omega⟩
        · rw [if_neg h2]
          exact ⟨fun _ => ⟨[(.node b k x g l r, false)], .inr (.inl ⟨by simp, _, rfl⟩), i2 (by omega)⟩, fun h => by omega⟩
      · obtain ⟨i1, i2⟩ := from_law c r (pre ++ [(.node b k x g l r, true)]) (ah + l.size + 1) best
        simp only [A.tree, lastT, fromS, if_neg h0, if_neg h1, sl]
        by_cases h2 : 0 ≤ lastT c r.tree
        · obtain ⟨s, h3, h4⟩ := i1 h2
          rw [if_pos h2]
          refine ⟨fun _ => ⟨_ :: s, .inr (.inr ⟨by omega, _, rfl, ?_⟩), by rw [h4]; simp; omega⟩, fun h => by omega⟩
          rwa [show ((l.size : Int) + 1 + lastT c r.tree).toNat - l.size - 1 = (lastT c r.tree).toNat from by omega]
        · rw [if_neg h2]
          exact ⟨fun h => by omega, fun _ => i2 (by omega)⟩
/-- Where a walk from a key stands. -/
def fromP (c : Int → Int) (t : T) : Int := if lastT c t < 0 then t.size else lastT c t
theorem from_wks (c : Int → Int) (a : A) : WkS a (fromP c a.tree) (fromS c a [] 0 ([], (a.size : Int))).1 ∧ (fromS c a [] 0 ([], (a.size : Int))).2 = fromP c a.tree := by
  obtain ⟨h1, h2⟩ := from_law c a [] 0 ([], (a.size : Int))
  unfold fromP
  by_cases h : lastT c a.tree < 0
  · rw [if_pos h, h2 h, A.size_tree]
    exact ⟨.inl ⟨.inr rfl, rfl⟩, rfl⟩
  · rw [if_neg h]
    obtain ⟨s, h3, h4⟩ := h1 (by omega)
    rw [h4]
    exact ⟨.inr ⟨(lastT c a.tree).toNat, by omega, by simpa using h3⟩, by simp⟩
theorem lastT_range (c : Int → Int) : ∀ t : T, -1 ≤ lastT c t ∧ lastT c t < t.size
  | .nil => by simp [lastT, T.size]
  | .node k _ _ l r => by
    have h1 := lastT_range c l
    have h2 := lastT_range c r
    simp only [lastT, T.size]
    repeat' split
    all_goals omega
end Go.Proofs.Ytphpaaaaifpidaa
