/- THE PLAIN LAW of shapes: a tree's line; what reads a line strictly, and what reads it leniently; what makes a tree of beads. No program in sight. -/
import Derived.Test.YtgpegcjgmoiglaaDoorBeadLaw
import Derived.Test.YtgpegcjgmoiglaaDoorNumLaw
namespace Go.Proofs.YtgpegcjgmoiglaaDoor
open Go.Lib

def I64 (n : Int) : Prop := -9223372036854775808 ≤ n ∧ n ≤ 9223372036854775807
/-- The numbers of a tree are what the program's kinds hold. -/
def RngT : T → Prop
  | .nil => True
  | .node k x g l r => I64 k ∧ I64 x ∧ (0 ≤ g ∧ g < 18446744073709551616) ∧ RngT l ∧ RngT r
/-- A tag as it stands in a line. -/
def tagL (g : Int) : List UInt8 := if g = 0 then [] else 35 :: decDigits g.toNat
/-- A node's numbers. -/
def midL (k x g : Int) : List UInt8 := 32 :: (itoa k ++ 58 :: (itoa x ++ (tagL g ++ [32])))
def lineT : T → List UInt8
  | .nil => [46]
  | .node k x g l r => 40 :: (lineT l ++ (midL k x g ++ (lineT r ++ [41])))
theorem lineT_ne (t : T) : lineT t ≠ [] := by cases t <;> simp [lineT]

/-! ### The strict reader. -/
def signR (c : UInt8) : List UInt8 → Option (List UInt8)
  | [] => none
  | d :: s => if d = c then some s else none
def numR (s : List UInt8) : Option (Int × List UInt8) := match parseIntB 64 (wordL s) with
  | .ok n => if itoa n = wordL s then some (n, restL s) else none
  | _ => none
def tagR : List UInt8 → Option (Int × List UInt8)
  | [] => some (0, [])
  | d :: s => if d = 35 then (match parseUintB 64 (wordL s) with
      | .ok u => if 0 < u ∧ decDigits u = wordL s then some ((u : Int), restL s) else none
      | _ => none) else some (0, d :: s)
def treeR : Nat → List UInt8 → Nat → Option (T × List UInt8 × Nat)
  | left, s, m => if s.head? = some 46 then some (.nil, s.tail, m) else
    match signR 40 s with
    | none => none
    | some s1 => match left with
      | 0 => none
      | left + 1 => if 65536 < m + 1 then none else
        match treeR left s1 (m + 1) with
        | none => none
        | some (a, s2, m2) => match signR 32 s2 with
          | none => none
          | some s3 => match numR s3 with
            | none => none
            | some (k, s4) => match signR 58 s4 with
              | none => none
              | some s5 => match numR s5 with
                | none => none
                | some (x, s6) => match tagR s6 with
                  | none => none
                  | some (g, s7) => match signR 32 s7 with
                    | none => none
                    | some s8 => match treeR left s8 m2 with
                      | none => none
                      | some (b, s9, m3) => match signR 41 s9 with
                        | none => none
                        | some s10 => some (.node k x g a b, s10, m3)
theorem signR_some {c : UInt8} {s s1 : List UInt8} (h : signR c s = some s1) : s = c :: s1 := by
  cases s with
  | nil => cases h
  | cons d s =>
    simp only [signR] at h
    split at h
    · rename_i e; simp at h; rw [e, h]
    · cases h
theorem signR_cons (c : UInt8) (s : List UInt8) : signR c (c :: s) = some s := by simp [signR]
theorem numR_some {s s1 : List UInt8} {n : Int} (h : numR s = some (n, s1)) : s = itoa n ++ s1 ∧ I64 n := by
  unfold numR at h
  split at h
  · rename_i n' hp
    split at h
    · rename_i e
      simp only [Option.some.injEq, Prod.mk.injEq] at h
      obtain ⟨rfl, rfl⟩ := h
      exact ⟨by rw [e, word_rest], parseI_bounds hp⟩
    · cases h
  · cases h
theorem numR_of {n : Int} (h : I64 n) {c : UInt8} {s : List UInt8} (hc : isW c = false) : numR (itoa n ++ c :: s) = some (n, c :: s) := by
  obtain ⟨h1, h2⟩ := word_app (w := itoa n) (s := c :: s) (itoa_word n) (by intro d hd; simp at hd; rw [← hd]; exact hc)
  unfold numR
  rw [h1, h2, parseI_itoa n h.1 h.2]
  simp
theorem tagR_some {s s1 : List UInt8} {g : Int} (h : tagR s = some (g, s1)) : s = tagL g ++ s1 ∧ (0 ≤ g ∧ g < 18446744073709551616) := by
  cases s with
  | nil =>
    simp only [tagR, Option.some.injEq, Prod.mk.injEq] at h
    obtain ⟨rfl, rfl⟩ := h
    exact ⟨by simp [tagL], by omega⟩
  | cons d s =>
    simp only [tagR] at h
    split at h
    · rename_i e
      subst e
      split at h
      · rename_i u hp
        split at h
        · rename_i hu
          simp only [Option.some.injEq, Prod.mk.injEq] at h
          obtain ⟨rfl, rfl⟩ := h
          have := parseU_lt hp
          refine ⟨?_, by omega⟩
          unfold tagL
          rw [if_neg (by omega), Int.toNat_natCast, hu.2, List.cons_append, word_rest]
        · cases h
      · cases h
    · simp only [Option.some.injEq, Prod.mk.injEq] at h
      obtain ⟨rfl, rfl⟩ := h
      exact ⟨by simp [tagL], by omega⟩
theorem tagR_of {g : Int} (h0 : 0 ≤ g) (h1 : g < 18446744073709551616) (s : List UInt8) : tagR (tagL g ++ 32 :: s) = some (g, 32 :: s) := by
  unfold tagL
  split
  · rename_i e; subst e; simp [tagR]
  · rename_i e
    obtain ⟨u, rfl⟩ : ∃ u : Nat, g = (u : Int) := ⟨g.toNat, by omega⟩
    rw [Int.toNat_natCast, List.cons_append]
    simp only [tagR, if_true]
    obtain ⟨w1, w2⟩ := word_app (w := decDigits u) (s := 32 :: s) (dec_word u) (by intro d hd; simp at hd; rw [← hd]; rfl)
    rw [w1, w2, parseU_dec u (by omega)]
    simp; omega
theorem tagL_head (g : Int) (s : List UInt8) (c : UInt8) (h : (tagL g ++ 32 :: s).head? = some c) : isW c = false := by
  unfold tagL at h
  split at h
  · simp at h; rw [← h]; rfl
  · simp at h; rw [← h]; rfl
/-- What it reads is a tree's line. -/
theorem treeR_some : ∀ {left : Nat} {s s1 : List UInt8} {m m1 : Nat} {t : T}, treeR left s m = some (t, s1, m1) →
    s = lineT t ++ s1 ∧ t.height ≤ left ∧ m1 = m + t.size ∧ (t.some = true → m1 ≤ 65536) ∧ RngT t
  | left, s, s1, m, m1, t, h => by
    rw [treeR] at h
    split at h
    · rename_i hd
      simp only [Option.some.injEq, Prod.mk.injEq] at h
      obtain ⟨rfl, rfl, rfl⟩ := h
      obtain ⟨s', rfl⟩ : ∃ s', s = 46 :: s' := by
        cases s with
        | nil => simp at hd
        | cons c s' => simp at hd; exact ⟨s', by rw [hd]⟩
      exact ⟨rfl, Nat.zero_le _, rfl, fun h => by simp [T.some] at h, trivial⟩
    · split at h
      · cases h
      · rename_i s1' e1
        cases left with
        | zero => cases h
        | succ left =>
          simp only at h
          split at h
          · cases h
          · rename_i hm
            split at h
            · cases h
            · rename_i a s2 m2 e2
              split at h
              · cases h
              · rename_i s3 e3
                split at h
                · cases h
                · rename_i k s4 e4
                  split at h
                  · cases h
                  · rename_i s5 e5
                    split at h
                    · cases h
                    · rename_i x s6 e6
                      split at h
                      · cases h
                      · rename_i g s7 e7
                        split at h
                        · cases h
                        · rename_i s8 e8
                          split at h
                          · cases h
                          · rename_i b s9 m3 e9
                            split at h
                            · cases h
                            · rename_i s10 e10
                              simp only [Option.some.injEq, Prod.mk.injEq] at h
                              obtain ⟨rfl, rfl, rfl⟩ := h
                              obtain ⟨p1, p2, p3, p4, p5⟩ := treeR_some e2
                              obtain ⟨q1, q2, q3, q4, q5⟩ := treeR_some e9
                              obtain ⟨k1, k2⟩ := numR_some e4
                              obtain ⟨x1, x2⟩ := numR_some e6
                              obtain ⟨g1, g2⟩ := tagR_some e7
                              refine ⟨?_, ?_, ?_, ?_, k2, x2, g2, p5, q5⟩
                              · rw [signR_some e1, p1, signR_some e3, k1, signR_some e5, x1, g1, signR_some e8, q1, signR_some e10]
                                simp [lineT, midL]
                              · simp only [T.height]; omega
                              · simp only [T.size]; omega
                              · intro _
                                cases hb : b.some with
                                | true => exact q4 hb
                                | false =>
                                  have hb0 : b.size = 0 := by cases b <;> first | rfl | cases hb
                                  cases ha : a.some with
                                  | true => have := p4 ha; omega
                                  | false =>
                                    have ha0 : a.size = 0 := by cases a <;> first | rfl | cases ha
                                    omega
/-- It reads each tree's line. -/
theorem treeR_of : ∀ {t : T} {left m : Nat} (rest : List UInt8), t.height ≤ left → m + t.size ≤ 65536 → RngT t → treeR left (lineT t ++ rest) m = some (t, rest, m + t.size)
  | .nil, left, m, rest, _, _, _ => by rw [treeR]; simp [lineT, T.size]
  | .node k x g a b, left, m, rest, hh, hm, ⟨hk, hx, hg, ha, hb⟩ => by
    simp only [T.height, T.size] at hh hm
    obtain ⟨left, rfl⟩ : ∃ l, left = l + 1 := ⟨left - 1, by omega⟩
    have e : lineT (.node k x g a b) ++ rest = 40 :: (lineT a ++ (32 :: (itoa k ++ 58 :: (itoa x ++ (tagL g ++ 32 :: (lineT b ++ 41 :: rest)))))) := by simp [lineT, midL]
    rw [e, treeR]
    rw [if_neg (by simp)]
    simp only [signR_cons]
    rw [if_neg (by omega)]
    rw [treeR_of _ (by omega) (by omega) ha]
    simp only [signR_cons]
    rw [numR_of hk rfl]
    simp only [signR_cons]
    have hx2 : numR (itoa x ++ (tagL g ++ 32 :: (lineT b ++ 41 :: rest))) = some (x, tagL g ++ 32 :: (lineT b ++ 41 :: rest)) := by
      cases et : tagL g ++ 32 :: (lineT b ++ 41 :: rest) with
      | nil => simp at et
      | cons c s => exact numR_of hx (tagL_head g (lineT b ++ 41 :: rest) c (by rw [et]; rfl))
    rw [hx2]
    simp only
    rw [tagR_of hg.1 hg.2]
    simp only [signR_cons]
    rw [treeR_of _ (by omega) (by omega) hb]
    simp only [signR_cons, T.size]
    congr 3; omega
end Go.Proofs.YtgpegcjgmoiglaaDoor
