/- THE PLAIN LAW of the document's reader: it takes words first and asks for numbers later. No program in sight. -/
import Derived.Test.YtgpegcjgmoiglaaDoorTakeLaw
namespace Go.Proofs.YtgpegcjgmoiglaaDoor
open Go.Lib

/-- A tree of words. -/
inductive W where
  | nil
  | node (k x g : List UInt8) (l r : W)
def gW (s : List UInt8) : List UInt8 × List UInt8 := if s.head? = some 35 then (wordL s.tail, restL s.tail) else ([48], s)
def bodyW (f : List UInt8 → Option (W × List UInt8)) (s : List UInt8) : Option (W × List UInt8) := match signR 40 s with
  | none => none
  | some s1 => match f s1 with
    | none => none
    | some (a, s2) => match signR 32 s2 with
      | none => none
      | some s3 => match signR 58 (restL s3) with
        | none => none
        | some s5 => match signR 32 (gW (restL s5)).2 with
          | none => none
          | some s8 => match f s8 with
            | none => none
            | some (b, s9) => match signR 41 s9 with
              | none => none
              | some s10 => some (.node (wordL s3) (wordL s5) (gW (restL s5)).1 a b, s10)
def takeW : Nat → List UInt8 → Option (W × List UInt8)
  | 0, s => if s.head? = some 46 then some (.nil, s.tail) else none
  | left + 1, s => if s.head? = some 46 then some (.nil, s.tail) else bodyW (takeW left) s
theorem takeW_def (left : Nat) (s : List UInt8) : takeW left s = if s.head? = some 46 then some (.nil, s.tail) else (match left with
    | 0 => none
    | left + 1 => bodyW (takeW left) s) := by cases left <;> rfl
def NumOf (k : List UInt8) (n : Int) : Prop := I64 n ∧ ∀ m, parseIntB 64 k = .ok m → n = m
def TagOf (g : List UInt8) (n : Int) : Prop := (0 ≤ n ∧ n < 18446744073709551616) ∧ ∀ m : Nat, parseUintB 64 g = .ok m → n = m
/-- A tree whose numbers are those that the words are, if they are numbers. -/
def Fit : W → T → Prop
  | .nil, .nil => True
  | .node k x g l r, .node k' x' g' l' r' => NumOf k k' ∧ NumOf x x' ∧ TagOf g g' ∧ Fit l l' ∧ Fit r r'
  | _, _ => False
theorem Fit.rng : ∀ {q : W} {t : T}, Fit q t → RngT t
  | .nil, .nil, _ => trivial
  | .node .., .node .., ⟨h1, h2, h3, h4, h5⟩ => ⟨h1.1, h2.1, h3.1, h4.rng, h5.rng⟩
  | .nil, .node .., h => h.elim
  | .node .., .nil, h => h.elim
theorem word_rest_len (s : List UInt8) : (wordL s).length + (restL s).length = s.length := by
  have := congrArg List.length (word_rest s)
  simpa using this
theorem gW_len (s : List UInt8) : (gW s).2.length ≤ s.length := by
  unfold gW
  split
  · have := word_rest_len s.tail
    simp at this ⊢; omega
  · exact Nat.le_refl _
theorem signR_len' {c : UInt8} {s s1 : List UInt8} (h : signR c s = some s1) : s1.length + 1 = s.length := by rw [signR_some h]; simp
theorem signR_nil (c : UInt8) : signR c [] = none := rfl
theorem signR_ne {c d : UInt8} (h : ¬ d = c) (s : List UInt8) : signR c (d :: s) = none := by simp [signR, h]
theorem gW_nil : gW [] = ([48], []) := rfl
theorem gW_yes (s : List UInt8) : gW (35 :: s) = (wordL s, restL s) := by simp [gW]
theorem gW_no {d : UInt8} (h : ¬ d = 35) (s : List UInt8) : gW (d :: s) = ([48], d :: s) := by simp [gW, h]
section
variable {f : List UInt8 → Option (W × List UInt8)} {s s2 s3 s5 s8 s9 s10 : List UInt8} {a b : W} {g : List UInt8}
theorem bodyW_n0 (h : signR 40 s = none) : bodyW f s = none := by unfold bodyW; rw [h]
theorem bodyW_n1 (h : f s = none) : bodyW f (40 :: s) = none := by simp only [bodyW, signR_cons, h]
theorem bodyW_n2 (h : f s = some (a, s2)) (h2 : signR 32 s2 = none) : bodyW f (40 :: s) = none := by simp only [bodyW, signR_cons, h, h2]
theorem bodyW_n3 (h : f s = some (a, 32 :: s3)) (h2 : signR 58 (restL s3) = none) : bodyW f (40 :: s) = none := by simp only [bodyW, signR_cons, h, h2]
theorem bodyW_n4 (h : f s = some (a, 32 :: s3)) (h2 : restL s3 = 58 :: s5) (h3 : signR 32 (gW (restL s5)).2 = none) : bodyW f (40 :: s) = none := by simp only [bodyW, signR_cons, h, h2, h3]
theorem bodyW_n5 (h : f s = some (a, 32 :: s3)) (h2 : restL s3 = 58 :: s5) (h3 : gW (restL s5) = (g, 32 :: s8)) (h4 : f s8 = none) : bodyW f (40 :: s) = none := by simp only [bodyW, signR_cons, h, h2, h3, h4]
theorem bodyW_n6 (h : f s = some (a, 32 :: s3)) (h2 : restL s3 = 58 :: s5) (h3 : gW (restL s5) = (g, 32 :: s8)) (h4 : f s8 = some (b, s9)) (h5 : signR 41 s9 = none) : bodyW f (40 :: s) = none := by simp only [bodyW, signR_cons, h, h2, h3, h4, h5]
theorem bodyW_yes (h : f s = some (a, 32 :: s3)) (h2 : restL s3 = 58 :: s5) (h3 : gW (restL s5) = (g, 32 :: s8)) (h4 : f s8 = some (b, 41 :: s10)) : bodyW f (40 :: s) = some (.node (wordL s3) (wordL s5) g a b, s10) := by simp only [bodyW, signR_cons, h, h2, h3, h4]
theorem takeW_zero {d : UInt8} (h : ¬ d = 46) (s : List UInt8) : takeW 0 (d :: s) = none := by simp [takeW, h]
theorem takeW_succ {d : UInt8} (h : ¬ d = 46) (left : Nat) (s : List UInt8) : takeW (left + 1) (d :: s) = bodyW (takeW left) (d :: s) := by simp [takeW, h]
end
/-- How long, how deep. -/
theorem takeW_size : ∀ {left : Nat} {s s1 : List UInt8} {q : W} {t : T}, takeW left s = some (q, s1) → Fit q t → t.size + s1.length ≤ s.length ∧ t.height ≤ left
  | left, s, s1, q, t, h, hf => by
    rw [takeW_def] at h
    split at h
    · simp only [Option.some.injEq, Prod.mk.injEq] at h
      obtain ⟨rfl, rfl⟩ := h
      cases t with
      | nil => exact ⟨by simp [T.size], Nat.zero_le _⟩
      | node => exact hf.elim
    · cases left with
      | zero => cases h
      | succ left =>
        simp only [bodyW] at h
        split at h
        · cases h
        · rename_i s1' e1
          split at h
          · cases h
          · rename_i a s2 e2
            split at h
            · cases h
            · rename_i s3 e3
              split at h
              · cases h
              · rename_i s5 e5
                split at h
                · cases h
                · rename_i s8 e8
                  split at h
                  · cases h
                  · rename_i b s9 e9
                    split at h
                    · cases h
                    · rename_i s10 e10
                      simp only [Option.some.injEq, Prod.mk.injEq] at h
                      obtain ⟨rfl, rfl⟩ := h
                      cases t with
                      | nil => exact hf.elim
                      | node k' x' g' l' r' =>
                        obtain ⟨_, _, _, fa, fb⟩ := hf
                        obtain ⟨p1, p2⟩ := takeW_size e2 fa
                        obtain ⟨q1, q2⟩ := takeW_size e9 fb
                        have := signR_len' e1
                        have := signR_len' e3
                        have := signR_len' e5
                        have := signR_len' e8
                        have := signR_len' e10
                        have := word_rest_len s3
                        have := word_rest_len s5
                        have := gW_len (restL s5)
                        simp only [T.size, T.height]
                        omega
/-- Each tree's line is taken, and its words are its numbers. -/
theorem takeW_of : ∀ {t : T} {left : Nat} (rest : List UInt8), t.height ≤ left → RngT t → ∃ q, takeW left (lineT t ++ rest) = some (q, rest) ∧ ∀ t', Fit q t' → t' = t
  | .nil, left, rest, _, _ => by
    refine ⟨.nil, by rw [takeW_def]; simp [lineT], fun t' h => ?_⟩
    cases t' with
    | nil => rfl
    | node => exact h.elim
  | .node k x g a b, left, rest, hh, ⟨hk, hx, hg, ha, hb⟩ => by
    simp only [T.height] at hh
    obtain ⟨left, rfl⟩ : ∃ l, left = l + 1 := ⟨left - 1, by omega⟩
    have e : lineT (.node k x g a b) ++ rest = 40 :: (lineT a ++ (32 :: (itoa k ++ 58 :: (itoa x ++ (tagL g ++ 32 :: (lineT b ++ 41 :: rest)))))) := by simp [lineT, midL]
    obtain ⟨qa, ea, fa⟩ := takeW_of (t := a) (left := left) (32 :: (itoa k ++ 58 :: (itoa x ++ (tagL g ++ 32 :: (lineT b ++ 41 :: rest))))) (by omega) ha
    obtain ⟨qb, eb, fb⟩ := takeW_of (t := b) (left := left) (41 :: rest) (by omega) hb
    obtain ⟨k1, k2⟩ := word_app (w := itoa k) (s := 58 :: (itoa x ++ (tagL g ++ 32 :: (lineT b ++ 41 :: rest)))) (itoa_word k) (by intro d hd; simp at hd; rw [← hd]; rfl)
    obtain ⟨x1, x2⟩ := word_app (w := itoa x) (s := tagL g ++ 32 :: (lineT b ++ 41 :: rest)) (itoa_word x) (tagL_head g _)
    have hgw : ∃ u : List UInt8, gW (tagL g ++ 32 :: (lineT b ++ 41 :: rest)) = (u, 32 :: (lineT b ++ 41 :: rest)) ∧ ∀ n, TagOf u n → n = g := by
      obtain ⟨u, rfl⟩ : ∃ u : Nat, g = (u : Int) := ⟨g.toNat, by omega⟩
      unfold tagL
      split
      · rename_i e0
        refine ⟨[48], by simp [gW], fun n hn => ?_⟩
        have := hn.2 0 (by have := parseU_dec 0 (by omega); rwa [show decDigits 0 = [48] from by rw [decDigits]; rfl] at this)
        omega
      · rename_i e0
        obtain ⟨w1, w2⟩ := word_app (w := decDigits u) (s := 32 :: (lineT b ++ 41 :: rest)) (dec_word u) (by intro d hd; simp at hd; rw [← hd]; rfl)
        refine ⟨decDigits u, by rw [Int.toNat_natCast]; simp [gW, w1, w2], fun n hn => ?_⟩
        exact hn.2 u (parseU_dec u (by omega))
    obtain ⟨u, eu, fu⟩ := hgw
    refine ⟨.node (itoa k) (itoa x) u qa qb, ?_, fun t' h => ?_⟩
    · rw [e, takeW_def, if_neg (by simp)]
      simp only [bodyW, signR_cons, ea, k1, k2, x1, x2, eu, eb]
    · cases t' with
      | nil => exact h.elim
      | node k' x' g' a' b' =>
        obtain ⟨h1, h2, h3, h4, h5⟩ := h
        rw [h1.2 k (parseI_itoa k hk.1 hk.2), h2.2 x (parseI_itoa x hx.1 hx.2), fu _ h3, fa _ h4, fb _ h5]
/-- The document's answer is that of the strict reader. -/
theorem readW_yes {s : List UInt8} {q : W} {t : T} (h : takeW 4096 s = some (q, [])) (hf : Fit q t) (hs : t.size ≤ 65536) (hl : lineT t = s) : readT s = some t := by
  rw [← hl]
  exact readT_of (takeW_size h hf).2 hs hf.rng
theorem readW_no {s : List UInt8} (h : ∀ q, takeW 4096 s ≠ some (q, [])) : readT s = none := by
  cases e : readT s with
  | none => rfl
  | some t =>
    obtain ⟨h1, h2, _, h4⟩ := readT_some e
    obtain ⟨q, hq, _⟩ := takeW_of (t := t) [] h2 h4
    rw [List.append_nil, ← h1] at hq
    exact absurd hq (h q)
theorem readW_not {s : List UInt8} {q : W} {t : T} (h : takeW 4096 s = some (q, [])) (hf : Fit q t) (hn : ¬ (t.size ≤ 65536 ∧ lineT t = s)) : readT s = none := by
  cases e : readT s with
  | none => rfl
  | some t' =>
    obtain ⟨h1, h2, h3, h4⟩ := readT_some e
    obtain ⟨q', hq, fq⟩ := takeW_of (t := t') [] h2 h4
    rw [List.append_nil, ← h1, h] at hq
    injection hq with hq
    injection hq with hq
    subst hq
    obtain rfl := fq t hf
    exact absurd ⟨h3, h1.symm⟩ hn
end Go.Proofs.YtgpegcjgmoiglaaDoor
