/- THE PLAIN LAW of what makes a tree of beads, one by one. No program in sight. -/
import Derived.Test.YtgpegcjgmoiglaaDoorShapeLaw
namespace Go.Proofs.YtgpegcjgmoiglaaDoor

/-- The tree that a row of beads begins with, if one is wanted, and what is left. -/
def takeS : Nat → Bool → List Bead → Option (T × List Bead)
  | _, false, l => some (.nil, l)
  | 0, true, _ => none
  | _ + 1, true, [] => none
  | left + 1, true, x :: l => match takeS left x.left l with
    | none => none
    | some (a, l1) => match takeS left x.right l1 with
      | none => none
      | some (b, l2) => some (.node x.key x.val x.tag a b, l2)
theorem takeS_some : ∀ {left : Nat} {is : Bool} {l l1 : List Bead} {t : T}, takeS left is l = some (t, l1) → ∃ m, l = m ++ l1 ∧ Ser m t ∧ t.some = is ∧ t.height ≤ left
  | left, false, l, l1, t, h => by
    have h : (some (T.nil, l)) = some (t, l1) := by rw [← h]; cases left <;> rfl
    simp only [Option.some.injEq, Prod.mk.injEq] at h
    obtain ⟨rfl, rfl⟩ := h
    exact ⟨[], rfl, rfl, rfl, Nat.zero_le _⟩
  | 0, true, _, _, _, h => by cases h
  | _ + 1, true, [], _, _, h => by cases h
  | left + 1, true, x :: l, l1, t, h => by
    simp only [takeS] at h
    split at h
    · cases h
    · rename_i a l2 e1
      split at h
      · cases h
      · rename_i b l3 e2
        simp only [Option.some.injEq, Prod.mk.injEq] at h
        obtain ⟨rfl, rfl⟩ := h
        obtain ⟨m1, rfl, s1, t1, h1⟩ := takeS_some e1
        obtain ⟨m2, rfl, s2, t2, h2⟩ := takeS_some e2
        exact ⟨x :: (m1 ++ m2), by simp, ⟨x, m1, m2, rfl, rfl, rfl, rfl, t1.symm, t2.symm, s1, s2⟩, rfl, by simp only [T.height]; omega⟩
theorem takeS_of : ∀ {t : T} {left : Nat} {m rest : List Bead}, t.height ≤ left → Ser m t → takeS left t.some (m ++ rest) = some (t, rest)
  | .nil, left, m, rest, _, hs => by
    obtain rfl : m = [] := hs
    cases left <;> rfl
  | .node k x g a b, 0, m, rest, hh, _ => by simp only [T.height] at hh; omega
  | .node k x g a b, left + 1, m, rest, hh, ⟨y, la, lb, hl, h1, h2, h3, h4, h5, sa, sb⟩ => by
    simp only [T.height] at hh
    subst hl
    rw [show (T.node k x g a b).some = true from rfl]
    simp only [List.cons_append, takeS, h4, h5, List.append_assoc]
    rw [takeS_of (by omega) sa]
    simp only
    rw [takeS_of (by omega) sb]
    simp only [h1, h2, h3]
/-- The tree of a row of beads, if they are one's. -/
def makeT (l : List Bead) : Option T := match takeS 4096 (!l.isEmpty) l with
  | some (t, []) => some t
  | _ => none
theorem makeT_some {l : List Bead} {t : T} (h : makeT l = some t) : Ser l t ∧ t.height ≤ 4096 := by
  unfold makeT at h
  split at h
  · rename_i t' e
    simp only [Option.some.injEq] at h
    subst h
    obtain ⟨m, rfl, s, _, hh⟩ := takeS_some e
    simpa using And.intro s hh
  · cases h
theorem makeT_of {l : List Bead} {t : T} (h : Ser l t) (hh : t.height ≤ 4096) : makeT l = some t := by
  have hs : t.some = !l.isEmpty := by
    cases t with
    | nil => rw [show l = [] from h]; rfl
    | node => obtain ⟨y, la, lb, rfl, _⟩ := h; rfl
  have := takeS_of (rest := []) hh h
  rw [hs, List.append_nil] at this
  unfold makeT
  rw [this]
/-- The tree that a text is the line of, if there is one. -/
def readT (s : List UInt8) : Option T := match treeR 4096 s 0 with
  | some (t, [], _) => some t
  | _ => none
theorem readT_some {s : List UInt8} {t : T} (h : readT s = some t) : s = lineT t ∧ t.height ≤ 4096 ∧ t.size ≤ 65536 ∧ RngT t := by
  unfold readT at h
  split at h
  · rename_i t' m e
    simp only [Option.some.injEq] at h
    subst h
    obtain ⟨h1, h2, h3, h4, h5⟩ := treeR_some e
    refine ⟨by rw [h1, List.append_nil], h2, ?_, h5⟩
    cases t' with
    | nil => exact Nat.zero_le _
    | node => have := h4 rfl; omega
  · cases h
theorem readT_of {t : T} (h : t.height ≤ 4096) (hs : t.size ≤ 65536) (hr : RngT t) : readT (lineT t) = some t := by
  have := treeR_of (m := 0) [] h (by omega) hr
  rw [List.append_nil] at this
  unfold readT
  rw [this]
/-- A text is the line of one tree. -/
theorem lineT_inj {t u : T} (ht : t.height ≤ 4096 ∧ t.size ≤ 65536 ∧ RngT t) (hu : u.height ≤ 4096 ∧ u.size ≤ 65536 ∧ RngT u) (h : lineT t = lineT u) : t = u := by
  have h1 := readT_of ht.1 ht.2.1 ht.2.2
  have h2 := readT_of hu.1 hu.2.1 hu.2.2
  rw [h, h2] at h1
  injection h1 with h1
  exact h1.symm
end Go.Proofs.YtgpegcjgmoiglaaDoor
