/- THE PLAIN LAW of walks: a way from the root to a node, what a step makes of it, and which place it is. No program in sight. -/
import Derived.Test.YtphpaaaaifpidaaBeadLaw
namespace Go.Proofs.Ytphpaaaaifpidaa

/-- A tree in memory: each node with its block. -/
inductive A where
  | nil
  | node (b : Nat) (k x g : Int) (l r : A)
namespace A
def tree : A → T
  | nil => .nil
  | node _ k x g l r => .node k x g l.tree r.tree
def size : A → Nat
  | nil => 0
  | node _ _ _ _ l r => l.size + 1 + r.size
theorem size_tree : ∀ a : A, a.tree.size = a.size
  | nil => rfl
  | node _ _ _ _ l r => by simp only [tree, T.size, size, size_tree l, size_tree r]
/-- One of its sides. -/
def side (d : Bool) : A → A
  | nil => nil
  | node _ _ _ _ l r => if d then r else l
def some : A → Bool
  | nil => false
  | node .. => true
theorem some_tree : ∀ a : A, a.tree.some = a.some
  | nil => rfl
  | node .. => rfl
theorem size_pos : ∀ {a : A}, a.some = true → 0 < a.size
  | node .., _ => by simp only [size]; omega
theorem size_zero : ∀ {a : A}, a.some = false → a.size = 0
  | nil, _ => rfl
end A

/-- The way down to a side, as far as there is something. -/
def spine (d : Bool) : A → List (A × Bool)
  | .nil => []
  | .node b k x g l r => (.node b k x g l r, d) :: (if d then spine d r else spine d l)
/-- A way leads to a place. -/
def Pth : A → Nat → List (A × Bool) → Prop
  | .nil, _, _ => False
  | .node b k x g l r, i, s =>
    (i < l.size ∧ ∃ s', s = (.node b k x g l r, false) :: s' ∧ Pth l i s') ∨ (i = l.size ∧ ∃ d, s = [(.node b k x g l r, d)]) ∨
      (l.size < i ∧ ∃ s', s = (.node b k x g l r, true) :: s' ∧ Pth r (i - l.size - 1) s')
theorem Pth.lt : ∀ {a : A} {i : Nat} {s : List (A × Bool)}, Pth a i s → i < a.size
  | .nil, _, _, h => h.elim
  | .node b k x g l r, i, s, h => by
    simp only [A.size]
    rcases h with ⟨h, _⟩ | ⟨h, _⟩ | ⟨_, s', _, h⟩
    · omega
    · omega
    · have := h.lt; omega
theorem Pth.ne : ∀ {a : A} {i : Nat} {s : List (A × Bool)}, Pth a i s → s ≠ []
  | .nil, _, _, h => h.elim
  | .node b k x g l r, i, s, h => by
    rcases h with ⟨_, _, rfl, _⟩ | ⟨_, _, rfl⟩ | ⟨_, _, rfl, _⟩ <;> simp
theorem pth_first : ∀ {a : A}, a.some = true → Pth a 0 (spine false a)
  | .node b k x g l r, _ => by
    cases hl : l.some with
    | true => exact .inl ⟨A.size_pos hl, _, rfl, pth_first hl⟩
    | false =>
      refine .inr (.inl ⟨(A.size_zero hl).symm, false, ?_⟩)
      cases l with
      | nil => rfl
      | node => cases hl
theorem pth_last : ∀ {a : A}, a.some = true → Pth a (a.size - 1) (spine true a)
  | .node b k x g l r, _ => by
    cases hr : r.some with
    | true =>
      have := A.size_pos hr
      refine .inr (.inr ⟨by simp only [A.size]; omega, _, rfl, ?_⟩)
      have h := pth_last hr
      rwa [show (A.node b k x g l r).size - 1 - l.size - 1 = r.size - 1 from by simp only [A.size]; omega]
    | false =>
      refine .inr (.inl ⟨by have := A.size_zero hr; simp only [A.size]; omega, true, ?_⟩)
      cases r with
      | nil => rfl
      | node => cases hr

/-- What is left of a way when all at its end that have been gone on to that side are struck. -/
def popR (d : Bool) : List (A × Bool) → List (A × Bool)
  | [] => []
  | (n, e) :: s => match popR d s with
    | [] => if e = d then [] else [(n, e)]
    | y :: s' => (n, e) :: y :: s'
theorem popR_snoc (d : Bool) (n : A) (e : Bool) : ∀ s : List (A × Bool), popR d (s ++ [(n, e)]) = if e = d then popR d s else s ++ [(n, e)]
  | [] => by simp only [List.nil_append, popR]
  | (m, f) :: s => by
    simp only [List.cons_append, popR, popR_snoc d n e s]
    by_cases h : e = d
    · simp only [if_pos h]
    · simp only [if_neg h]
      cases s <;> rfl
theorem popR_le (d : Bool) : ∀ s : List (A × Bool), (popR d s).length ≤ s.length
  | [] => Nat.le_refl _
  | (n, e) :: s => by
    have := popR_le d s
    unfold popR
    split
    · split <;> simp
    · rename_i h; rw [h] at this; simp at this ⊢; omega
/-- A step to a side. -/
def stepS (d : Bool) : List (A × Bool) → List (A × Bool)
  | [] => []
  | (n, e) :: s => match s with
    | [] => if (n.side d).some then (n, d) :: spine (!d) (n.side d) else []
    | y :: s' => match stepS d (y :: s') with
      | [] => if e = d then [] else [(n, e)]
      | z :: s'' => (n, e) :: z :: s''
theorem stepS_cons (d : Bool) (n : A) (e : Bool) {s : List (A × Bool)} (h : s ≠ []) : stepS d ((n, e) :: s) = match stepS d s with
      | [] => if e = d then [] else [(n, e)]
      | z :: s'' => (n, e) :: z :: s'' := by
  cases s with
  | nil => exact absurd rfl h
  | cons y s => rfl
/-- What the program does: at the last node of the way. -/
theorem stepS_snoc (d : Bool) (n : A) (e : Bool) : ∀ s : List (A × Bool), stepS d (s ++ [(n, e)]) = if (n.side d).some then s ++ (n, d) :: spine (!d) (n.side d) else popR d s
  | [] => by simp [stepS, popR]
  | (m, f) :: s => by
    rw [List.cons_append, stepS_cons d m f (by simp), stepS_snoc d n e s]
    by_cases h : (n.side d).some = true
    · simp only [if_pos h]
      cases s <;> rfl
    · simp only [if_neg h, popR]
theorem next_law : ∀ {a : A} {i : Nat} {s : List (A × Bool)}, Pth a i s → (i + 1 < a.size → Pth a (i + 1) (stepS true s)) ∧ (a.size ≤ i + 1 → stepS true s = [])
  | .nil, _, _, h => h.elim
  | .node b k x g l r, i, s, h => by
    simp only [A.size]
    rcases h with ⟨hi, s', rfl, h⟩ | ⟨rfl, d, rfl⟩ | ⟨hi, s', rfl, h⟩
    · refine ⟨fun _ => ?_, fun h => by omega⟩
      have ih := next_law h
      rw [stepS_cons _ _ _ h.ne]
      by_cases hn : i + 1 < l.size
      · have h2 := ih.1 hn
        obtain ⟨z, s'', e⟩ : ∃ z s'', stepS true s' = z :: s'' := by
          cases e : stepS true s' with
          | nil => exact absurd e h2.ne
          | cons z s'' => exact ⟨z, s'', rfl⟩
        rw [e] at h2 ⊢
        exact .inl ⟨hn, _, rfl, h2⟩
      · rw [ih.2 (by omega)]
        exact .inr (.inl ⟨by omega, false, rfl⟩)
    · have e : stepS true [((A.node b k x g l r), d)] = if r.some then (A.node b k x g l r, true) :: spine false r else [] := by simp [stepS, A.side]
      rw [e]
      cases hr : r.some with
      | true => exact ⟨fun _ => .inr (.inr ⟨by omega, _, rfl, by rw [show l.size + 1 - l.size - 1 = 0 from by omega]; exact pth_first hr⟩), fun h => by have := A.size_pos hr; omega⟩
      | false => exact ⟨fun h => by have := A.size_zero hr; omega, fun _ => rfl⟩
    · have ih := next_law h
      rw [stepS_cons _ _ _ h.ne]
      constructor
      · intro hn
        have h2 := ih.1 (by omega)
        obtain ⟨z, s'', e⟩ : ∃ z s'', stepS true s' = z :: s'' := by
          cases e : stepS true s' with
          | nil => exact absurd e h2.ne
          | cons z s'' => exact ⟨z, s'', rfl⟩
        rw [e] at h2 ⊢
        exact .inr (.inr ⟨by omega, _, rfl, by rwa [show i + 1 - l.size - 1 = i - l.size - 1 + 1 from by omega]⟩)
      · intro hn
        rw [ih.2 (by have := h.lt; omega)]
        rfl
theorem prev_law : ∀ {a : A} {i : Nat} {s : List (A × Bool)}, Pth a i s → (0 < i → Pth a (i - 1) (stepS false s)) ∧ (i = 0 → stepS false s = [])
  | .nil, _, _, h => h.elim
  | .node b k x g l r, i, s, h => by
    rcases h with ⟨hi, s', rfl, h⟩ | ⟨rfl, d, rfl⟩ | ⟨hi, s', rfl, h⟩
    · have ih := prev_law h
      rw [stepS_cons _ _ _ h.ne]
      constructor
      · intro hn
        have h2 := ih.1 hn
        obtain ⟨z, s'', e⟩ : ∃ z s'', stepS false s' = z :: s'' := by
          cases e : stepS false s' with
          | nil => exact absurd e h2.ne
          | cons z s'' => exact ⟨z, s'', rfl⟩
        rw [e] at h2 ⊢
        exact .inl ⟨by omega, _, rfl, h2⟩
      · intro hn
        rw [ih.2 hn]
        rfl
    · have e : stepS false [((A.node b k x g l r), d)] = if l.some then (A.node b k x g l r, false) :: spine true l else [] := by simp [stepS, A.side]
      rw [e]
      cases hl : l.some with
      | true => exact ⟨fun _ => .inl ⟨by have := A.size_pos hl; omega, _, rfl, pth_last hl⟩, fun h => by have := A.size_pos hl; omega⟩
      | false => exact ⟨fun h => by have := A.size_zero hl; omega, fun _ => rfl⟩
    · refine ⟨fun _ => ?_, fun h => by omega⟩
      have ih := prev_law h
      rw [stepS_cons _ _ _ h.ne]
      by_cases hn : 0 < i - l.size - 1
      · have h2 := ih.1 hn
        obtain ⟨z, s'', e⟩ : ∃ z s'', stepS false s' = z :: s'' := by
          cases e : stepS false s' with
          | nil => exact absurd e h2.ne
          | cons z s'' => exact ⟨z, s'', rfl⟩
        rw [e] at h2 ⊢
        exact .inr (.inr ⟨by omega, _, rfl, by rwa [show i - 1 - l.size - 1 = i - l.size - 1 - 1 from by omega]⟩)
      · rw [ih.2 (by omega)]
        exact .inr (.inl ⟨by omega, true, rfl⟩)

/-- Where a walk stands: its place, and the way there; none at an end. -/
def WkS (a : A) (p : Int) (s : List (A × Bool)) : Prop := ((p = -1 ∨ p = a.size) ∧ s = []) ∨ ∃ i : Nat, p = i ∧ Pth a i s
theorem WkS.range {a : A} {p : Int} {s : List (A × Bool)} (h : WkS a p s) : -1 ≤ p ∧ p ≤ a.size := by
  rcases h with ⟨h, _⟩ | ⟨i, rfl, h⟩
  · omega
  · have := h.lt; omega
theorem WkS.here {a : A} {p : Int} {s : List (A × Bool)} (h : WkS a p s) : 0 < s.length ↔ 0 ≤ p ∧ p < a.size := by
  rcases h with ⟨h, rfl⟩ | ⟨i, rfl, h⟩
  · simp; omega
  · have := h.lt
    have := List.length_pos_iff.2 h.ne
    omega
/-- The way behind a step. -/
def goS (a : A) (d : Bool) (s : List (A × Bool)) : List (A × Bool) := if s = [] then spine (!d) a else stepS d s
theorem WkS.next {a : A} {p : Int} {s : List (A × Bool)} (h : WkS a p s) (hp : p < a.size) : WkS a (p + 1) (goS a true s) := by
  unfold goS
  rcases h with ⟨h, rfl⟩ | ⟨i, rfl, h⟩
  · obtain rfl : p = -1 := by omega
    simp only [if_true, Bool.not_true]
    cases ha : a.some with
    | true => exact .inr ⟨0, rfl, pth_first ha⟩
    | false =>
      cases a with
      | nil => exact .inl ⟨.inr rfl, rfl⟩
      | node => cases ha
  · rw [if_neg h.ne]
    by_cases hn : i + 1 < a.size
    · exact .inr ⟨i + 1, rfl, (next_law h).1 hn⟩
    · exact .inl ⟨.inr (by omega), (next_law h).2 (by omega)⟩
theorem WkS.prev {a : A} {p : Int} {s : List (A × Bool)} (h : WkS a p s) (hp : 0 ≤ p) : WkS a (p - 1) (goS a false s) := by
  unfold goS
  rcases h with ⟨h, rfl⟩ | ⟨i, rfl, h⟩
  · obtain rfl : p = a.size := by omega
    simp only [if_true, Bool.not_false]
    cases ha : a.some with
    | true =>
      have := A.size_pos ha
      exact .inr ⟨a.size - 1, by omega, pth_last ha⟩
    | false =>
      cases a with
      | nil => exact .inl ⟨.inl rfl, rfl⟩
      | node => cases ha
  · rw [if_neg h.ne]
    by_cases hn : 0 < i
    · exact .inr ⟨i - 1, by omega, (prev_law h).1 hn⟩
    · exact .inl ⟨.inl (by omega), (prev_law h).2 (by omega)⟩
theorem WkS.first (a : A) : WkS a 0 (spine false a) := by
  cases ha : a.some with
  | true => exact .inr ⟨0, rfl, pth_first ha⟩
  | false =>
    cases a with
    | nil => exact .inl ⟨.inr rfl, rfl⟩
    | node => cases ha
theorem WkS.last (a : A) : WkS a ((a.size : Int) - 1) (spine true a) := by
  cases ha : a.some with
  | true =>
    have := A.size_pos ha
    exact .inr ⟨a.size - 1, by omega, pth_last ha⟩
  | false =>
    cases a with
    | nil => exact .inl ⟨.inl rfl, rfl⟩
    | node => cases ha
/-- As far as it goes. -/
def clampI (n : Nat) (p : Int) : Int := if p < -1 then -1 else if (n : Int) < p then n else p
/-- The nodes of a way are nodes. -/
def Nodes (s : List (A × Bool)) : Prop := ∀ y ∈ s, y.1.some = true
end Go.Proofs.Ytphpaaaaifpidaa
