/- THE PLAIN LAW of beads: rows of beads that are those of a tree. No program in sight. -/
namespace Go.Proofs.YtgpegcjgmoiglaaDoor

structure Bead where
  key : Int
  val : Int
  sum : Int
  size : Int
  tag : Int
  left : Bool
  right : Bool
deriving DecidableEq

/-- A tree: key, value, tag. -/
inductive T where
  | nil
  | node (k x g : Int) (l r : T)
deriving DecidableEq

namespace T
def size : T → Nat
  | nil => 0
  | node _ _ _ l r => size l + 1 + size r
def sum : T → Int
  | nil => 0
  | node _ x _ l r => sum l + x + sum r
def height : T → Nat
  | nil => 0
  | node _ _ _ l r => 1 + max (height l) (height r)
def key : T → Int
  | nil => 0
  | node k _ _ _ _ => k
def val : T → Int
  | nil => 0
  | node _ x _ _ _ => x
def tag : T → Int
  | nil => 0
  | node _ _ g _ _ => g
/-- Is there something? -/
def some : T → Bool
  | nil => false
  | node .. => true
theorem height_le_size : ∀ t : T, t.height ≤ t.size
  | nil => Nat.le_refl _
  | node _ _ _ l r => by have := height_le_size l; have := height_le_size r; simp only [height, size]; omega
end T

/-- Beads are those of a tree, whatever sizes and sums they tell. -/
def Ser : List Bead → T → Prop
  | l, .nil => l = []
  | l, .node k x g a b => ∃ y la lb, l = y :: (la ++ lb) ∧ y.key = k ∧ y.val = x ∧ y.tag = g ∧ y.left = a.some ∧ y.right = b.some ∧ Ser la a ∧ Ser lb b
theorem Ser.length : ∀ {t : T} {l : List Bead}, Ser l t → l.length = t.size
  | .nil, _, h => by rw [show _ = [] from h]; rfl
  | .node k x g a b, _, ⟨y, la, lb, hl, _, _, _, _, _, ha, hb⟩ => by
    rw [hl, List.length_cons, List.length_append, ha.length, hb.length]; simp only [T.size]; omega
theorem Ser.nil_iff {t : T} {l : List Bead} (h : Ser l t) : l = [] ↔ t = .nil := by
  cases t with
  | nil => exact ⟨fun _ => rfl, fun _ => h⟩
  | node k x g a b => obtain ⟨y, la, lb, rfl, _⟩ := h; simp

/-- How many beads the tree has that begins a row; so many calls are enough. -/
def endsS : Nat → List Bead → Option Nat
  | 0, _ => none
  | _ + 1, [] => none
  | f + 1, x :: s =>
    match (if x.left then endsS f s else some 0) with
    | none => none
    | some a => match (if x.right then endsS f (s.drop a) else some 0) with
      | none => none
      | some b => some (1 + a + b)

theorem endsS_le : ∀ {f : Nat} {s : List Bead} {n : Nat}, endsS f s = some n → n ≤ s.length ∧ 0 < n
  | 0, _, _, h => by simp [endsS] at h
  | _ + 1, [], _, h => by simp [endsS] at h
  | f + 1, x :: s, n, h => by
    unfold endsS at h
    split at h
    · cases h
    · rename_i a ha
      split at h
      · cases h
      · rename_i b hb
        injection h with h
        have h1 : a ≤ s.length := by
          split at ha
          · exact (endsS_le ha).1
          · injection ha with ha; omega
        have h2 : b ≤ (s.drop a).length := by
          split at hb
          · exact (endsS_le hb).1
          · injection hb with hb; omega
        rw [List.length_drop] at h2
        simp only [List.length_cons]; omega

/-- What it finds is a tree. -/
theorem endsS_ser : ∀ {f : Nat} {s : List Bead} {n : Nat}, endsS f s = some n → ∃ t, t.some = true ∧ t.height ≤ f ∧ Ser (s.take n) t
  | 0, _, _, h => by simp [endsS] at h
  | _ + 1, [], _, h => by simp [endsS] at h
  | f + 1, x :: s, n, h => by
    unfold endsS at h
    split at h
    · cases h
    · rename_i a ha
      split at h
      · cases h
      · rename_i b hb
        injection h with h
        have h1 : ∃ t : T, t.some = x.left ∧ t.height ≤ f ∧ Ser (s.take a) t := by
          split at ha
          · rename_i hx; rw [hx]; exact endsS_ser ha
          · rename_i hx; injection ha with ha; subst ha; exact ⟨.nil, by simpa [T.some] using hx, Nat.zero_le _, by simp [Ser]⟩
        have h2 : ∃ t : T, t.some = x.right ∧ t.height ≤ f ∧ Ser ((s.drop a).take b) t := by
          split at hb
          · rename_i hx; rw [hx]; exact endsS_ser hb
          · rename_i hx; injection hb with hb; subst hb; exact ⟨.nil, by simpa [T.some] using hx, Nat.zero_le _, by simp [Ser]⟩
        obtain ⟨ta, ea, la, sa⟩ := h1
        obtain ⟨tb, eb, lb, sb⟩ := h2
        refine ⟨.node x.key x.val x.tag ta tb, rfl, ?_, x, s.take a, (s.drop a).take b, ?_, rfl, rfl, rfl, ea.symm, eb.symm, sa, sb⟩
        · simp only [T.height]; omega
        · rw [← h, show 1 + a + b = (a + b) + 1 from by omega, List.take_succ_cons, List.take_add]

/-- And each tree is found. -/
theorem endsS_of : ∀ {t : T} {f : Nat} {la rest : List Bead}, t.some = true → t.height ≤ f → Ser la t → endsS f (la ++ rest) = some la.length
  | .nil, _, _, _, h, _, _ => by cases h
  | .node k x g a b, 0, _, _, _, h, _ => by simp only [T.height] at h; omega
  | .node k x g a b, f + 1, _, rest, _, h, ⟨y, la, lb, rfl, _, _, _, el, er, sa, sb⟩ => by
    simp only [T.height] at h
    have h1 : (if y.left then endsS f (la ++ lb ++ rest) else some 0) = some la.length := by
      rw [el]
      cases a with
      | nil => rw [show la = [] from sa]; rfl
      | node => simp only [T.some, if_true, List.append_assoc]; exact endsS_of rfl (by omega) sa
    have h2 : (if y.right then endsS f ((la ++ lb ++ rest).drop la.length) else some 0) = some lb.length := by
      rw [er, List.append_assoc, List.drop_left]
      cases b with
      | nil => rw [show lb = [] from sb]; rfl
      | node => simp only [T.some, if_true]; exact endsS_of rfl (by omega) sb
    show endsS (f + 1) (y :: (la ++ lb ++ rest)) = _
    simp only [endsS, h1, h2, List.length_cons, List.length_append]
    congr 1; omega

/-- May beads be those of a tree? -/
def mayL (l : List Bead) : Bool := l == [] || endsS 5001 l == some l.length
theorem mayL_ser {l : List Bead} (h : mayL l = true) : ∃ t, Ser l t := by
  unfold mayL at h
  simp only [Bool.or_eq_true, beq_iff_eq] at h
  rcases h with rfl | h
  · exact ⟨.nil, rfl⟩
  · obtain ⟨t, _, _, ht⟩ := endsS_ser h
    exact ⟨t, by rwa [List.take_length] at ht⟩
theorem mayL_of {l : List Bead} {t : T} (h : Ser l t) (hs : t.height ≤ 5001) : mayL l = true := by
  unfold mayL
  simp only [Bool.or_eq_true, beq_iff_eq]
  cases t with
  | nil => exact .inl h
  | node k x g a b =>
    right
    have := endsS_of (rest := []) rfl hs h
    rwa [List.append_nil] at this

/-- The beads of a tree, with their sizes and sums ('wr': how a sum is written). -/
def ofT (wr : Int → Int) : T → List Bead
  | .nil => []
  | .node k x g a b => { key := k, val := x, sum := wr (T.sum (.node k x g a b)), size := (T.size (.node k x g a b) : Nat), tag := g, left := a.some, right := b.some } :: (ofT wr a ++ ofT wr b)
theorem ofT_length (wr : Int → Int) : ∀ t : T, (ofT wr t).length = t.size
  | .nil => rfl
  | .node _ _ _ a b => by simp only [ofT, List.length_cons, List.length_append, ofT_length wr a, ofT_length wr b, T.size]; omega
theorem ofT_ser (wr : Int → Int) : ∀ t : T, Ser (ofT wr t) t
  | .nil => rfl
  | .node _ _ _ a b => ⟨_, ofT wr a, ofT wr b, rfl, rfl, rfl, rfl, rfl, rfl, ofT_ser wr a, ofT_ser wr b⟩
theorem ofT_inj (wr : Int → Int) : ∀ {t u : T}, ofT wr t = ofT wr u → t = u := by
  have key : ∀ (t u : T) (r s : List Bead), t.some = u.some → ofT wr t ++ r = ofT wr u ++ s → t = u ∧ r = s := by
    intro t
    induction t with
    | nil =>
      intro u r s hs h
      cases u with
      | nil => exact ⟨rfl, h⟩
      | node => cases hs
    | node k x g a b iha ihb =>
      intro u r s hs h
      cases u with
      | nil => cases hs
      | node k' x' g' a' b' =>
        simp only [ofT, List.cons_append, List.append_assoc, List.cons.injEq, Bead.mk.injEq] at h
        obtain ⟨⟨rfl, rfl, _, _, rfl, ea, eb⟩, h⟩ := h
        obtain ⟨rfl, h2⟩ := iha _ _ _ ea h
        obtain ⟨rfl, h3⟩ := ihb _ _ _ eb h2
        exact ⟨rfl, h3⟩
  intro t u h
  have hs : t.some = u.some := by
    cases t <;> cases u <;> simp_all [ofT, T.some]
  exact (key t u [] [] hs (by rw [h])).1

/-- The values of beads together. -/
def sumL : List Bead → Int
  | [] => 0
  | x :: l => x.val + sumL l
theorem sumL_append (l m : List Bead) : sumL (l ++ m) = sumL l + sumL m := by
  induction l with
  | nil => simp [sumL]
  | cons x l ih => simp only [List.cons_append, sumL, ih]; omega
theorem sumL_ser : ∀ {t : T} {l : List Bead}, Ser l t → sumL l = t.sum
  | .nil, _, h => by rw [show _ = [] from h]; rfl
  | .node k x g a b, _, ⟨y, la, lb, hl, _, hx, _, _, _, ha, hb⟩ => by
    rw [hl]; simp only [sumL, sumL_append, sumL_ser ha, sumL_ser hb, T.sum, hx]; omega
end Go.Proofs.YtgpegcjgmoiglaaDoor
