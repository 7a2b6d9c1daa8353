/- THE PLAIN LAW of treaps. No program in sight. -/
import Derived.Test.YtlehcagpddgamaaBeadLaw
namespace Go.Proofs.Ytlehcagpddgamaa

structure Item where
  key : Int
  val : Int
  tag : Int
deriving DecidableEq

/-- Does one stand above the other one? -/
def above (a b : Item) : Bool := decide (b.tag < a.tag) || (decide (a.tag = b.tag) && decide (b.key < a.key))
theorem above_iff {a b : Item} : above a b = true ↔ b.tag < a.tag ∨ (a.tag = b.tag ∧ b.key < a.key) := by simp [above]
theorem above_not {a b : Item} : above a b = false ↔ ¬ (b.tag < a.tag ∨ (a.tag = b.tag ∧ b.key < a.key)) := by rw [← above_iff]; simp
theorem above_under {a b c : Item} (h : above b a = false) (k : above c b = false) : above c a = false := by
  rw [above_not] at *; omega
theorem above_total {a b : Item} (h : above a b = false) (k : ¬ (a.tag = b.tag ∧ a.key = b.key)) : above b a = true := by
  rw [above_not] at h; rw [above_iff]; omega

def T.item : T → Item
  | .nil => ⟨0, 0, 0⟩
  | .node k x g _ _ => ⟨k, x, g⟩
def T.items : T → List Item
  | .nil => []
  | .node k x g l r => l.items ++ ⟨k, x, g⟩ :: r.items
theorem T.items_length : ∀ t : T, t.items.length = t.size
  | .nil => rfl
  | .node _ _ _ l r => by simp only [T.items, T.size, List.length_append, List.length_cons, T.items_length l, T.items_length r]; omega
/-- Does a root stand above an item? -/
def over (t : T) (x : Item) : Bool := t.some && above t.item x
/-- The first node that is wrong. -/
def checkT : T → Nat × Bool
  | .nil => (0, true)
  | .node k x g l r =>
    if over l ⟨k, x, g⟩ || over r ⟨k, x, g⟩ then (0, false)
    else if (checkT l).2 then (1 + (checkT l).1 + (checkT r).1, (checkT r).2) else (1 + (checkT l).1, false)
theorem checkT_le : ∀ t : T, (checkT t).1 ≤ t.size
  | .nil => Nat.le_refl _
  | .node k x g l r => by
    have h1 := checkT_le l
    have h2 := checkT_le r
    unfold checkT
    simp only [T.size]
    split
    · simp
    · split <;> simp only <;> omega
def mayT (t : T) : Bool := (checkT t).2
theorem mayT_node {k x g : Int} {l r : T} : mayT (.node k x g l r) = true ↔ over l ⟨k, x, g⟩ = false ∧ over r ⟨k, x, g⟩ = false ∧ mayT l = true ∧ mayT r = true := by
  unfold mayT
  rw [checkT]
  cases h1 : over l ⟨k, x, g⟩ <;> cases h2 : over r ⟨k, x, g⟩ <;> cases h3 : (checkT l).2 <;> simp
/-- Under a root stands nothing that stands above it. -/
theorem mayT_under : ∀ {t : T} {x : Item}, mayT t = true → over t x = false → ∀ z ∈ t.items, above z x = false
  | .nil, _, _, _, _, hz => by simp [T.items] at hz
  | .node k v g l r, x, h, ho, z, hz => by
    obtain ⟨h1, h2, h3, h4⟩ := mayT_node.1 h
    have ho' : above ⟨k, v, g⟩ x = false := by simpa [over, T.some, T.item] using ho
    simp only [T.items, List.mem_append, List.mem_cons] at hz
    rcases hz with hz | rfl | hz
    · exact above_under ho' (mayT_under h3 h1 z hz)
    · exact ho'
    · exact above_under ho' (mayT_under h4 h2 z hz)

/-- Those that stand open, the last one first: a row of an item and what is left of it. -/
def shutI (x : Item) : List (Item × T) → T → List (Item × T) × T
  | [], t => ([], t)
  | (y, l) :: w, t => if above x y then shutI x w (.node y.key y.val y.tag l t) else ((y, l) :: w, t)
def shutAll : List (Item × T) → T → T
  | [], t => t
  | (y, l) :: w, t => shutAll w (.node y.key y.val y.tag l t)
def stepI (w : List (Item × T)) (x : Item) : List (Item × T) := (x, (shutI x w .nil).2) :: (shutI x w .nil).1
/-- The tree of items. -/
def ofI (l : List Item) : T := shutAll (l.foldl stepI []) .nil
theorem shutI_mem {x : Item} : ∀ {w : List (Item × T)} {t : T} {p : Item × T}, p ∈ (shutI x w t).1 → p ∈ w
  | [], _, _, h => by simp [shutI] at h
  | (y, l) :: w, t, p, h => by
    unfold shutI at h
    split at h
    · exact List.mem_cons_of_mem _ (shutI_mem h)
    · exact h
theorem way_mem : ∀ {l : List Item} {w : List (Item × T)} {p : Item × T}, p ∈ l.foldl stepI w → p.1 ∈ l ∨ p ∈ w
  | [], _, _, h => .inr h
  | x :: l, w, p, h => by
    rw [List.foldl_cons] at h
    rcases way_mem h with h | h
    · exact .inl (List.mem_cons_of_mem _ h)
    · simp only [stepI, List.mem_cons] at h
      rcases h with rfl | h
      · exact .inl (List.mem_cons_self ..)
      · exact .inr (shutI_mem h)
theorem shutI_all {x : Item} : ∀ {w : List (Item × T)} {t : T}, (∀ p ∈ w, above x p.1 = true) → shutI x w t = ([], shutAll w t)
  | [], _, _ => rfl
  | (y, l) :: w, t, h => by
    unfold shutI shutAll
    rw [if_pos (h (y, l) (List.mem_cons_self ..))]
    exact shutI_all fun p hp => h p (List.mem_cons_of_mem _ hp)
theorem shutI_base {x y : Item} {L : T} (h : above x y = false) : ∀ {w : List (Item × T)} {t : T}, shutI x (w ++ [(y, L)]) t = ((shutI x w t).1 ++ [(y, L)], (shutI x w t).2)
  | [], t => by simp [shutI, h]
  | (z, l) :: w, t => by
    simp only [List.cons_append, shutI]
    split
    · exact shutI_base h
    · rfl
theorem way_base {y : Item} {L : T} : ∀ {b : List Item} {w : List (Item × T)}, (∀ x ∈ b, above x y = false) → b.foldl stepI (w ++ [(y, L)]) = b.foldl stepI w ++ [(y, L)]
  | [], _, _ => rfl
  | x :: b, w, h => by
    have h1 := shutI_base (L := L) (h x (List.mem_cons_self ..)) (w := w) (t := .nil)
    rw [List.foldl_cons, List.foldl_cons, ← way_base fun z hz => h z (List.mem_cons_of_mem _ hz)]
    simp [stepI, h1]
theorem shutAll_base {y : Item} {L : T} : ∀ {w : List (Item × T)} {t : T}, shutAll (w ++ [(y, L)]) t = .node y.key y.val y.tag L (shutAll w t)
  | [], _ => rfl
  | (z, l) :: w, t => by simp only [List.cons_append, shutAll]; exact shutAll_base
/-- The first one above which none stands is the root. -/
theorem ofI_split {a b : List Item} {x : Item} (ha : ∀ y ∈ a, above x y = true) (hb : ∀ y ∈ b, above y x = false) : ofI (a ++ x :: b) = .node x.key x.val x.tag (ofI a) (ofI b) := by
  have h1 : shutI x (a.foldl stepI []) .nil = ([], ofI a) := shutI_all fun p hp => by
    rcases way_mem hp with h | h
    · exact ha _ h
    · simp at h
  have h2 : stepI (a.foldl stepI []) x = [] ++ [(x, ofI a)] := by simp [stepI, h1]
  unfold ofI at *
  rw [List.foldl_append, List.foldl_cons, h2, way_base hb, shutAll_base]

/-- Where the first one stands, of the first i and one more, above which none stands. -/
def best (l : List Item) : Nat → Nat
  | 0 => 0
  | i + 1 => if above (l.getD (i + 1) ⟨0, 0, 0⟩) (l.getD (best l i) ⟨0, 0, 0⟩) then i + 1 else best l i
theorem best_le (l : List Item) : ∀ i, best l i ≤ i
  | 0 => Nat.le_refl _
  | i + 1 => by have := best_le l i; unfold best; split <;> omega
theorem best_spec (l : List Item) : ∀ i, (∀ j, j < best l i → above (l.getD (best l i) ⟨0, 0, 0⟩) (l.getD j ⟨0, 0, 0⟩) = true) ∧ ∀ j, best l i < j → j ≤ i → above (l.getD j ⟨0, 0, 0⟩) (l.getD (best l i) ⟨0, 0, 0⟩) = false
  | 0 => ⟨fun j hj => by simp [best] at hj, fun j h1 h2 => by simp [best] at h1; omega⟩
  | i + 1 => by
    obtain ⟨h1, h2⟩ := best_spec l i
    have hle := best_le l i
    unfold best
    split
    · rename_i h
      refine ⟨fun j hj => ?_, fun j h3 h4 => by omega⟩
      rcases Nat.lt_trichotomy j (best l i) with h3 | h3 | h3
      · have h4 := h1 j h3
        rw [above_iff] at *; omega
      · subst h3; exact h
      · have h4 := h2 j h3 (by omega)
        rw [above_iff] at *; rw [above_not] at h4; omega
    · rename_i h
      refine ⟨h1, fun j h3 h4 => ?_⟩
      rcases Nat.lt_or_ge j (i + 1) with h5 | h5
      · exact h2 j h3 (by omega)
      · obtain rfl : j = i + 1 := by omega
        simpa using h
theorem ofI_best {l : List Item} (h : l ≠ []) : ∃ k x, k = best l (l.length - 1) ∧ k < l.length ∧ l[k]? = some x ∧ ofI l = .node x.key x.val x.tag (ofI (l.take k)) (ofI (l.drop (k + 1))) := by
  have hpos := List.length_pos_iff.2 h
  have hle := best_le l (l.length - 1)
  obtain ⟨h1, h2⟩ := best_spec l (l.length - 1)
  generalize hk : best l (l.length - 1) = k at *
  have hkl : k < l.length := by omega
  refine ⟨k, l[k], rfl, hkl, List.getElem?_eq_getElem hkl, ?_⟩
  have hx : l.getD k ⟨0, 0, 0⟩ = l[k] := by simp [List.getD, hkl]
  rw [hx] at h1 h2
  have hs : l = l.take k ++ l[k] :: l.drop (k + 1) := by rw [List.getElem_cons_drop, List.take_append_drop]
  conv => lhs; rw [hs]
  refine ofI_split (fun y hy => ?_) fun y hy => ?_
  · obtain ⟨j, hj, rfl⟩ := List.mem_iff_getElem.1 hy
    rw [List.length_take] at hj
    have := h1 j (by omega)
    rw [List.getElem_take]
    simpa [List.getD, show j < l.length by omega] using this
  · obtain ⟨j, hj, rfl⟩ := List.mem_iff_getElem.1 hy
    rw [List.length_drop] at hj
    have := h2 (k + 1 + j) (by omega) (by omega)
    rw [List.getElem_drop]
    simpa [List.getD, show k + 1 + j < l.length by omega] using this
theorem ofI_nil : ofI [] = .nil := rfl
/-- Items make a tree that may be, and that has just them. -/
theorem ofI_good : ∀ (n : Nat) (l : List Item), l.length = n → (ofI l).items = l ∧ mayT (ofI l) = true ∧ ∀ x : Item, (∀ y ∈ l, above y x = false) → over (ofI l) x = false := by
  intro n
  induction n using Nat.strongRecOn with
  | _ n ih =>
    intro l hn
    by_cases h : l = []
    · subst h; exact ⟨rfl, rfl, fun _ _ => rfl⟩
    · have hpos := List.length_pos_iff.2 h
      have hle := best_le l (l.length - 1)
      obtain ⟨h1, h2⟩ := best_spec l (l.length - 1)
      obtain ⟨k, x, hk, hkl, hx, ho⟩ := ofI_best h
      rw [← hk] at h1 h2
      have hs : l = l.take k ++ x :: l.drop (k + 1) := by
        obtain ⟨_, rfl⟩ := List.getElem?_eq_some_iff.1 hx
        rw [List.getElem_cons_drop, List.take_append_drop]
      have hxd : l.getD k ⟨0, 0, 0⟩ = x := by simp [List.getD, hx]
      rw [hxd] at h1 h2
      obtain ⟨i1, m1, u1⟩ := ih (l.take k).length (by rw [List.length_take]; omega) (l.take k) rfl
      obtain ⟨i2, m2, u2⟩ := ih (l.drop (k + 1)).length (by rw [List.length_drop]; omega) (l.drop (k + 1)) rfl
      have o1 : over (ofI (l.take k)) x = false := u1 x fun y hy => by
        obtain ⟨j, hj, rfl⟩ := List.mem_iff_getElem.1 hy
        rw [List.length_take] at hj
        have h3 := h1 j (by omega)
        rw [List.getElem_take]
        rw [show l.getD j ⟨0, 0, 0⟩ = l[j]'(by omega) from by simp [List.getD, show j < l.length by omega]] at h3
        rw [above_iff] at h3; rw [above_not]; omega
      have o2 : over (ofI (l.drop (k + 1))) x = false := u2 x fun y hy => by
        obtain ⟨j, hj, rfl⟩ := List.mem_iff_getElem.1 hy
        rw [List.length_drop] at hj
        have h3 := h2 (k + 1 + j) (by omega) (by omega)
        rw [List.getElem_drop]
        rwa [show l.getD (k + 1 + j) ⟨0, 0, 0⟩ = l[k + 1 + j]'(by omega) from by simp [List.getD, show k + 1 + j < l.length by omega]] at h3
      rw [ho]
      refine ⟨?_, mayT_node.2 ⟨o1, o2, m1, m2⟩, fun z hz => ?_⟩
      · simp only [T.items, i1, i2]; exact hs.symm
      · simp only [over, T.some, T.item, Bool.true_and]
        exact hz x (List.mem_of_getElem? hx)
theorem ofI_items (l : List Item) : (ofI l).items = l := (ofI_good _ l rfl).1
theorem ofI_may (l : List Item) : mayT (ofI l) = true := (ofI_good _ l rfl).2.1
theorem ofI_size (l : List Item) : (ofI l).size = l.length := by rw [← T.items_length, ofI_items]
/-- Have no two the same tag and key? -/
def Unl (l : List Item) : Prop := l.Pairwise fun a b => ¬ (a.tag = b.tag ∧ a.key = b.key)
/-- There is one treap of unlike items. -/
theorem ofI_one : ∀ {t : T}, mayT t = true → Unl t.items → ofI t.items = t
  | .nil, _, _ => rfl
  | .node k v g l r, h, hu => by
    obtain ⟨h1, h2, h3, h4⟩ := mayT_node.1 h
    unfold Unl at hu
    simp only [T.items, List.pairwise_append, List.pairwise_cons, List.mem_cons] at hu
    obtain ⟨u1, ⟨u2, u3⟩, u4⟩ := hu
    rw [T.items, ofI_split, ofI_one h3 u1, ofI_one h4 u3]
    · intro y hy
      exact above_total (mayT_under h3 h1 y hy) (u4 y hy _ (.inl rfl))
    · intro y hy
      exact mayT_under h4 h2 y hy
theorem ofI_eq {t : T} (hu : Unl t.items) : ofI t.items = t ↔ mayT t = true :=
  ⟨fun h => h ▸ ofI_may _, fun h => ofI_one h hu⟩
end Go.Proofs.Ytlehcagpddgamaa
