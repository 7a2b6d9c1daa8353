/- THE PLAIN LAW of a join of two treaps. No program in sight. -/
import Derived.Test.YtlehcagpddgamaaTreapLaw
namespace Go.Proofs.Ytlehcagpddgamaa

theorem item_mem : ∀ {t : T}, t.some = true → t.item ∈ t.items
  | .nil, h => by cases h
  | .node k x g l r, _ => by simp [T.items, T.item]
theorem over_none {t : T} {x : Item} (h : ∀ z ∈ t.items, above z x = false) : over t x = false := by
  unfold over
  cases hs : t.some with
  | false => rfl
  | true => rw [Bool.true_and]; exact h _ (item_mem hs)
theorem above_asym {a b : Item} (h : above a b = true) : above b a = false := by rw [above_iff] at h; rw [above_not]; omega
/-- None of a treap's items stands above what its root does not stand above. -/
theorem may_all {t : T} {x : Item} (h : mayT t = true) (ho : t.some = true → above t.item x = false) : ∀ z ∈ t.items, above z x = false := mayT_under h (by
  unfold over
  cases hs : t.some with
  | false => rfl
  | true => rw [Bool.true_and]; exact ho hs)
/-- What a join has to be. -/
def Joined (l : T) (x : Item) (r t : T) : Prop := mayT t = true ∧ t.items = l.items ++ x :: r.items
/-- The left root stands on top. -/
theorem join_left {k v g : Int} {a b r t : T} {x : Item} (hl : mayT (.node k v g a b) = true) (hr : mayT r = true) (h1 : above x ⟨k, v, g⟩ = false) (h2 : r.some = true → above r.item ⟨k, v, g⟩ = false) (h : Joined b x r t) : Joined (.node k v g a b) x r (.node k v g a t) := by
  obtain ⟨m1, m2, m3, m4⟩ := mayT_node.1 hl
  refine ⟨mayT_node.2 ⟨m1, over_none fun z hz => ?_, m3, h.1⟩, by simp [T.items, h.2]⟩
  rw [h.2] at hz
  simp only [List.mem_append, List.mem_cons] at hz
  rcases hz with hz | rfl | hz
  · exact mayT_under m4 m2 z hz
  · exact h1
  · exact may_all hr h2 z hz
/-- The right root stands on top. -/
theorem join_right {k v g : Int} {a b l t : T} {x : Item} (hl : mayT l = true) (hr : mayT (.node k v g a b) = true) (h1 : above x ⟨k, v, g⟩ = false) (h2 : l.some = true → above l.item ⟨k, v, g⟩ = false) (h : Joined l x a t) : Joined l x (.node k v g a b) (.node k v g t b) := by
  obtain ⟨m1, m2, m3, m4⟩ := mayT_node.1 hr
  refine ⟨mayT_node.2 ⟨over_none fun z hz => ?_, m2, h.1, m4⟩, by simp [T.items, h.2]⟩
  rw [h.2] at hz
  simp only [List.mem_append, List.mem_cons] at hz
  rcases hz with hz | rfl | hz
  · exact may_all hl h2 z hz
  · exact h1
  · exact mayT_under m3 m1 z hz
/-- The item stands on top. -/
theorem join_mid {l r : T} {x : Item} (hl : mayT l = true) (hr : mayT r = true) (h1 : l.some = true → above l.item x = false) (h2 : r.some = true → above r.item x = false) : Joined l x r (.node x.key x.val x.tag l r) :=
  ⟨mayT_node.2 ⟨over_none (may_all hl h1), over_none (may_all hr h2), hl, hr⟩, rfl⟩
/-- Does a root stand above the item, and above the other root? -/
def topB (a : T) (x : Item) (b : T) : Bool := a.some && above a.item x && (!b.some || above a.item b.item)
theorem top_left {l r : T} {x : Item} (h : topB l x r = true) : l.some = true ∧ above l.item x = true ∧ (r.some = true → above r.item l.item = false) := by
  unfold topB at h
  simp only [Bool.and_eq_true, Bool.or_eq_true, Bool.not_eq_true'] at h
  refine ⟨h.1.1, h.1.2, fun hs => ?_⟩
  rcases h.2 with h2 | h2
  · rw [hs] at h2; cases h2
  · exact above_asym h2
/-- Neither stands above both others, but the left one stands above the item. -/
theorem both_left {l r : T} {x : Item} (h1 : topB l x r = false) (h2 : topB r x l = false) (h : above l.item x = true) (hs : l.some = true) : r.some = true → above r.item l.item = false := by
  intro hr
  unfold topB at h1 h2
  simp only [hs, hr, h, Bool.true_and, Bool.not_true, Bool.false_or, Bool.and_eq_false_iff] at h1 h2
  rcases h2 with h2 | h2
  · rw [above_iff] at h; rw [above_not] at h1 h2 ⊢; omega
  · exact h2
theorem both_right {l r : T} {x : Item} (h1 : ¬ (l.some = true ∧ above l.item x = true)) (h : above r.item x = true) : l.some = true → above l.item r.item = false := by
  intro hl
  have h2 : above l.item x = false := by simpa [hl] using h1
  rw [above_iff] at h; rw [above_not] at h2 ⊢; omega
theorem joined_one {l r t : T} {x : Item} (h : Joined l x r t) (hu : Unl (l.items ++ x :: r.items)) : t = ofI (l.items ++ x :: r.items) := by
  rw [← h.2] at hu ⊢
  exact (ofI_one h.1 hu).symm
theorem joined_size {l r t : T} {x : Item} (h : Joined l x r t) : t.size = l.size + 1 + r.size := by
  have := congrArg List.length h.2
  simp only [T.items_length, List.length_append, List.length_cons] at this
  omega
end Go.Proofs.Ytlehcagpddgamaa
