/- THE PLAIN LAW of shared nodes: trees of nodes that have addresses. No program in sight. -/
import Derived.IntWalk
namespace Go.Proofs.Ytlehcagpddgamaa

/-- A tree of nodes that have an address each. -/
inductive G where
  | nil
  | nd (b : Nat) (l r : G)
namespace G
def ids : G → List Nat
  | nil => []
  | nd b l r => b :: (ids l ++ ids r)
def size : G → Nat
  | nil => 0
  | nd _ l r => size l + 1 + size r
/-- Each node is what its address says. -/
def byF (f : Nat → G) : G → Prop
  | nil => True
  | nd b l r => f b = nd b l r ∧ byF f l ∧ byF f r
/-- What a walk puts into a set. -/
def fr : G → List Nat → List Nat
  | nil, S => S
  | nd b l r, S => if b ∈ S then S else fr r (fr l S ++ [b])
/-- The nodes of others that are met first. -/
def tp (O : List Nat) : G → List Nat → List Nat → List Nat × List Nat
  | nil, M, L => (M, L)
  | nd b l r, M, L => if b ∈ M then (M, L) else if b ∈ O then (M ++ [b], L ++ [b]) else tp O r (tp O l (M ++ [b]) L).1 (tp O l (M ++ [b]) L).2
end G
open G
section
variable {f : Nat → G}
theorem ids_len (g : G) : g.ids.length = g.size := by
  induction g with
  | nil => rfl
  | nd b l r h1 h2 => simp [ids, size, h1, h2]; omega
theorem at_mem : ∀ {g : G}, byF f g → ∀ {c : Nat}, c ∈ g.ids → byF f (f c) ∧ c ∈ (f c).ids ∧ (f c).size ≤ g.size ∧ ∀ x ∈ (f c).ids, x ∈ g.ids
  | .nil, _, c, h => by simp [ids] at h
  | .nd b l r, hb, c, h => by
    obtain ⟨h0, h1, h2⟩ := hb
    simp only [ids, List.mem_cons, List.mem_append] at h
    rcases h with rfl | h | h
    · rw [h0]; exact ⟨⟨h0, h1, h2⟩, by simp [ids], Nat.le_refl _, fun x h => h⟩
    · obtain ⟨a1, a2, a3, a4⟩ := at_mem h1 h
      exact ⟨a1, a2, by simp only [size]; omega, fun x hx => by simp only [ids, List.mem_cons, List.mem_append]; exact .inr (.inl (a4 x hx))⟩
    · obtain ⟨a1, a2, a3, a4⟩ := at_mem h2 h
      exact ⟨a1, a2, by simp only [size]; omega, fun x hx => by simp only [ids, List.mem_cons, List.mem_append]; exact .inr (.inr (a4 x hx))⟩
theorem not_left {b : Nat} {l r : G} (h : byF f (.nd b l r)) : b ∉ l.ids := fun hm => by
  have := (at_mem h.2.1 hm).2.2.1
  rw [h.1] at this
  simp only [size] at this; omega
theorem not_right {b : Nat} {l r : G} (h : byF f (.nd b l r)) : b ∉ r.ids := fun hm => by
  have := (at_mem h.2.2 hm).2.2.1
  rw [h.1] at this
  simp only [size] at this; omega
/-- A set has, of a tree, all that stands under what it has. -/
def Shut (f : Nat → G) (t : G) (S : List Nat) : Prop := ∀ c ∈ S, c ∈ t.ids → ∀ x ∈ (f c).ids, x ∈ S
theorem mem_fr : ∀ {t : G}, byF f t → ∀ {S : List Nat}, Shut f t S → ∀ x, x ∈ fr t S ↔ x ∈ S ∨ x ∈ t.ids
  | .nil, _, S, _, x => by simp [fr, ids]
  | .nd b l r, hb, S, hs, x => by
    have nl := not_left hb
    have nr := not_right hb
    obtain ⟨h0, h1, h2⟩ := hb
    unfold fr
    split
    · rename_i hm
      constructor
      · exact .inl
      · rintro (h | h)
        · exact h
        · exact hs b hm (by simp [ids]) x (by rw [h0]; exact h)
    · rename_i hm
      have sl : Shut f l S := fun c hc hl => hs c hc (by simp [ids, hl])
      have ml := mem_fr h1 sl
      have sr : Shut f r (fr l S ++ [b]) := by
        intro c hc hr y hy
        rw [List.mem_append, ml] at hc ⊢
        rcases hc with (hc | hc) | hc
        · exact .inl (.inl (hs c hc (by simp [ids, hr]) y hy))
        · exact .inl (.inr ((at_mem h1 hc).2.2.2 y hy))
        · simp only [List.mem_singleton] at hc; subst hc; exact absurd hr nr
      rw [mem_fr h2 sr, List.mem_append, ml]
      simp only [ids, List.mem_cons, List.mem_append, List.not_mem_nil, or_false]
      constructor
      · rintro (((h | h) | h) | h)
        · exact .inl h
        · exact .inr (.inr (.inl h))
        · exact .inr (.inl h)
        · exact .inr (.inr (.inr h))
      · rintro (h | h | h | h)
        · exact .inl (.inl (.inl h))
        · exact .inl (.inr h)
        · exact .inl (.inl (.inr h))
        · exact .inr h
theorem nodup_fr : ∀ {t : G}, byF f t → ∀ {S : List Nat}, Shut f t S → S.Nodup → (fr t S).Nodup
  | .nil, _, S, _, hn => hn
  | .nd b l r, hb, S, hs, hn => by
    have nl := not_left hb
    have nr := not_right hb
    obtain ⟨h0, h1, h2⟩ := hb
    unfold fr
    split
    · exact hn
    · rename_i hm
      have sl : Shut f l S := fun c hc hl => hs c hc (by simp [ids, hl])
      have ml := mem_fr h1 sl
      have sr : Shut f r (fr l S ++ [b]) := by
        intro c hc hr y hy
        rw [List.mem_append, ml] at hc ⊢
        rcases hc with (hc | hc) | hc
        · exact .inl (.inl (hs c hc (by simp [ids, hr]) y hy))
        · exact .inl (.inr ((at_mem h1 hc).2.2.2 y hy))
        · simp only [List.mem_singleton] at hc; subst hc; exact absurd hr nr
      refine nodup_fr h2 sr ?_
      rw [List.nodup_append]
      refine ⟨nodup_fr h1 sl hn, by simp, ?_⟩
      rintro a ha b' hb' rfl
      rw [ml] at ha
      simp only [List.mem_singleton] at hb'
      subst hb'
      rcases ha with ha | ha
      · exact hm ha
      · exact nl ha
/-- A set has all that stands under what it has. -/
def Whole (f : Nat → G) (S : List Nat) : Prop := ∀ c ∈ S, ∀ x ∈ (f c).ids, x ∈ S
theorem Whole.shut {S : List Nat} (h : Whole f S) (t : G) : Shut f t S := fun c hc _ => h c hc
theorem Whole.nil : Whole f [] := fun _ h => by simp at h
theorem Whole.fr {t : G} {S : List Nat} (h : Whole f S) (ht : byF f t) : Whole f (G.fr t S) := by
  intro c hc x hx
  rw [mem_fr ht (h.shut t)] at hc ⊢
  rcases hc with hc | hc
  · exact .inl (h c hc x hx)
  · exact .inr ((at_mem ht hc).2.2.2 x hx)
/-- What all puts into its set. -/
def allG (l : List G) : List Nat := l.foldl (fun S t => fr t S) []
theorem allG_snoc (l : List G) (t : G) : allG (l ++ [t]) = fr t (allG l) := by simp [allG]
theorem allG_spec {l : List G} (h : ∀ t ∈ l, byF f t) : Whole f (allG l) ∧ (allG l).Nodup ∧ ∀ x, x ∈ allG l ↔ ∃ t ∈ l, x ∈ t.ids := by
  suffices H : ∀ (l : List G) (S : List Nat), (∀ t ∈ l, byF f t) → Whole f S → S.Nodup → Whole f (l.foldl (fun S t => fr t S) S) ∧ (l.foldl (fun S t => fr t S) S).Nodup ∧ ∀ x, x ∈ l.foldl (fun S t => fr t S) S ↔ x ∈ S ∨ ∃ t ∈ l, x ∈ t.ids by
    obtain ⟨a, b, c⟩ := H l [] h Whole.nil List.nodup_nil
    exact ⟨a, b, fun x => by rw [allG, c]; simp⟩
  intro l
  induction l with
  | nil => intro S _ hw hn; exact ⟨hw, hn, fun x => by simp⟩
  | cons t l ih =>
    intro S hb hw hn
    have ht := hb t (by simp)
    obtain ⟨a, b, c⟩ := ih (fr t S) (fun u hu => hb u (by simp [hu])) (hw.fr ht) (nodup_fr ht (hw.shut t) hn)
    refine ⟨a, b, fun x => ?_⟩
    rw [List.foldl_cons, c, mem_fr ht (hw.shut t)]
    simp only [List.mem_cons, exists_eq_or_imp, or_assoc]
theorem len_same {a b : List Nat} (ha : a.Nodup) (hb : b.Nodup) (h : ∀ x, x ∈ a ↔ x ∈ b) : a.length = b.length := ((List.perm_ext_iff_of_nodup ha hb).2 h).length_eq
/-- How many are new. -/
def newN (t : G) (S : List Nat) : Nat := (fr t S).length - S.length
theorem fr_len : ∀ (t : G) (S : List Nat), S.length ≤ (fr t S).length
  | .nil, S => Nat.le_refl _
  | .nd b l r, S => by
    unfold fr
    split
    · exact Nat.le_refl _
    · have h1 := fr_len l S
      have h2 := fr_len r (fr l S ++ [b])
      simp at h2; omega
/-- One new node above two trees. -/
theorem new_above {b : Nat} {p q : G} (h : byF f (.nd b p q)) : newN (.nd b p q) (allG [p, q]) = 1 ∧ (fr (.nd b p q) []).length = 1 + (fr p []).length + newN q (allG [p]) := by
  have hp := h.2.1
  have hq := h.2.2
  have nl := not_left h
  have nr := not_right h
  obtain ⟨w, n, m⟩ := allG_spec (f := f) (l := [p, q]) (by simp [hp, hq])
  have e1 : (fr (.nd b p q) (allG [p, q])).length = (b :: allG [p, q]).length := by
    refine len_same (nodup_fr h (w.shut _) n) (List.nodup_cons.2 ⟨?_, n⟩) fun x => ?_
    · rw [m]; simp [nl, nr]
    · rw [mem_fr h (w.shut _), m]; simp [ids, m]
      intro h
      exact .inr h
  have e2 : (fr (.nd b p q) []).length = (b :: allG [p, q]).length := by
    refine len_same (nodup_fr h (Whole.nil.shut _) List.nodup_nil) (List.nodup_cons.2 ⟨?_, n⟩) fun x => ?_
    · rw [m]; simp [nl, nr]
    · rw [mem_fr h (Whole.nil.shut _)]; simp [ids, m]
  have e3 : allG [p, q] = fr q (fr p []) := rfl
  have e4 : allG [p] = fr p [] := rfl
  have l1 := fr_len q (fr p [])
  unfold newN
  rw [e1, e2, e3, e4]
  simp
  omega
theorem new_none {t : G} (ht : byF f t) {S : List Nat} (hw : Whole f S) (hn : S.Nodup) (h : ∀ x ∈ t.ids, x ∈ S) : newN t S = 0 := by
  have e := len_same (nodup_fr ht (hw.shut t) hn) hn fun x => by rw [mem_fr ht (hw.shut t)]; exact ⟨fun k => k.elim id (h x), .inl⟩
  unfold newN; omega
/-- What is under one of a row of nodes. -/
def Cov (f : Nat → G) (L : List Nat) (x : Nat) : Prop := ∃ c ∈ L, x ∈ (f c).ids
theorem Cov.mono {L K : List Nat} {x : Nat} (h : Cov f L x) (hs : ∀ c ∈ L, c ∈ K) : Cov f K x := by
  obtain ⟨c, hc, hx⟩ := h
  exact ⟨c, hs c hc, hx⟩
theorem tp_spec {O : List Nat} : ∀ {t : G}, byF f t → ∀ {M L : List Nat}, (∀ c ∈ M, c ∈ t.ids → ∀ x ∈ (f c).ids, x ∈ O → Cov f L x) →
    (∀ x ∈ t.ids, x ∈ O → Cov f (tp O t M L).2 x) ∧ (∀ c ∈ (tp O t M L).1, c ∈ M ∨ c ∈ t.ids) ∧ (∀ c ∈ L, c ∈ (tp O t M L).2) ∧ (∀ c ∈ (tp O t M L).2, c ∈ L ∨ c ∈ O ∧ c ∈ t.ids)
  | .nil, _, M, L, _ => ⟨fun x h => by simp [ids] at h, fun c h => .inl h, fun c h => h, fun c h => .inl h⟩
  | .nd b l r, hb, M, L, hs => by
    have nl := not_left hb
    have nr := not_right hb
    have hb' := hb
    obtain ⟨h0, h1, h2⟩ := hb
    unfold tp
    by_cases hm : b ∈ M
    · rw [if_pos hm]
      exact ⟨fun x h ho => hs b hm (by simp [ids]) x (by rw [h0]; exact h) ho, fun c h => .inl h, fun c h => h, fun c h => .inl h⟩
    · rw [if_neg hm]
      by_cases ho : b ∈ O
      · rw [if_pos ho]
        refine ⟨fun x h _ => ⟨b, by simp, by rw [h0]; exact h⟩, fun c h => ?_, fun c h => by simp [h], fun c h => ?_⟩
        · simp only [List.mem_append, List.mem_singleton] at h
          rcases h with h | rfl
          · exact .inl h
          · exact .inr (by simp [ids])
        · simp only [List.mem_append, List.mem_singleton] at h
          rcases h with h | rfl
          · exact .inl h
          · exact .inr ⟨ho, by simp [ids]⟩
      · rw [if_neg ho]
        obtain ⟨a1, a2, a3, a4⟩ := tp_spec (O := O) h1 (M := M ++ [b]) (L := L) (fun c hc hl x hx hxo => by
          simp only [List.mem_append, List.mem_singleton] at hc
          rcases hc with hc | rfl
          · exact hs c hc (by simp [ids, hl]) x hx hxo
          · exact absurd hl nl)
        generalize tp O l (M ++ [b]) L = ML at *
        obtain ⟨M', L'⟩ := ML
        simp only at a1 a2 a3 a4 ⊢
        obtain ⟨b1, b2, b3, b4⟩ := tp_spec (O := O) h2 (M := M') (L := L') (fun c hc hr x hx hxo => by
          rcases a2 c hc with h | h
          · simp only [List.mem_append, List.mem_singleton] at h
            rcases h with h | rfl
            · exact (hs c h (by simp [ids, hr]) x hx hxo).mono a3
            · exact absurd hr nr
          · exact a1 x ((at_mem h1 h).2.2.2 x hx) hxo)
        refine ⟨fun x hx hxo => ?_, fun c hc => ?_, fun c hc => b3 c (a3 c hc), fun c hc => ?_⟩
        · simp only [ids, List.mem_cons, List.mem_append] at hx
          rcases hx with rfl | hx | hx
          · exact absurd hxo ho
          · exact (a1 x hx hxo).mono b3
          · exact b1 x hx hxo
        · rcases b2 c hc with h | h
          · rcases a2 c h with h | h
            · simp only [List.mem_append, List.mem_singleton] at h
              rcases h with h | rfl
              · exact .inl h
              · exact .inr (by simp [ids])
            · exact .inr (by simp [ids, h])
          · exact .inr (by simp [ids, h])
        · rcases b4 c hc with h | h
          · rcases a4 c h with h | h
            · exact .inl h
            · exact .inr ⟨h.1, by simp [ids, h.2]⟩
          · exact .inr ⟨h.1, by simp [ids, h.2]⟩
/-- The nodes of two trees that both have. -/
theorem tops_spec {t o : G} (ht : byF f t) (ho : byF f o) {L : List Nat} (hL : (tp (allG [o]) t [] []).2 = L) :
    (∀ c ∈ L, c ∈ o.ids ∧ c ∈ t.ids ∧ byF f (f c) ∧ newN (f c) (allG [o]) = 0) ∧ (allG (L.map f)).length + newN t (allG [o]) = (fr t []).length := by
  obtain ⟨w, n, m⟩ := allG_spec (f := f) (l := [o]) (by simp [ho])
  have m' : ∀ x, x ∈ allG [o] ↔ x ∈ o.ids := fun x => by rw [m]; simp
  obtain ⟨a1, _, _, a4⟩ := tp_spec (O := allG [o]) ht (M := []) (L := []) (fun c hc => by simp at hc)
  rw [hL] at a1 a4
  have c4 : ∀ c ∈ L, c ∈ o.ids ∧ c ∈ t.ids := fun c hc => by
    rcases a4 c hc with h | h
    · simp at h
    · exact ⟨(m' c).1 h.1, h.2⟩
  refine ⟨fun c hc => ?_, ?_⟩
  · obtain ⟨k1, k2⟩ := c4 c hc
    exact ⟨k1, k2, (at_mem ho k1).1, new_none (at_mem ho k1).1 w n fun x hx => (m' x).2 ((at_mem ho k1).2.2.2 x hx)⟩
  · obtain ⟨w2, n2, m2⟩ := allG_spec (f := f) (l := L.map f) (fun u hu => by
      obtain ⟨c, hc, rfl⟩ := List.mem_map.1 hu
      exact (at_mem ho (c4 c hc).1).1)
    obtain ⟨S, hS⟩ : ∃ S, allG [o] = S := ⟨_, rfl⟩
    rw [hS] at w n m'
    have T1 := nodup_fr ht (Whole.nil.shut t) List.nodup_nil
    have T2 := mem_fr ht (Whole.nil.shut t)
    have T3 := nodup_fr ht (w.shut t) n
    have T4 := mem_fr ht (w.shut t)
    have e1 : (fr t S).length = (S ++ (fr t []).filter (fun x => !decide (x ∈ S))).length := by
      refine len_same T3 (List.nodup_append.2 ⟨n, T1.filter _, ?_⟩) fun x => ?_
      · rintro a ha b hb rfl
        simp [ha] at hb
      · rw [T4, List.mem_append, List.mem_filter, T2]
        by_cases hx : x ∈ S <;> simp [hx]
    have e2 : (allG (L.map f)).length = ((fr t []).filter (fun x => decide (x ∈ S))).length := by
      refine len_same n2 (T1.filter _) fun x => ?_
      rw [m2, List.mem_filter, T2]
      simp only [List.mem_map, List.not_mem_nil, false_or, decide_eq_true_eq]
      constructor
      · rintro ⟨_, ⟨c, hc, rfl⟩, hx⟩
        obtain ⟨k1, k2⟩ := c4 c hc
        exact ⟨(at_mem ht k2).2.2.2 x hx, (m' x).2 ((at_mem ho k1).2.2.2 x hx)⟩
      · rintro ⟨h1, h2⟩
        obtain ⟨c, hc, hx⟩ := a1 x h1 (hS ▸ h2)
        exact ⟨f c, ⟨c, hc, rfl⟩, hx⟩
    have e3 := List.length_eq_countP_add_countP (fun x => decide (x ∈ S)) (l := fr t [])
    simp only [List.countP_eq_length_filter] at e3
    have e5 : (fr t []).filter (fun x => !decide (x ∈ S)) = (fr t []).filter (fun a => decide ¬ decide (a ∈ S) = true) := by congr; funext x; by_cases h : x ∈ S <;> simp [h]
    rw [← e5] at e3
    have e4 := fr_len t S
    rw [hS]
    unfold newN
    rw [List.length_append] at e1
    omega
end
end Go.Proofs.Ytlehcagpddgamaa
