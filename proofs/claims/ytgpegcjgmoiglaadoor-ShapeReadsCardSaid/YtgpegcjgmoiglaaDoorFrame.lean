/- FROM AN ARGUMENT'S READING TO A LIST: a slice that came in, of whatever elements. -/
import Derived.Test.YtgpegcjgmoiglaaDoorBase
import Derived.ProofKit
import Derived.OpenShut
import Derived.ShutString
import Derived.ChangeOld
import Derived.Deep.Slices
import Derived.Deep.Fields
namespace Go.Proofs.YtgpegcjgmoiglaaDoor
open Go.RowKit Go.ChangeShapes Go.WideShapes Go.Deep

theorem list_of {α : Type} (Q : Nat → α → Prop) : ∀ n : Nat, (∀ i, i < n → ∃ x, Q i x) → ∃ l : List α, l.length = n ∧ ∀ i x, l[i]? = some x → Q i x
  | 0, _ => ⟨[], rfl, fun i x h => by simp at h⟩
  | n + 1, h => by
    obtain ⟨l, hl, hQ⟩ := list_of Q n fun i hi => h i (by omega)
    obtain ⟨x, hx⟩ := h n (by omega)
    refine ⟨l ++ [x], by simp [hl], fun i y hy => ?_⟩
    rcases Nat.lt_or_ge i n with hi | hi
    · rw [List.getElem?_append_left (by omega)] at hy; exact hQ i y hy
    · rw [List.getElem?_append_right (by omega)] at hy
      have h0 : i - l.length = 0 := by
        rcases Nat.eq_zero_or_pos (i - l.length) with h0 | h0
        · exact h0
        · rw [List.getElem?_eq_none (by simp; omega)] at hy; cases hy
      rw [h0] at hy
      simp at hy
      subst hy
      obtain rfl : i = n := by omega
      exact hx

theorem add_add' (a : Addr) (i j : Nat) : (a.add i).add j = a.add (i + j) := by
  unfold Addr.add
  by_cases hi : i = 0 <;> by_cases hj : j = 0 <;> simp [hi, hj, Nat.add_assoc]

theorem Cells.of_elems {α : Type} {enc : α → List Value} {sz : Nat} (he : ∀ x, (enc x).length = sz) {w : World} {b off : Nat} : ∀ {l : List α}, (∀ i x, l[i]? = some x → Cells w b (off + i * sz) (enc x)) → Cells w b off (flat enc l)
  | [], _ => Cells.nil w b off
  | x :: l, h => by
    rw [flat_cons, Cells.app, he]
    refine ⟨by simpa using h 0 x rfl, Cells.of_elems he fun i y hy => ?_⟩
    have := h (i + 1) y (by simpa using hy)
    rwa [show off + (i + 1) * sz = off + sz + i * sz from by rw [Nat.add_mul]; omega] at this

section
variable {α H : Type} {encα : α → List Value} {sz : Nat} {enc : TypeId × Value → H} {P : Program} {w : World} {base : Nat} {spare : Nat → Bool} {held : Bool} {t e : TypeId}
theorem sl_of_trod {r : Reach} {b0 : Nat} {v : Value} {d : DataW H} {p : List MemPlace} (he : ∀ x, (encα x).length = sz) (hs : 0 < sz) (wf : α → Prop) (ht : P.underlying t = some (.slice e)) (hC : P.cellsOf e = sz)
    (elem : ∀ (n : Nat) (cs : List Value) (y : DataW H × List MemPlace), DataW.trod enc P w base spare held n e cs = some y → ∃ x, cs = encα x ∧ wf x)
    (hv : Value.okWide P w r b0 t v) (h : DataW.Trod enc P w base spare held t v d p) : ∃ l : List α, Sl encα w v l ∧ l.length ≤ maxLen ∧ ∀ x ∈ l, wf x := by
  obtain ⟨a0, len0, cap0, rfl⟩ := okWide_slice ht hv
  obtain ⟨fuel, hf⟩ := h
  rcases open_slice ht hf with ⟨hcs, _⟩ | ⟨a, len, cap, m, n, D, Pl, hcs, _, hl, hm, hmm, _, hi⟩
  · simp [Value.cells] at hcs
    obtain ⟨rfl, rfl, rfl⟩ := hcs
    exact ⟨[], Sl.nil_ w, Nat.zero_le _, by simp⟩
  · simp [Value.cells] at hcs
    obtain ⟨rfl, rfl, rfl⟩ := hcs
    have hmle : len0 ≤ m := by rw [hmm]; split <;> omega
    obtain ⟨l, hlen, hl2⟩ := list_of (fun i x => (∀ j u, (encα x)[j]? = some u → w.cell? (a.add (i * sz + j)) = some u) ∧ wf x) len0 (fun i hilt => by
      obtain ⟨cs, hc, hy⟩ := hi i (by omega)
      obtain ⟨x, rfl, hwf⟩ := elem n cs _ hy
      obtain ⟨_, hcl, hat⟩ := World.cells?_some hc
      rw [hC] at hat hcl
      refine ⟨x, fun j u hj => ?_, hwf⟩
      have hjl : j < sz := by rw [← hcl]; exact (List.getElem?_eq_some_iff.1 hj).1
      have := hat j hjl
      rw [add_add'] at this
      rw [this, hj])
    refine ⟨l, ⟨some a, cap0, by rw [hlen], by omega, fun hne => ?_⟩, by omega, fun x hx => ?_⟩
    · have hpos : 0 < l.length := List.length_pos_iff.2 hne
      have h0 : l[0]? = some l[0] := List.getElem?_eq_getElem hpos
      have hz : 0 < (encα l[0]).length := by rw [he]; exact hs
      have hc0 := (hl2 0 _ h0).1 0 _ (List.getElem?_eq_getElem hz)
      obtain ⟨b, off, spot⟩ := a
      have hspot : spot = none := by simpa [Addr.add] using World.cell?_spot hc0
      subst hspot
      have hb : b < w.heap.size := by
        have := World.block_lt_of_cell? w _ hc0
        simpa [Addr.add] using this
      refine ⟨b, off, rfl, hb, Cells.of_elems he fun i x hx j u hj => ?_⟩
      have := (hl2 i x hx).1 j u hj
      by_cases hz : i * sz + j = 0
      · rw [hz] at this
        rw [Nat.add_assoc, hz]
        simpa [Addr.add] using this
      · rw [Nat.add_assoc]
        rwa [show (⟨b, off, none⟩ : Addr).add (i * sz + j) = ⟨b, off + (i * sz + j), none⟩ from by unfold Addr.add; rw [if_neg hz]] at this
    · obtain ⟨i, hilt, hx⟩ := List.getElem_of_mem hx
      exact (hl2 i x (by rw [← hx]; exact List.getElem?_eq_getElem hilt)).2
end
end Go.Proofs.YtgpegcjgmoiglaaDoor
