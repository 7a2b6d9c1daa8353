/- WORDS FOR MEMORY: what was there is as it was, but for some blocks; slices that lie between two blocks. -/
import Derived.Test.YtgpegcjgmoiglaaDoorAppend
import Derived.Lib.SliceRun
namespace Go.Proofs.YtgpegcjgmoiglaaDoor
open Go.RowKit

/-- What was there is as it was, but for these blocks. -/
structure Chg (S : List Nat) (w w' : World) : Prop where
  os : w'.os = w.os
  tape : w'.tape = w.tape
  output : w'.output = w.output
  size : w.heap.size ≤ w'.heap.size
  block : ∀ b, b < w.heap.size → b ∉ S → w'.heap[b]? = w.heap[b]?
section
variable {S : List Nat} {a b c w w' : World}
theorem Ext.chg (h : Ext a b) (S : List Nat) : Chg S a b := ⟨h.os, h.tape, h.output, h.size, fun k hk _ => h.block k hk⟩
theorem Chg.refl (S : List Nat) (w : World) : Chg S w w := (Ext.refl w).chg S
theorem Chg.trans (h : Chg S a b) (k : Chg S b c) : Chg S a c :=
  ⟨k.os.trans h.os, k.tape.trans h.tape, k.output.trans h.output, Nat.le_trans h.size k.size, fun i hi hn => (k.block i (Nat.lt_of_lt_of_le hi h.size) hn).trans (h.block i hi hn)⟩
theorem Chg.set {p : Addr} (h : Chg S a b) (hp : p.block ∈ S) (u : Value) : Chg S a (b.setCell p u) :=
  ⟨h.os, h.tape, h.output, by simpa using h.size, fun i hi hn => (Below.heap_setCell b p u i (fun e => hn (e ▸ hp))).trans (h.block i hi hn)⟩
theorem Chg.blk {B : Nat} {t : TypeId} {cs : Array Value} (h : Chg S a b) (hb : Blk a B t cs) (hn : B ∉ S) : Blk b B t cs := (h.block B hb.lt hn).trans hb
theorem Chg.ext (h : Chg S a b) (x : Ext w a) (hS : ∀ s ∈ S, w.heap.size ≤ s) : Ext w b :=
  ⟨h.os.trans x.os, h.tape.trans x.tape, h.output.trans x.output, Nat.le_trans x.size h.size, fun k hk => (h.block k (Nat.lt_of_lt_of_le hk x.size) (fun hm => by have := hS k hm; omega)).trans (x.block k hk)⟩
theorem Chg.cell (h : Chg S a b) {p : Addr} (hp : p.block < a.heap.size) (hn : p.block ∉ S) : b.cell? p = a.cell? p := World.cell?_of_block (w := a) (h.block p.block hp hn)
end

/-- A slice that reads as a list, whose row lies in a block from lo on, below hi. -/
def SlB {α : Type} (enc : α → List Value) (lo hi : Nat) (w : World) (v : Value) (l : List α) : Prop :=
  ∃ A c, v = .slice A l.length c ∧ l.length ≤ c ∧ (l ≠ [] → ∃ b off, A = some ⟨b, off, none⟩ ∧ (lo ≤ b ∧ b < hi ∧ b < w.heap.size) ∧ Cells w b off (flat enc l))
section
variable {α : Type} {enc : α → List Value} {lo hi : Nat} {w w' : World} {v : Value} {l : List α}
theorem SlB.sl (h : SlB enc lo hi w v l) : Sl enc w v l := by
  obtain ⟨A, c, rfl, hc, hr⟩ := h
  exact ⟨A, c, rfl, hc, fun hl => by obtain ⟨b, off, e, hb, hcs⟩ := hr hl; exact ⟨b, off, e, hb.2.2, hcs⟩⟩
theorem SlB.chg {S : List Nat} (h : SlB enc lo hi w v l) (k : Chg S w w') (hS : ∀ s ∈ S, s < lo ∨ hi ≤ s) : SlB enc lo hi w' v l := by
  obtain ⟨A, c, rfl, hc, hr⟩ := h
  refine ⟨A, c, rfl, hc, fun hl => ?_⟩
  obtain ⟨b, off, e, hb, hcs⟩ := hr hl
  refine ⟨b, off, e, ⟨hb.1, hb.2.1, Nat.lt_of_lt_of_le hb.2.2 k.size⟩, fun i u hu => (k.cell (p := ⟨b, off + i, none⟩) hb.2.2 ?_).trans (hcs i u hu)⟩
  intro hm
  have := hS _ hm
  simp at this
  omega
theorem SlB.ext (h : SlB enc lo hi w v l) (k : Ext w w') : SlB enc lo hi w' v l := h.chg (k.chg []) (fun s hs => by simp at hs)
theorem SlB.cut {sz : Nat} (he : ∀ x, (enc x).length = sz) {A : Option Addr} {n c : Nat} (h : SlB enc lo hi w (.slice A n c) l) (k : Nat) (hk : k ≤ l.length) : n = l.length ∧ SlB enc lo hi w (.slice (cutA sz A c k) (n - k) (c - k)) (l.drop k) := by
  obtain ⟨A', c', e, hc, hr⟩ := h
  injection e with e1 e2 e3
  subst e1 e2 e3
  refine ⟨rfl, _, _, by rw [List.length_drop], by rw [List.length_drop]; omega, fun hl => ?_⟩
  obtain ⟨b, off, rfl, hb, hcs⟩ := hr (by rintro rfl; simp at hl)
  have h2 := Row.cut he (w := w) (A := some ⟨b, off, none⟩) (l := l) (fun _ => ⟨b, off, rfl, hb.2.2, hcs⟩) k hc hl
  obtain ⟨b2, off2, e2, hb2, hc2⟩ := h2
  refine ⟨b2, off2, e2, ?_, hc2⟩
  unfold cutA at e2
  split at e2
  · simp at e2; omega
  · have hbb : b = b2 := by
      simp [Addr.add] at e2
      split at e2
      · exact (Addr.mk.inj e2).1
      · exact (Addr.mk.inj e2).1
    subst hbb
    exact hb
theorem Own.slB {sz e base : Nat} (he : ∀ x, (enc x).length = sz) (hs : 0 < sz) (h : Own enc e sz base w v l) : SlB enc base w.heap.size w v l := by
  obtain ⟨A, c, rfl, hc, hr⟩ := h.sl he hs
  refine ⟨A, c, rfl, hc, fun hl => ?_⟩
  obtain ⟨b, off, rfl, hb, hcs⟩ := hr hl
  have := h.lt b (by simp [Value.ownBlock])
  exact ⟨b, off, rfl, ⟨this.1, hb, hb⟩, hcs⟩
end

end Go.Proofs.YtgpegcjgmoiglaaDoor
