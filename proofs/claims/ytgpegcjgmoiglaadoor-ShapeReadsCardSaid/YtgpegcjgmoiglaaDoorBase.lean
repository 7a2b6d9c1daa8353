/- WORDS FOR MEMORY: a world that has grown; a row of cells; a slice that reads as a list; what a call owns. No program in sight. -/
import Derived.WalkKit
import Derived.Below
import Derived.Maps.AppendAt
import Derived.Deep.AppendLies
import Derived.Deep.Draws
import Derived.Laws.OwnMore
import Derived.Lib.Hide
namespace Go.Proofs.YtgpegcjgmoiglaaDoor
open Go.RowKit

theorem alloc_size (w : World) (o : Obj) : (w.alloc o).heap.size = w.heap.size + 1 := by simp
/-- What was there is as it was. -/
def Ext (w w' : World) : Prop := Below w.heap.size w w'
theorem Ext.refl (w : World) : Ext w w := Below.refl _ _
theorem Ext.size {a b : World} (h : Ext a b) : a.heap.size ≤ b.heap.size := Below.size h
theorem Ext.trans {a b c : World} (h : Ext a b) (k : Ext b c) : Ext a c := Below.trans h (Below.mono k h.size)
theorem Ext.alloc {a w : World} (h : Ext a w) (o : Obj) : Ext a (w.alloc o) := Below.alloc h h.size o
theorem Ext.drew {a w : World} (h : Ext a w) : Ext a w.drew := Below.drew h
theorem Ext.drewN {a w : World} (h : Ext a w) (n : Nat) : Ext a (w.drewN n) := ⟨h.os, h.tape, h.output, h.size, h.block⟩
theorem Ext.set {a w : World} (h : Ext a w) {p : Addr} (hp : a.heap.size ≤ p.block) (u : Value) : Ext a (w.setCell p u) := Below.setCell h hp u
theorem Ext.grown {a w w' : World} {row : Option Nat} (h : Ext a w) (hg : w.grownBy w' row) (hr : ∀ k, row = some k → a.heap.size ≤ k) : Ext a w' := Below.grown h hg h.size hr
theorem Ext.blk {a w : World} (h : Ext a w) {k : Nat} (hk : k < a.heap.size) : w.heap[k]? = a.heap[k]? := Below.block h k hk
theorem Ext.cell {a w : World} (h : Ext a w) {p : Addr} (hp : p.block < a.heap.size) : w.cell? p = a.cell? p := Below.cell h hp
theorem Ext.frozen {a w : World} (h : Ext a w) {p : Addr} (hp : p.block < a.heap.size) : w.frozen? p = a.frozen? p := Below.frozen h hp

/-- Block b is just these cells, none of them frozen. -/
def Blk (w : World) (b : Nat) (t : TypeId) (cs : Array Value) : Prop := w.heap[b]? = some (.cells cs t (0, 0))
section
variable {w w' : World} {b : Nat} {t : TypeId} {cs : Array Value}
theorem Blk.lt (h : Blk w b t cs) : b < w.heap.size := (Array.getElem?_eq_some_iff.1 h).1
theorem Blk.cell (h : Blk w b t cs) (i : Nat) : w.cell? ⟨b, i, none⟩ = cs[i]? := cell_of_row w b i cs t (0, 0) h
theorem Blk.frozen (h : Blk w b t cs) (i : Nat) : w.frozen? ⟨b, i, none⟩ = false := by
  unfold Blk at h
  simp [World.frozen?, h]
theorem Blk.ext (h : Blk w b t cs) (k : Ext w w') : Blk w' b t cs := (k.blk h.lt).trans h
theorem Blk.new (w : World) (t : TypeId) (cs : Array Value) : Blk (w.alloc (.cells cs t)) w.heap.size t cs := heap_alloc_new w _
theorem Blk.set (h : Blk w b t cs) (i : Nat) (u : Value) : Blk (w.setCell ⟨b, i, none⟩ u) b t (cs.setIfInBounds i u) := by
  unfold Blk at h ⊢
  simp [World.setCell, Array.getElem?_modify, h]
theorem Blk.far (h : Blk w b t cs) {p : Addr} (hp : b ≠ p.block) (u : Value) : Blk (w.setCell p u) b t cs := (Below.heap_setCell w p u b hp).trans h
theorem Blk.drew (h : Blk w b t cs) : Blk w.drew b t cs := h
theorem Blk.drewN (h : Blk w b t cs) (n : Nat) : Blk (w.drewN n) b t cs := h
theorem Blk.alloc (h : Blk w b t cs) (o : Obj) : Blk (w.alloc o) b t cs := (Below.heap_alloc w o b h.lt).trans h
theorem Blk.grown {row : Option Nat} (h : Blk w b t cs) (hg : w.grownBy w' row) (hne : some b ≠ row) : Blk w' b t cs := (hg.block b h.lt hne).trans h
end

/-- From an address on lie these cells. -/
def Cells (w : World) (b off : Nat) (vs : List Value) : Prop := ∀ i v, vs[i]? = some v → w.cell? ⟨b, off + i, none⟩ = some v
theorem Cells.ext {w w' : World} {b off : Nat} {vs : List Value} (h : Cells w b off vs) (k : Ext w w') (hb : b < w.heap.size) : Cells w' b off vs :=
  fun i v hv => (k.cell (p := ⟨b, off + i, none⟩) hb).trans (h i v hv)
theorem Cells.app {w : World} {b off : Nat} {vs us : List Value} : Cells w b off (vs ++ us) ↔ Cells w b off vs ∧ Cells w b (off + vs.length) us := by
  constructor
  · intro h
    refine ⟨fun i v hv => h i v ?_, fun i v hv => ?_⟩
    · rw [List.getElem?_append_left (by have := (List.getElem?_eq_some_iff.1 hv).1; exact this)]; exact hv
    · have := h (vs.length + i) v (by rw [List.getElem?_append_right (by omega)]; simpa using hv)
      rwa [← Nat.add_assoc] at this
  · rintro ⟨h, k⟩ i v hv
    rcases Nat.lt_or_ge i vs.length with hi | hi
    · rw [List.getElem?_append_left hi] at hv; exact h i v hv
    · rw [List.getElem?_append_right hi] at hv
      have := k (i - vs.length) v hv
      rwa [show off + vs.length + (i - vs.length) = off + i from by omega] at this
theorem Cells.nil (w : World) (b off : Nat) : Cells w b off [] := fun i v hv => by simp at hv
theorem Cells.cons {w : World} {b off : Nat} {v : Value} {vs : List Value} : Cells w b off (v :: vs) ↔ w.cell? ⟨b, off, none⟩ = some v ∧ Cells w b (off + 1) vs := by
  have h := Cells.app (w := w) (b := b) (off := off) (vs := [v]) (us := vs)
  simp only [List.singleton_append, List.length_singleton] at h
  rw [h]
  refine and_congr_left fun _ => ⟨fun h => by simpa using h 0 v rfl, fun h i u hu => ?_⟩
  match i, hu with
  | 0, hu => simp at hu; subst hu; simpa using h

section rows
variable {α : Type} (enc : α → List Value) (sz : Nat)
/-- The elements, one behind the other. -/
def flat (l : List α) : List Value := l.flatMap enc
/-- The addresses of a slice's elements. -/
def Row (w : World) (A : Option Addr) (l : List α) : Prop := l ≠ [] → ∃ b off, A = some ⟨b, off, none⟩ ∧ b < w.heap.size ∧ Cells w b off (flat enc l)
/-- A slice that reads as a list. -/
def Sl (w : World) (v : Value) (l : List α) : Prop := ∃ A c, v = .slice A l.length c ∧ l.length ≤ c ∧ Row enc w A l
variable {enc} {sz}
theorem flat_nil : flat enc [] = [] := rfl
theorem flat_cons (x : α) (l : List α) : flat enc (x :: l) = enc x ++ flat enc l := by simp [flat]
theorem flat_append (l m : List α) : flat enc (l ++ m) = flat enc l ++ flat enc m := by simp [flat]
theorem flat_length (he : ∀ x, (enc x).length = sz) : ∀ l : List α, (flat enc l).length = l.length * sz
  | [] => by simp [flat]
  | x :: l => by rw [flat_cons, List.length_append, he, flat_length he l, List.length_cons, Nat.add_mul]; omega
theorem Row.ext {w w' : World} {A : Option Addr} {l : List α} (h : Row enc w A l) (k : Ext w w') : Row enc w' A l := fun hl => by
  obtain ⟨b, off, rfl, hb, hc⟩ := h hl
  exact ⟨b, off, rfl, Nat.lt_of_lt_of_le hb k.size, hc.ext k hb⟩
theorem Sl.ext {w w' : World} {v : Value} {l : List α} (h : Sl enc w v l) (k : Ext w w') : Sl enc w' v l := by
  obtain ⟨A, c, rfl, hc, hr⟩ := h
  exact ⟨A, c, rfl, hc, hr.ext k⟩
theorem Row.none_ (w : World) (A : Option Addr) : Row enc w A [] := fun h => absurd rfl h
theorem Sl.nil_ (w : World) : Sl enc w (.slice none 0 0) [] := ⟨none, 0, rfl, Nat.le_refl _, Row.none_ w none⟩
/-- The cells of element i. -/
theorem Cells.elem (he : ∀ x, (enc x).length = sz) {w : World} {b off : Nat} : ∀ {l : List α} {i : Nat} {x : α}, Cells w b off (flat enc l) → l[i]? = some x → Cells w b (off + i * sz) (enc x)
  | [], i, x, _, hx => by simp at hx
  | y :: l, 0, x, h, hx => by
    simp at hx; subst hx
    rw [flat_cons, Cells.app] at h
    simpa using h.1
  | y :: l, i + 1, x, h, hx => by
    rw [flat_cons, Cells.app, he] at h
    have := Cells.elem he h.2 (i := i) (x := x) (by simpa using hx)
    rwa [show off + sz + i * sz = off + (i + 1) * sz from by rw [Nat.add_mul]; omega] at this
/-- A cut 's[k:]': the model keeps the address where nothing of the capacity is left. -/
theorem Row.drop (he : ∀ x, (enc x).length = sz) {w : World} {A : Option Addr} {l : List α} (h : Row enc w A l) {k cap : Nat} (hc : l.length ≤ cap) :
    Row enc w (if cap = k then A else A.map (·.add (k * sz))) (l.drop k) := fun hl => by
  have hk : k < l.length := by
    rcases Nat.lt_or_ge k l.length with h | h
    · exact h
    · exact absurd (List.drop_eq_nil_of_le h) hl
  obtain ⟨b, off, rfl, hb, hcell⟩ := h (by rintro rfl; simp at hk)
  rw [if_neg (by omega)]
  refine ⟨b, off + k * sz, ?_, hb, ?_⟩
  · simp [Addr.add]
  · have h2 : flat enc l = flat enc (l.take k) ++ flat enc (l.drop k) := by rw [← flat_append, List.take_append_drop]
    rw [h2, Cells.app, flat_length he, List.length_take, Nat.min_eq_left (by omega)] at hcell
    exact hcell.2
theorem Row.take {w : World} {A : Option Addr} {l : List α} (h : Row enc w A l) (k : Nat) : Row enc w A (l.take k) := fun hl => by
  obtain ⟨b, off, rfl, hb, hcell⟩ := h (by rintro rfl; simp at hl)
  refine ⟨b, off, rfl, hb, ?_⟩
  have h2 : flat enc l = flat enc (l.take k) ++ flat enc (l.drop k) := by rw [← flat_append, List.take_append_drop]
  rw [h2, Cells.app] at hcell
  exact hcell.1
/-- What a call owns reads as a list. -/
theorem Row.own (he : ∀ x, (enc x).length = sz) (hs : 0 < sz) {w : World} {base : Nat} {e : TypeId} {A : Option Addr} {n c : Nat} {l : List α} (h : w.ownsRow base e sz (.slice A n c) n (flat enc l)) : Row enc w A l ∧ n = l.length := by
  have hn : n = l.length := by
    have := h.1
    rw [flat_length he] at this
    exact Nat.eq_of_mul_eq_mul_right hs this.symm
  subst hn
  refine ⟨fun hl => ?_, rfl⟩
  obtain ⟨g, cap, hv, _, hlt⟩ := h.form (List.length_pos_iff.2 hl)
  have hA : A = some ⟨g, 0, none⟩ := by injection hv
  subst hA
  refine ⟨g, 0, rfl, hlt, fun i v hv => ?_⟩
  have := h.cells (g := g) rfl i v hv
  rw [Nat.zero_add]
  by_cases h0 : i = 0
  · subst h0; simpa [Addr.add] using this
  · simpa [Addr.add, h0] using this
/-- What a call owns: from block 'base' on. -/
def Own (enc : α → List Value) (e sz : Nat) (base : Nat) (w : World) (v : Value) (l : List α) : Prop := w.ownsRow base e sz v l.length (flat enc l)
theorem Own.sl (he : ∀ x, (enc x).length = sz) (hs : 0 < sz) {e base : Nat} {w : World} {v : Value} {l : List α} (h : Own enc e sz base w v l) : Sl enc w v l := by
  rcases h.2 with ⟨rfl, hx⟩ | ⟨g, cap, cur, rfl, hbg, hg, hnc, hcm, hcs, htake⟩
  · have hl : l = [] := by
      exact List.eq_nil_of_length_eq_zero hx
    subst hl
    exact Sl.nil_ w
  · exact ⟨_, _, rfl, hnc, (Row.own he hs h).1⟩
theorem Own.nil_ (w : World) (e base : Nat) : Own enc e sz base w (.slice none 0 0) [] := World.ownsRow_nil w base e sz
theorem Own.mono {e base base' : Nat} {w : World} {v : Value} {l : List α} (h : Own enc e sz base w v l) (hb : base' ≤ base) : Own enc e sz base' w v l := by
  refine ⟨h.1, ?_⟩
  rcases h.2 with h2 | ⟨g, cap, cur, hv, hg, r⟩
  · exact .inl h2
  · exact .inr ⟨g, cap, cur, hv, Nat.le_trans hb hg, r⟩
theorem Own.lt {e base : Nat} {w : World} {v : Value} {l : List α} (h : Own enc e sz base w v l) : ∀ k, v.ownBlock = some k → base ≤ k ∧ k < w.heap.size := World.ownsRow.lt h
/-- A later world in which the blocks that were there are as they were. -/
theorem Own.ext {e base : Nat} {w w' : World} {v : Value} {l : List α} (h : Own enc e sz base w v l) (k : Ext w w') : Own enc e sz base w' v l := by
  refine ⟨h.1, ?_⟩
  rcases h.2 with h2 | ⟨g, cap, cur, hv, hg, hh, r⟩
  · exact .inl h2
  · exact .inr ⟨g, cap, cur, hv, hg, (k.blk (Array.getElem?_eq_some_iff.1 hh).1).trans hh, r⟩
end rows

/-- Where a cut of a slice begins. -/
def cutA (sz : Nat) (A : Option Addr) (c k : Nat) : Option Addr := if c = k then A else A.map (·.add (k * sz))
section
variable {P : Program} {t e : TypeId} {i : TypeInfo} {sz : Nat} (ht : P.underlying t = some (.slice e)) (hi : P.info? e = some i) (hs : i.size = sz) (A : Option Addr) {n c : Nat}
include ht hi hs
theorem run_cut_l (k : Int) (kk : Nat) (hk : k = kk) (hkn : kk ≤ n) : ∀ w : World,
    (Instr.slice t (.slice A n c) (some (.int .i64 k)) none none).run P w = .ok (.slice (cutA sz A c kk) (n - kk) (c - kk)) w := by
  intro w
  subst hk hs
  have h1 : (kk : Int) ≤ (n : Int) := by omega
  have h2 : (0 : Int) ≤ (kk : Int) := by omega
  simp [Instr.slice, run_underlying ht, Instr.sliceBounds, run_sliceBound, sizeOf, typeInfo, hi, cutA, h1, h2]
theorem run_cut_lh (k h : Int) (kk hh : Nat) (hk : k = kk) (hhh : h = hh) (hkn : kk ≤ hh) (hhc : hh ≤ c) : ∀ w : World,
    (Instr.slice t (.slice A n c) (some (.int .i64 k)) (some (.int .i64 h)) none).run P w = .ok (.slice (cutA sz A c kk) (hh - kk) (c - kk)) w := by
  intro w
  subst hk hhh hs
  have h1 : (kk : Int) ≤ (hh : Int) := by omega
  have h2 : (0 : Int) ≤ (kk : Int) := by omega
  have h3 : (hh : Int) ≤ (c : Int) := by omega
  have h4 : (0 : Int) ≤ (hh : Int) := by omega
  simp [Instr.slice, run_underlying ht, Instr.sliceBounds, run_sliceBound, sizeOf, typeInfo, hi, cutA, h1, h2, h3, h4]
theorem run_cut_h (h : Int) (hh : Nat) (hhh : h = hh) (hhc : hh ≤ c) : ∀ w : World,
    (Instr.slice t (.slice A n c) none (some (.int .i64 h)) none).run P w = .ok (.slice (cutA sz A c 0) hh c) w := by
  intro w
  subst hhh hs
  have h3 : (hh : Int) ≤ (c : Int) := by omega
  have h4 : (0 : Int) ≤ (hh : Int) := by omega
  simp [Instr.slice, run_underlying ht, Instr.sliceBounds, run_sliceBound, sizeOf, typeInfo, hi, cutA, h3, h4]
end
theorem cutA_zero (sz : Nat) (A : Option Addr) (c : Nat) : cutA sz A c 0 = A := by
  unfold cutA
  split
  · rfl
  · cases A <;> simp [Addr.add]
theorem Row.cut {α : Type} {enc : α → List Value} {sz : Nat} (he : ∀ x, (enc x).length = sz) {w : World} {A : Option Addr} {l : List α} (h : Row enc w A l) (k : Nat) {cap : Nat} (hc : l.length ≤ cap) :
    Row enc w (cutA sz A cap k) (l.drop k) := Row.drop he h hc
end Go.Proofs.YtgpegcjgmoiglaaDoor
