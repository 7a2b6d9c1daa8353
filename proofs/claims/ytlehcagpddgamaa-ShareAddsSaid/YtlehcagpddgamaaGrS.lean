/- Trees of nodes in memory, with their addresses. -/
import Derived.Test.YtlehcagpddgamaaNode
import Derived.Test.YtlehcagpddgamaaShareLaw
namespace Go.Proofs.Ytlehcagpddgamaa
open Go.RowKit

/-- A pointer to a tree of these nodes. -/
def GrS (w : World) : Value → G → Prop
  | v, .nil => v = .pointer none
  | v, .nd b l r => ∃ k x g tl tr vl vr, v = .pointer (some ⟨b, 0, none⟩) ∧ At w b k x g tl tr vl vr ∧ GrS w vl l ∧ GrS w vr r
theorem GrS.ext {w w' : World} (e : Ext w w') : ∀ {t : G} {v : Value}, GrS w v t → GrS w' v t
  | .nil, _, h => h
  | .nd _ _ _, _, ⟨k, x, g, tl, tr, vl, vr, hv, ha, hl, hr⟩ => ⟨k, x, g, tl, tr, vl, vr, hv, ha.ext e, hl.ext e, hr.ext e⟩
theorem GrS.ptr {w : World} {t : G} {v : Value} (h : GrS w v t) : ∃ a, v = .pointer a := by
  cases t with
  | nil => exact ⟨none, h⟩
  | nd b l r => obtain ⟨k, x, g, tl, tr, vl, vr, hv, _⟩ := h; exact ⟨_, hv⟩
/-- Each tree has its addresses. -/
theorem Tr.grs {w : World} : ∀ {t : T} {v : Value}, Tr w v t → ∃ g, GrS w v g
  | .nil, _, h => ⟨.nil, h⟩
  | .node _ _ _ _ _, _, ⟨b, vl, vr, hv, ha, hl, hr⟩ => by
    obtain ⟨gl, hgl⟩ := Tr.grs hl
    obtain ⟨gr, hgr⟩ := Tr.grs hr
    exact ⟨.nd b gl gr, _, _, _, _, _, vl, vr, hv, ha, hgl, hgr⟩
/-- The sides of a node are what its block says. -/
theorem At.sides {w : World} {b : Nat} {k x g k' x' g' : Int} {l r l' r' : T} {vl vr vl' vr' : Value} (h : At w b k x g l r vl vr) (h' : At w b k' x' g' l' r' vl' vr') : vl = vl' ∧ vr = vr' := by
  unfold At Blk at h h'
  rw [h] at h'
  simp [cellsOf] at h'
  exact ⟨h'.2.2.2.2.2.1, h'.2.2.2.2.2.2⟩
theorem GrS.det {w : World} : ∀ {g g' : G} {v : Value}, GrS w v g → GrS w v g' → g = g'
  | .nil, .nil, _, _, _ => rfl
  | .nil, .nd _ _ _, _, h, h' => by
    obtain ⟨k, x, g, tl, tr, vl, vr, hv, _⟩ := h'
    rw [show _ = Value.pointer none from h] at hv; cases hv
  | .nd _ _ _, .nil, _, h, h' => by
    obtain ⟨k, x, g, tl, tr, vl, vr, hv, _⟩ := h
    rw [show _ = Value.pointer none from h'] at hv; cases hv
  | .nd b l r, .nd b' l' r', _, h, h' => by
    obtain ⟨k, x, g, tl, tr, vl, vr, hv, ha, hl, hr⟩ := h
    obtain ⟨k', x', g', tl', tr', vl', vr', hv', ha', hl', hr'⟩ := h'
    rw [hv] at hv'
    obtain rfl : b = b' := by injection hv' with e; injection e with e; injection e
    obtain ⟨rfl, rfl⟩ := ha.sides ha'
    rw [GrS.det hl hl', GrS.det hr hr']
theorem GrS.lt {w : World} : ∀ {g : G} {v : Value}, GrS w v g → ∀ i ∈ g.ids, i < w.heap.size
  | .nil, _, _, i, h => by simp [G.ids] at h
  | .nd b l r, _, ⟨k, x, g, tl, tr, vl, vr, hv, ha, hl, hr⟩, i, h => by
    simp only [G.ids, List.mem_cons, List.mem_append] at h
    rcases h with rfl | h | h
    · exact Blk.lt ha
    · exact hl.lt i h
    · exact hr.lt i h
/-- What each address says. -/
theorem GrS.all (w : World) : ∃ f : Nat → G, ∀ {g : G} {v : Value}, GrS w v g → G.byF f g := by
  classical
  refine ⟨fun b => if h : ∃ g, GrS w (.pointer (some ⟨b, 0, none⟩)) g then Classical.choose h else .nil, ?_⟩
  intro g
  induction g with
  | nil => intro v _; trivial
  | nd b l r hl hr =>
    intro v h
    have h0 := h
    obtain ⟨k, x, g, tl, tr, vl, vr, hv, ha, h1, h2⟩ := h
    refine ⟨?_, hl h1, hr h2⟩
    have he : ∃ g, GrS w (.pointer (some ⟨b, 0, none⟩)) g := ⟨_, hv ▸ h0⟩
    simp only [dif_pos he]
    exact GrS.det (Classical.choose_spec he) (hv ▸ h0)
end Go.Proofs.Ytlehcagpddgamaa
