/- Beads that a statement takes are those of a tree, of numbers that the program's kinds hold. -/
import Derived.Test.YtgpegcjgmoiglaaDoorFrameB
import Derived.Test.YtgpegcjgmoiglaaDoorShapeLaw
import Derived.Test.YtgpegcjgmoiglaaDoorOf
namespace Go.Proofs.YtgpegcjgmoiglaaDoor
open Go.RowKit

theorem short_of {l : List Bead} (h : (decide (400 < l.length) || !mayL l) = false) : l.length ≤ 400 ∧ ∃ t, Ser l t ∧ t.size ≤ 400 ∧ t.height ≤ 400 := by
  simp only [Bool.or_eq_false_iff, decide_eq_false_iff_not, Bool.not_eq_false'] at h
  obtain ⟨t, ht⟩ := mayL_ser h.2
  have := ht.length
  have := t.height_le_size
  exact ⟨by omega, t, ht, by omega, by omega⟩
theorem i64_wf {n : Int} (h : (Lit.int .i64 n).wf = true) : I64 n := by
  have hmin : IntKind.i64.min = -9223372036854775808 := rfl
  have hmax : IntKind.i64.max = 9223372036854775807 := rfl
  simp only [Lit.wf, Bool.and_eq_true, decide_eq_true_eq] at h
  unfold I64; omega
theorem u64_wf {n : Int} (h : (Lit.int .u64 n).wf = true) : 0 ≤ n ∧ n < 18446744073709551616 := by
  have hmin : IntKind.u64.min = 0 := rfl
  have hmax : IntKind.u64.max = 18446744073709551615 := rfl
  simp only [Lit.wf, Bool.and_eq_true, decide_eq_true_eq] at h
  omega
theorem rng_of : ∀ {t : T} {l : List Bead}, Ser l t → (∀ x ∈ l, x.wf) → RngT t
  | .nil, _, _, _ => trivial
  | .node k x g a b, l, ⟨y, la, lb, hl, h1, h2, h3, _, _, sa, sb⟩, hw => by
    subst hl
    have hy := hw y (by simp)
    refine ⟨h1 ▸ i64_wf hy.key, h2 ▸ i64_wf hy.val, h3 ▸ u64_wf hy.tag, rng_of sa fun z hz => hw z (by simp [hz]), rng_of sb fun z hz => hw z (by simp [hz])⟩
theorem Own.beads {w : World} {v : Value} {l : List Bead} {e base : Nat} (h : Own Bead.enc e 7 base w v l) : Sl Bead.enc w v l := h.sl Bead.enc_len (by omega)
theorem bOf_ser (t : T) : Ser (bOf t) t := ofT_ser _ t
theorem same_bOf (t u : T) : decide (bOf t = bOf u) = decide (t = u) := by
  rw [Bool.eq_iff_iff]
  simp only [decide_eq_true_eq]
  exact ⟨fun h => ofT_inj _ h, fun h => by rw [h]⟩
end Go.Proofs.YtgpegcjgmoiglaaDoor
