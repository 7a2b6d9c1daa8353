/- The walks of the laws of joinerylaw09. -/
import Derived.Test.YtlehcagpddgamaaAlive09
namespace Go.Proofs.Ytlehcagpddgamaa
open Go.RowKit

/-- Beads that a statement takes are those of a tree. -/
theorem short_of {l : List Bead} (h : (decide (400 < l.length) || !mayL l) = false) : l.length ≤ 400 ∧ ∃ t, Ser l t ∧ t.size ≤ 400 ∧ t.height ≤ 400 := by
  simp only [Bool.or_eq_false_iff, decide_eq_false_iff_not, Bool.not_eq_false'] at h
  obtain ⟨t, ht⟩ := mayL_ser h.2
  have := ht.length
  have := t.height_le_size
  exact ⟨by omega, t, ht, by omega, by omega⟩

theorem nodeTells_walk {l : List Bead} {v : Value} {w : World} (h : Sl Bead.enc w v l) (hm : l.length ≤ maxLen) :
    Calls Try.prog 3 #[v] w fun e w' => e = .returned (.bool true) ∧ Ext w w' := by
  unfold maxLen at hm
  cases hL : (decide (400 < l.length) || !mayL l) with
  | true =>
    have hlong := long_any h (by omega)
    rw [hL] at hlong
    go_enter Try.func3, Try.ntmps3
    go_wp2_with fail
    refine (hlong).mono ?_; rintro e w' ⟨rfl, rfl⟩
    go_wp2_with fail
    refine (alive09 _).mono ?_; rintro e w1 ⟨rfl, x1⟩
    go_wp2_with fail
    go_ret
    exact ⟨rfl, x1⟩
  | false =>
    have hlong := long_any h (by omega)
    rw [hL] at hlong
    obtain ⟨h400, t, ht, hts, hth⟩ := short_of hL
    clear hL
    go_enter Try.func3, Try.ntmps3
    go_wp2_with fail
    refine (hlong).mono ?_; rintro e w' ⟨rfl, rfl⟩
    go_wp2_with fail
    refine (make_any t h ht (by omega) (by omega)).mono ?_; rintro e w1 ⟨u1, rfl, x1, t1⟩
    go_wp2_with fail
    refine (of_beads t (h.ext x1) ht (by omega) (by omega)).mono ?_; rintro e w2 ⟨u2, rfl, x2, o2⟩
    go_wp2_with fail
    have his := is_any (t1.ext x2) (by omega) (o2.sl Bead.enc_len (by omega)) (by rw [bOf_length]; omega)
    rw [decide_eq_true rfl] at his
    refine (his).mono ?_; rintro e w3 ⟨rfl, x3⟩
    go_wp2_with fail
    refine (alive09 _).mono ?_; rintro e w4 ⟨rfl, x4⟩
    go_wp2_with fail
    go_ret
    exact ⟨rfl, ((x1.trans x2).trans x3).trans x4⟩
end Go.Proofs.Ytlehcagpddgamaa
