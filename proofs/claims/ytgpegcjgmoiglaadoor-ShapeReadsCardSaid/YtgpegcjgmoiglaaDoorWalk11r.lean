/- The walk of joinerylaw11.ShapeReads. -/
import Derived.Test.YtgpegcjgmoiglaaDoorAlive11
import Derived.Test.YtgpegcjgmoiglaaDoorRefRead
import Derived.Test.YtgpegcjgmoiglaaDoorShort
namespace Go.Proofs.YtgpegcjgmoiglaaDoor
open Go.RowKit Go.Lib
set_option linter.unusedVariables false

theorem MadeR.out {o : Option T} {e : Ending} {w : World} (h : MadeR o e w) : ∃ p, e = .returned (.tuple #[.pointer p, .int .i64 (numO o)]) ∧ Tr w (.pointer p) (o.getD .nil) := by
  obtain ⟨p, n, rfl, rfl, ht⟩ := h
  exact ⟨p, rfl, ht⟩
theorem is_yes {t : T} {v vl : Value} {w : World} {e base : Nat} (h : Tr w v t) (hs : t.size ≤ 2000) (hl : Own Bead.enc e 7 base w vl (bOf t)) :
    Calls Tryd.prog 19 #[v, vl] w fun e w' => e = .returned (.bool true) ∧ Ext w w' := by
  have his := is_any h hs (hl.sl Bead.enc_len (by omega)) (by rw [bOf_length]; omega)
  rwa [decide_eq_true rfl] at his
theorem itoa_ne (n : Int) : itoa n ≠ [] := by
  unfold itoa
  split
  · simp
  · exact decDigits_ne _
theorem line_size : ∀ t : T, 7 * t.size ≤ (lineT t).length
  | .nil => by simp [T.size]
  | .node k x g a b => by
    have h1 := line_size a
    have h2 := line_size b
    have h3 : 1 ≤ (itoa k).length := by
      cases h : itoa k with
      | nil => exact absurd h (itoa_ne k)
      | cons => simp
    have h4 : 1 ≤ (itoa x).length := by
      cases h : itoa x with
      | nil => exact absurd h (itoa_ne x)
      | cons => simp
    simp [lineT, midL, T.size]
    omega
theorem readT_size {s : List UInt8} (hs : s.length ≤ 4096) : ((readT s).getD .nil).size ≤ 1000 := by
  cases e : readT s with
  | none => exact Nat.zero_le _
  | some t =>
    obtain ⟨h1, _⟩ := readT_some e
    have := line_size t
    rw [← h1] at this
    show t.size ≤ 1000
    omega
set_option maxRecDepth 100000 in
set_option maxHeartbeats 4000000 in
theorem shapeReads_walk {s : ByteArray} {w : World} (hl : Laid w) :
    Calls Tryd.prog 4 #[.string s] w fun e w' => e = .returned (.bool true) ∧ Ext w w' := by
  obtain ⟨⟨L⟩⟩ := s
  have L0 := Lib.hid hl
  clear hl
  by_cases hlen : 4096 < L.length
  · have hlt : (4096 : Int) < (L.length : Int) := by omega
    go_enter Tryd.func4, Tryd.ntmps4
    go_wp2_with fail
    refine (alive11_any L0.out).mono ?_; rintro e w1 ⟨rfl, x1⟩
    go_wp2_with fail
    go_ret
    exact ⟨rfl, x1⟩
  · have hlt : (L.length : Int) ≤ 4096 := by omega
    have ML := Lib.hid (show L.length ≤ 4096 by omega)
    have MT := Lib.hid (readT_size ML.out)
    clear hlen
    go_enter Tryd.func4, Tryd.ntmps4
    go_wp2_with fail
    refine (read_any (l := L) L0.out (by have := ML.out; omega)).mono ?_; rintro e w2 ⟨x2, hmr⟩
    obtain ⟨p, rfl, tt⟩ := hmr.out
    clear hmr
    go_wp2_with fail
    refine (refRead_any (s := L) (L0.out.ext x2) (by have := ML.out; omega)).mono ?_; rintro e w3 ⟨vl, rfl, o3, x3⟩
    have y3 := x2.trans x3
    have tt := tt.ext x3
    clear x3 x2
    generalize numO (readT L) = nn at *
    go_wp2_with fail
    refine (is_yes tt (by have := MT.out; omega) o3).mono ?_; rintro e w4 ⟨rfl, x4⟩
    have y4 := y3.trans x4
    clear x4 y3
    go_wp2_with fail
    refine (alive11_any (L0.out.ext y4)).mono ?_; rintro e w5 ⟨rfl, x5⟩
    go_wp2_with fail
    go_ret
    exact ⟨rfl, y4.trans x5⟩
end Go.Proofs.YtgpegcjgmoiglaaDoor
