/- The walk of joinerylaw11.ShapeMakes. -/
import Derived.Test.YtgpegcjgmoiglaaDoorAlive11
import Derived.Test.YtgpegcjgmoiglaaDoorMakeD
import Derived.Test.YtgpegcjgmoiglaaDoorHeight
import Derived.Test.YtgpegcjgmoiglaaDoorShort
namespace Go.Proofs.YtgpegcjgmoiglaaDoor
open Go.RowKit
set_option linter.unusedVariables false

theorem MadeR.out {o : Option T} {e : Ending} {w : World} (h : MadeR o e w) : ∃ p, e = .returned (.tuple #[.pointer p, .int .i64 (numO o)]) ∧ Tr w (.pointer p) (o.getD .nil) := by
  obtain ⟨p, n, rfl, rfl, ht⟩ := h
  exact ⟨p, rfl, ht⟩
theorem is_yes {t : T} {v vl : Value} {w : World} {e base : Nat} (h : Tr w v t) (hs : t.size ≤ 2000) (hl : Own Bead.enc e 7 base w vl (bOf t)) :
    Calls Tryd.prog 19 #[v, vl] w fun e w' => e = .returned (.bool true) ∧ Ext w w' := by
  have his := is_any h hs (hl.sl Bead.enc_len (by omega)) (by rw [bOf_length]; omega)
  rwa [decide_eq_true rfl] at his
theorem makeT_size (l : List Bead) : ((makeT l).getD .nil).size ≤ l.length := by
  cases e : makeT l with
  | none => exact Nat.zero_le _
  | some t => rw [(makeT_some e).1.length]; exact Nat.le_refl _
set_option maxRecDepth 100000 in
set_option maxHeartbeats 4000000 in
theorem shapeMakes_walk {l : List Bead} {v : Value} {w : World} (hl : Laid w) (sl : Sl Bead.enc w v l) (ml : l.length ≤ maxLen) :
    Calls Tryd.prog 5 #[v] w fun e w' => e = .returned (.bool true) ∧ Ext w w' := by
  unfold maxLen at ml
  have L0 := Lib.hid (And.intro hl sl)
  clear hl
  obtain ⟨A, c, rfl, hc, hr⟩ := sl
  by_cases hlen : 400 < l.length
  · have hlt : (400 : Int) < (l.length : Int) := by omega
    clear hc hr
    go_enter Tryd.func5, Tryd.ntmps5
    go_wp2_with fail
    refine (alive11_any L0.out.1).mono ?_; rintro e w1 ⟨rfl, x1⟩
    go_wp2_with fail
    go_ret
    exact ⟨rfl, x1⟩
  · have hlt : (l.length : Int) ≤ 400 := by omega
    have ML := Lib.hid (show l.length ≤ 400 by omega)
    have MT := Lib.hid (makeT_size l)
    have HO := Lib.hid (Own.nil_ (enc := Bead.enc) (sz := 7) w 44 w.heap.size)
    have H1 : Hid (([] : List Bead).length + l.length ≤ maxLen) := Lib.hid (by simp only [maxLen, List.length_nil]; omega)
    have H2 : Hid ((([] : List Bead).length + l.length) * 48 ≤ 140737488355328) := Lib.hid (by simp only [List.length_nil]; omega)
    clear hc hr hlen
    go_enter Tryd.func5, Tryd.ntmps5
    go_wp2_with (at_builtin; refine wpList_app beadE rfl (.const (.slice none 0 0)) (.tmp 12) rfl rfl rfl HO.out L0.out.2 H1.out H2.out (Nat.le_refl _) ?_; intro v1 w1 o1 a1; have x1 : Ext w w1 := AppTo.ext a1 (Ext.refl w) HO.out)
    rw [List.nil_append] at o1
    refine (makeS_any o1.beads (by have := ML.out; omega)).mono ?_; rintro e w2 ⟨x2, hmr⟩
    obtain ⟨p, rfl, tt⟩ := hmr.out
    have y2 := x1.trans x2
    clear hmr x2 x1 a1 o1
    go_wp2_with fail
    refine (refMake_any (L0.out.2.ext y2) (by have := ML.out; omega)).mono ?_; rintro e w3 ⟨vl, rfl, o3, x3⟩
    have y3 := y2.trans x3
    have tt := tt.ext x3
    clear x3 y2
    generalize numO (makeT l) = nn at *
    go_wp2_with fail
    refine (is_yes tt (by have := MT.out; have := ML.out; omega) o3).mono ?_; rintro e w4 ⟨rfl, x4⟩
    have y4 := y3.trans x4
    clear x4 y3
    go_wp2_with fail
    refine (alive11_any (L0.out.1.ext y4)).mono ?_; rintro e w5 ⟨rfl, x5⟩
    go_wp2_with fail
    go_ret
    exact ⟨rfl, y4.trans x5⟩
end Go.Proofs.YtgpegcjgmoiglaaDoor
