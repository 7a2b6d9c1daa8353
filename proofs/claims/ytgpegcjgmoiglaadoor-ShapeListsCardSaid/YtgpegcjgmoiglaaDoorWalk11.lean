/- The walk of joinerylaw11.ShapeLists. -/
import Derived.Test.YtgpegcjgmoiglaaDoorAlive11
import Derived.Test.YtgpegcjgmoiglaaDoorRefLine
import Derived.Test.YtgpegcjgmoiglaaDoorShort
namespace Go.Proofs.YtgpegcjgmoiglaaDoor
open Go.RowKit
set_option linter.unusedVariables false

theorem same_yesB {l : List Bead} {va vb : Value} {w : World} (ha : Sl Bead.enc w va l) (hb : Sl Bead.enc w vb l) (hm : l.length ≤ 9223372036854775807) :
    Calls Tryd.prog 12 #[va, vb] w fun e w' => e = .returned (.bool true) ∧ Ext w w' := by
  have := same_any ha hb hm hm
  rw [decide_eq_true rfl] at this
  exact this
theorem same_bOf_any {t u : T} {va vb : Value} {w : World} (ha : Sl Bead.enc w va (bOf t)) (hb : Sl Bead.enc w vb (bOf u)) (h1 : t.size ≤ 2000) (h2 : u.size ≤ 2000) :
    Calls Tryd.prog 12 #[va, vb] w fun e w' => e = .returned (.bool (decide (t = u))) ∧ Ext w w' := by
  have := same_any ha hb (by rw [bOf_length]; omega) (by rw [bOf_length]; omega)
  rw [same_bOf] at this
  exact this
set_option maxRecDepth 100000 in
set_option maxHeartbeats 4000000 in
theorem shapeLists_walk {l m : List Bead} {v u : Value} {w : World} (hl : Laid w) (sl : Sl Bead.enc w v l) (sm : Sl Bead.enc w u m) (ml : l.length ≤ maxLen) (mm : m.length ≤ maxLen) (wl : ∀ x ∈ l, x.wf) (wm : ∀ x ∈ m, x.wf) :
    Calls Tryd.prog 3 #[v, u] w fun e w' => e = .returned (.bool true) ∧ Ext w w' := by
  unfold maxLen at ml mm
  have hl1 := long_any sl (by omega)
  cases hL : (decide (400 < l.length) || !mayL l) with
  | true =>
    rw [hL] at hl1
    go_enter Tryd.func3, Tryd.ntmps3
    go_wp2_with fail
    refine (hl1).mono ?_; rintro e w' ⟨rfl, rfl⟩
    go_wp2_with fail
    refine (alive11_any hl).mono ?_; rintro e w1 ⟨rfl, x1⟩
    go_wp2_with fail
    go_ret
    exact ⟨rfl, x1⟩
  | false =>
    have hl2 := long_any sm (by omega)
    rw [hL] at hl1
    obtain ⟨h4l, tl, htl, hsl, hhl⟩ := short_of hL
    clear hL
    cases hR : (decide (400 < m.length) || !mayL m) with
    | true =>
      rw [hR] at hl2
      go_enter Tryd.func3, Tryd.ntmps3
      go_wp2_with fail
      refine (hl1).mono ?_; rintro e w' ⟨rfl, rfl⟩
      go_wp2_with fail
      refine (hl2).mono ?_; rintro e w' ⟨rfl, rfl⟩
      go_wp2_with fail
      refine (alive11_any hl).mono ?_; rintro e w1 ⟨rfl, x1⟩
      go_wp2_with fail
      go_ret
      exact ⟨rfl, x1⟩
    | false =>
      rw [hR] at hl2
      obtain ⟨h4m, tm, htm, hsm, hhm⟩ := short_of hR
      clear hR
      have RL := Lib.hid (rng_of htl wl)
      clear wl wm
      go_enter Tryd.func3, Tryd.ntmps3
      go_wp2_with fail
      refine (hl1).mono ?_; rintro e w' ⟨rfl, rfl⟩
      go_wp2_with fail
      refine (hl2).mono ?_; rintro e w' ⟨rfl, rfl⟩
      go_wp2_with fail
      refine (make_any tl sl htl (by omega) (by omega)).mono ?_; rintro e w1 ⟨ua, rfl, x1, ta⟩
      have hl := hl.ext x1
      have sl := sl.ext x1
      have sm := sm.ext x1
      have y := x1
      clear x1
      go_wp2_with fail
      refine (make_any tm sm htm (by omega) (by omega)).mono ?_; rintro e w2 ⟨ub, rfl, x2, tb⟩
      have hl := hl.ext x2
      have sl := sl.ext x2
      have sm := sm.ext x2
      have ta := ta.ext x2
      have y := y.trans x2
      clear x2
      go_wp2_with fail
      refine (of_beads tl sl htl (by omega) (by omega)).mono ?_; rintro e w3 ⟨vx, rfl, x3, ox⟩
      have hl := hl.ext x3
      have sl := sl.ext x3
      have sm := sm.ext x3
      have ta := ta.ext x3
      have tb := tb.ext x3
      have y := y.trans x3
      clear x3
      go_wp2_with fail
      refine (of_beads tm sm htm (by omega) (by omega)).mono ?_; rintro e w4 ⟨vy, rfl, x4, oy⟩
      have hl := hl.ext x4
      have sl := sl.ext x4
      have sm := sm.ext x4
      have ta := ta.ext x4
      have tb := tb.ext x4
      have ox := ox.ext x4
      have y := y.trans x4
      clear x4
      go_wp2_with fail
      refine (list_any ta (by omega)).mono ?_; rintro e w5 ⟨vz, rfl, oz, x5⟩
      have hl := hl.ext x5
      have sl := sl.ext x5
      have sm := sm.ext x5
      have ta := ta.ext x5
      have tb := tb.ext x5
      have ox := ox.ext x5
      have oy := oy.ext x5
      have y := y.trans x5
      clear x5
      go_wp2_with fail
      refine (same_yesB oz.beads ox.beads (by rw [bOf_length]; omega)).mono ?_; rintro e w6 ⟨rfl, x6⟩
      have hl := hl.ext x6
      have sl := sl.ext x6
      have sm := sm.ext x6
      have ta := ta.ext x6
      have tb := tb.ext x6
      have ox := ox.ext x6
      have oy := oy.ext x6
      have oz := oz.ext x6
      have y := y.trans x6
      clear x6
      go_wp2_with fail
      refine (line_any hl ta RL.out (by omega)).mono ?_; rintro e w7 ⟨rfl, x7⟩
      have hl := hl.ext x7
      have sl := sl.ext x7
      have sm := sm.ext x7
      have ta := ta.ext x7
      have tb := tb.ext x7
      have ox := ox.ext x7
      have oy := oy.ext x7
      have oz := oz.ext x7
      have y := y.trans x7
      clear x7
      go_wp2_with fail
      refine (refLine_any tl hl sl htl (by omega) (by omega) RL.out).mono ?_; rintro e w8 ⟨rfl, x8⟩
      have hl := hl.ext x8
      have sl := sl.ext x8
      have sm := sm.ext x8
      have ta := ta.ext x8
      have tb := tb.ext x8
      have ox := ox.ext x8
      have oy := oy.ext x8
      have oz := oz.ext x8
      have y := y.trans x8
      clear x8
      go_wp2_with fail
      refine (sameT_any tl tm ta tb).mono ?_; rintro e w9 ⟨rfl, x9⟩
      have hl := hl.ext x9
      have sl := sl.ext x9
      have sm := sm.ext x9
      have ta := ta.ext x9
      have tb := tb.ext x9
      have ox := ox.ext x9
      have oy := oy.ext x9
      have oz := oz.ext x9
      have y := y.trans x9
      clear x9
      go_wp2_with fail
      refine (same_bOf_any ox.beads oy.beads (by omega) (by omega)).mono ?_; rintro e w10 ⟨rfl, x10⟩
      have hl := hl.ext x10
      have sl := sl.ext x10
      have sm := sm.ext x10
      have ta := ta.ext x10
      have tb := tb.ext x10
      have ox := ox.ext x10
      have oy := oy.ext x10
      have oz := oz.ext x10
      have y := y.trans x10
      clear x10
      go_wp2_with fail
      refine (make_any tl sl htl (by omega) (by omega)).mono ?_; rintro e w11 ⟨uc, rfl, x11, tc⟩
      have hl := hl.ext x11
      have sl := sl.ext x11
      have sm := sm.ext x11
      have ta := ta.ext x11
      have tb := tb.ext x11
      have ox := ox.ext x11
      have oy := oy.ext x11
      have oz := oz.ext x11
      have y := y.trans x11
      clear x11
      go_wp2_with fail
      refine (same_yes_any ta tc).mono ?_; rintro e w12 ⟨rfl, x12⟩
      have hl := hl.ext x12
      have sl := sl.ext x12
      have sm := sm.ext x12
      have ta := ta.ext x12
      have tb := tb.ext x12
      have ox := ox.ext x12
      have oy := oy.ext x12
      have oz := oz.ext x12
      have tc := tc.ext x12
      have y := y.trans x12
      clear x12
      go_wp2_with fail
      refine (alive11_any hl).mono ?_; rintro e w13 ⟨rfl, x13⟩
      have hl := hl.ext x13
      have sl := sl.ext x13
      have sm := sm.ext x13
      have ta := ta.ext x13
      have tb := tb.ext x13
      have ox := ox.ext x13
      have oy := oy.ext x13
      have oz := oz.ext x13
      have tc := tc.ext x13
      have y := y.trans x13
      clear x13
      go_wp2_with fail
      go_ret
      exact ⟨rfl, y⟩
end Go.Proofs.YtgpegcjgmoiglaaDoor
