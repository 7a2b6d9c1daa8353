/- The walks of the laws of joinerylaw09: NodeStays, NodeWith, NodeAdds. -/
import Derived.Test.YtlehcagpddgamaaWalk09
namespace Go.Proofs.Ytlehcagpddgamaa
open Go.RowKit

/-- A tree is that of its beads. -/
theorem is_yes {t : T} {v vl : Value} {w : World} {e base : Nat} (h : Tr w v t) (hs : t.size ≤ 2000) (hl : Own Bead.enc e 7 base w vl (bOf t)) :
    Calls Try.prog 32 #[v, vl] w fun e w' => e = .returned (.bool true) ∧ Ext w w' := by
  have his := is_any h hs (hl.sl Bead.enc_len (by omega)) (by rw [bOf_length]; omega)
  rwa [decide_eq_true rfl] at his
theorem Own.beads {w : World} {v : Value} {l : List Bead} {e base : Nat} (h : Own Bead.enc e 7 base w v l) : Sl Bead.enc w v l := h.sl Bead.enc_len (by omega)
theorem bOf_ser (t : T) : Ser (bOf t) t := ofT_ser _ t
/-- Beads of a tree made of two. -/
theorem nodeB_of {a b : T} {va vb : Value} {e base base' : Nat} (k x g : Int) {w : World} (oa : Own Bead.enc e 7 base w va (bOf a)) (ob : Own Bead.enc e 7 base' w vb (bOf b)) (hha : a.size ≤ 5000) (hhb : b.size ≤ 5000) :
    Calls Try.prog 39 #[va, .int .i64 k, .int .i64 x, .int .u64 g, vb] w (Gives (fun v' w' => Own Bead.enc 138 7 w.heap.size w' v' (bOf (.node k x g a b))) w) := by
  have := a.height_le_size
  have := b.height_le_size
  exact nodeB_any k x g oa.beads (bOf_ser a) ob.beads (bOf_ser b) (by omega) (by omega) (by rw [bOf_length]; omega) (by rw [bOf_length]; omega)
theorem At.ptr {w : World} {b : Nat} {k x g : Int} {l r : T} {vl vr : Value} (h : At w b k x g l r vl vr) : b < w.heap.size := Blk.lt h

set_option maxRecDepth 100000 in
set_option maxHeartbeats 4000000 in
theorem nodeStays_walk {l r : List Bead} {v u : Value} (key val tag k x : Int) {w : World} (sl : Sl Bead.enc w v l) (sr : Sl Bead.enc w u r) (ml : l.length ≤ maxLen) (mr : r.length ≤ maxLen) :
    Calls Try.prog 4 #[v, u, .int .i64 key, .int .i64 val, .int .u64 tag, .int .i64 k, .int .i64 x] w fun e w' => e = .returned (.bool true) ∧ Ext w w' := by
  unfold maxLen at ml mr
  have hl1 := long_any sl (by omega)
  cases hL : (decide (400 < l.length) || !mayL l) with
  | true =>
    rw [hL] at hl1
    go_enter Try.func4, Try.ntmps4
    go_wp2_with fail
    refine (hl1).mono ?_; rintro e w' ⟨rfl, rfl⟩
    go_wp2_with fail
    refine (alive09 _).mono ?_; rintro e w1 ⟨rfl, x1⟩
    go_wp2_with fail
    go_ret
    exact ⟨rfl, x1⟩
  | false =>
    have hl2 := long_any sr (by omega)
    rw [hL] at hl1
    obtain ⟨h4l, tl, htl, hsl, hhl⟩ := short_of hL
    clear hL
    cases hR : (decide (400 < r.length) || !mayL r) with
    | true =>
      rw [hR] at hl2
      go_enter Try.func4, Try.ntmps4
      go_wp2_with fail
      refine (hl1).mono ?_; rintro e w' ⟨rfl, rfl⟩
      go_wp2_with fail
      refine (hl2).mono ?_; rintro e w' ⟨rfl, rfl⟩
      go_wp2_with fail
      refine (alive09 _).mono ?_; rintro e w1 ⟨rfl, x1⟩
      go_wp2_with fail
      go_ret
      exact ⟨rfl, x1⟩
    | false =>
      rw [hR] at hl2
      obtain ⟨h4r, tr, htr, hsr, hhr⟩ := short_of hR
      clear hR
      go_enter Try.func4, Try.ntmps4
      go_wp2_with fail
      refine (hl1).mono ?_; rintro e w' ⟨rfl, rfl⟩
      go_wp2_with fail
      refine (hl2).mono ?_; rintro e w' ⟨rfl, rfl⟩
      go_wp2_with fail
      refine (make_any tl sl htl (by omega) (by omega)).mono ?_; rintro e w1 ⟨ua, rfl, x1, ta⟩
      have sl := sl.ext x1
      have sr := sr.ext x1
      have y := x1
      clear x1
      go_wp2_with fail
      refine (make_any tr sr htr (by omega) (by omega)).mono ?_; rintro e w2 ⟨ub, rfl, x2, tb⟩
      have ta := ta.ext x2
      have sl := sl.ext x2
      have sr := sr.ext x2
      have y := y.trans x2
      clear x2
      obtain ⟨pa, rfl⟩ := ta.ptr
      obtain ⟨pb, rfl⟩ := tb.ptr
      have na := eq_self pa
      have nb := eq_self pb
      have na' := ne_self pa
      have nb' := ne_self pb
      have hst : (T.node key val tag tl tr).size ≤ 801 := by simp only [T.size]; omega
      go_wp2_with fail
      refine (new_any key val tag ta tb).mono ?_; rintro e w3 ⟨uu, rfl, x3, bt, rfl, hbt, att⟩
      have tt := att.tr (ta.ext x3) (tb.ext x3)
      clear hbt
      have ta := ta.ext x3
      have sl := sl.ext x3
      have sr := sr.ext x3
      have tb := tb.ext x3
      have y := y.trans x3
      clear x3
      go_wp2_with fail
      refine (new_any k x tag tt tt).mono ?_; rintro e w4 ⟨uu, rfl, x4, bu, rfl, hbu, atu⟩
      have tu := atu.tr (tt.ext x4) (tt.ext x4)
      clear hbu
      have ta := ta.ext x4
      have sl := sl.ext x4
      have sr := sr.ext x4
      have tb := tb.ext x4
      have att := att.ext x4
      have tt := tt.ext x4
      have y := y.trans x4
      clear x4
      go_wp2_with fail
      refine (with_at k x att ta tb).mono ?_; rintro e w5 ⟨uu, rfl, x5, bw, rfl, hbw, atw⟩
      have tw := atw.tr (ta.ext x5) (tb.ext x5)
      clear hbw
      have ta := ta.ext x5
      have sl := sl.ext x5
      have sr := sr.ext x5
      have tb := tb.ext x5
      have att := att.ext x5
      have tt := tt.ext x5
      have atu := atu.ext x5
      have tu := tu.ext x5
      have y := y.trans x5
      clear x5
      have hsu : (T.node k x tag (.node key val tag tl tr) (.node key val tag tl tr)).size ≤ 1603 := by simp only [T.size] at hst ⊢; omega
      have hsw : (T.node k x tag tl tr).size ≤ 801 := by simp only [T.size]; omega
      have nt := ne_self (some ⟨bt, 0, none⟩)
      go_wp2_with fail
      refine (left_at att).mono ?_; rintro e w' ⟨rfl, rfl⟩
      go_wp2_with fail
      refine (right_at att).mono ?_; rintro e w' ⟨rfl, rfl⟩
      go_wp2_with fail
      refine (left_at atu).mono ?_; rintro e w' ⟨rfl, rfl⟩
      go_wp2_with fail
      refine (right_at atu).mono ?_; rintro e w' ⟨rfl, rfl⟩
      go_wp2_with fail
      refine (left_at atw).mono ?_; rintro e w' ⟨rfl, rfl⟩
      go_wp2_with fail
      refine (right_at atw).mono ?_; rintro e w' ⟨rfl, rfl⟩
      go_wp2_with fail
      refine (of_beads tl sl htl (by omega) (by omega)).mono ?_; rintro e w6 ⟨vx, rfl, x6, ox⟩
      have ta := ta.ext x6
      have sl := sl.ext x6
      have sr := sr.ext x6
      have tb := tb.ext x6
      have att := att.ext x6
      have tt := tt.ext x6
      have atu := atu.ext x6
      have tu := tu.ext x6
      have atw := atw.ext x6
      have tw := tw.ext x6
      have y := y.trans x6
      clear x6
      go_wp2_with fail
      refine (of_beads tr sr htr (by omega) (by omega)).mono ?_; rintro e w7 ⟨vy, rfl, x7, oy⟩
      have ta := ta.ext x7
      have sl := sl.ext x7
      have sr := sr.ext x7
      have tb := tb.ext x7
      have att := att.ext x7
      have tt := tt.ext x7
      have atu := atu.ext x7
      have tu := tu.ext x7
      have atw := atw.ext x7
      have tw := tw.ext x7
      have ox := ox.ext x7
      have y := y.trans x7
      clear x7
      go_wp2_with fail
      refine (nodeB_of key val tag ox oy (by omega) (by omega)).mono ?_; rintro e w8 ⟨vz, rfl, x8, oz⟩
      have ta := ta.ext x8
      have sl := sl.ext x8
      have sr := sr.ext x8
      have tb := tb.ext x8
      have att := att.ext x8
      have tt := tt.ext x8
      have atu := atu.ext x8
      have tu := tu.ext x8
      have atw := atw.ext x8
      have tw := tw.ext x8
      have ox := ox.ext x8
      have oy := oy.ext x8
      have y := y.trans x8
      clear x8
      go_wp2_with fail
      refine (is_yes ta (by omega) ox).mono ?_; rintro e w9 ⟨rfl, x9⟩
      have ta := ta.ext x9
      have sl := sl.ext x9
      have sr := sr.ext x9
      have tb := tb.ext x9
      have att := att.ext x9
      have tt := tt.ext x9
      have atu := atu.ext x9
      have tu := tu.ext x9
      have atw := atw.ext x9
      have tw := tw.ext x9
      have ox := ox.ext x9
      have oy := oy.ext x9
      have oz := oz.ext x9
      have y := y.trans x9
      clear x9
      go_wp2_with fail
      refine (is_yes tb (by omega) oy).mono ?_; rintro e w10 ⟨rfl, x10⟩
      have ta := ta.ext x10
      have sl := sl.ext x10
      have sr := sr.ext x10
      have tb := tb.ext x10
      have att := att.ext x10
      have tt := tt.ext x10
      have atu := atu.ext x10
      have tu := tu.ext x10
      have atw := atw.ext x10
      have tw := tw.ext x10
      have ox := ox.ext x10
      have oy := oy.ext x10
      have oz := oz.ext x10
      have y := y.trans x10
      clear x10
      go_wp2_with fail
      refine (is_yes tt (by omega) oz).mono ?_; rintro e w11 ⟨rfl, x11⟩
      have ta := ta.ext x11
      have sl := sl.ext x11
      have sr := sr.ext x11
      have tb := tb.ext x11
      have att := att.ext x11
      have tt := tt.ext x11
      have atu := atu.ext x11
      have tu := tu.ext x11
      have atw := atw.ext x11
      have tw := tw.ext x11
      have ox := ox.ext x11
      have oy := oy.ext x11
      have oz := oz.ext x11
      have y := y.trans x11
      clear x11
      go_wp2_with fail
      refine (nodeB_of k x tag ox oy (by omega) (by omega)).mono ?_; rintro e w12 ⟨vq, rfl, x12, oq⟩
      have ta := ta.ext x12
      have sl := sl.ext x12
      have sr := sr.ext x12
      have tb := tb.ext x12
      have att := att.ext x12
      have tt := tt.ext x12
      have atu := atu.ext x12
      have tu := tu.ext x12
      have atw := atw.ext x12
      have tw := tw.ext x12
      have ox := ox.ext x12
      have oy := oy.ext x12
      have oz := oz.ext x12
      have y := y.trans x12
      clear x12
      go_wp2_with fail
      refine (is_yes tw (by omega) oq).mono ?_; rintro e w13 ⟨rfl, x13⟩
      have ta := ta.ext x13
      have sl := sl.ext x13
      have sr := sr.ext x13
      have tb := tb.ext x13
      have att := att.ext x13
      have tt := tt.ext x13
      have atu := atu.ext x13
      have tu := tu.ext x13
      have atw := atw.ext x13
      have tw := tw.ext x13
      have ox := ox.ext x13
      have oy := oy.ext x13
      have oz := oz.ext x13
      have oq := oq.ext x13
      have y := y.trans x13
      clear x13
      go_wp2_with fail
      refine (nodeB_of k x tag oz oz (by omega) (by omega)).mono ?_; rintro e w14 ⟨vr', rfl, x14, or'⟩
      have ta := ta.ext x14
      have sl := sl.ext x14
      have sr := sr.ext x14
      have tb := tb.ext x14
      have att := att.ext x14
      have tt := tt.ext x14
      have atu := atu.ext x14
      have tu := tu.ext x14
      have atw := atw.ext x14
      have tw := tw.ext x14
      have ox := ox.ext x14
      have oy := oy.ext x14
      have oz := oz.ext x14
      have oq := oq.ext x14
      have y := y.trans x14
      clear x14
      go_wp2_with fail
      refine (is_yes tu (by omega) or').mono ?_; rintro e w15 ⟨rfl, x15⟩
      have ta := ta.ext x15
      have sl := sl.ext x15
      have sr := sr.ext x15
      have tb := tb.ext x15
      have att := att.ext x15
      have tt := tt.ext x15
      have atu := atu.ext x15
      have tu := tu.ext x15
      have atw := atw.ext x15
      have tw := tw.ext x15
      have ox := ox.ext x15
      have oy := oy.ext x15
      have oz := oz.ext x15
      have oq := oq.ext x15
      have or' := or'.ext x15
      have y := y.trans x15
      clear x15
      go_wp2_with fail
      refine (alive09 _).mono ?_; rintro e w16 ⟨rfl, x16⟩
      have ta := ta.ext x16
      have sl := sl.ext x16
      have sr := sr.ext x16
      have tb := tb.ext x16
      have att := att.ext x16
      have tt := tt.ext x16
      have atu := atu.ext x16
      have tu := tu.ext x16
      have atw := atw.ext x16
      have tw := tw.ext x16
      have ox := ox.ext x16
      have oy := oy.ext x16
      have oz := oz.ext x16
      have oq := oq.ext x16
      have or' := or'.ext x16
      have y := y.trans x16
      clear x16
      go_wp2_with fail
      go_ret
      exact ⟨rfl, y⟩
/-- Two nodes that are not one. -/
theorem ne_other {w : World} {a b : Nat} {k x g k' x' g' : Int} {l r l' r' : T} {vl vr vl' vr' : Value} (hne : a ≠ b) (ha : At w a k x g l r vl vr) (hb : At w b k' x' g' l' r' vl' vr') :
    (binOp .neq 26 (.pointer (some ⟨a, 0, none⟩)) (.pointer (some ⟨b, 0, none⟩))).run Try.prog w = .ok (.bool true) w := by
  obtain ⟨j, hj, hsz⟩ := info_node
  have h : ∀ d : Nat, (Op.equalIn (d + 1) 26 (.pointer (some ⟨a, 0, none⟩)) (.pointer (some ⟨b, 0, none⟩))).run Try.prog w = .ok false w := fun d => by
    simp [Op.equalIn, run_underlying Try.underlying26, sizeOf, typeInfo, hj, hsz, run_sameAddr_other w (a := ⟨a, 0, none⟩) (b := ⟨b, 0, none⟩) (fun e => hne (by injection e)) ha hb]
  simp only [binOp]
  simp [Op.equal, Op.maxDepth, h 9999]

set_option maxRecDepth 100000 in
set_option maxHeartbeats 4000000 in
theorem nodeWith_walk {l r : List Bead} {v u : Value} (key val tag k x : Int) {w : World} (sl : Sl Bead.enc w v l) (sr : Sl Bead.enc w u r) (ml : l.length ≤ maxLen) (mr : r.length ≤ maxLen) :
    Calls Try.prog 6 #[v, u, .int .i64 key, .int .i64 val, .int .u64 tag, .int .i64 k, .int .i64 x] w fun e w' => e = .returned (.bool true) ∧ Ext w w' := by
  unfold maxLen at ml mr
  have hl1 := long_any sl (by omega)
  cases hL : (decide (400 < l.length) || !mayL l) with
  | true =>
    rw [hL] at hl1
    go_enter Try.func6, Try.ntmps6
    go_wp2_with fail
    refine (hl1).mono ?_; rintro e w' ⟨rfl, rfl⟩
    go_wp2_with fail
    refine (alive09 _).mono ?_; rintro e w1 ⟨rfl, x1⟩
    go_wp2_with fail
    go_ret
    exact ⟨rfl, x1⟩
  | false =>
    have hl2 := long_any sr (by omega)
    rw [hL] at hl1
    obtain ⟨h4l, tl, htl, hsl, hhl⟩ := short_of hL
    clear hL
    cases hR : (decide (400 < r.length) || !mayL r) with
    | true =>
      rw [hR] at hl2
      go_enter Try.func6, Try.ntmps6
      go_wp2_with fail
      refine (hl1).mono ?_; rintro e w' ⟨rfl, rfl⟩
      go_wp2_with fail
      refine (hl2).mono ?_; rintro e w' ⟨rfl, rfl⟩
      go_wp2_with fail
      refine (alive09 _).mono ?_; rintro e w1 ⟨rfl, x1⟩
      go_wp2_with fail
      go_ret
      exact ⟨rfl, x1⟩
    | false =>
      rw [hR] at hl2
      obtain ⟨h4r, tr, htr, hsr, hhr⟩ := short_of hR
      clear hR
      go_enter Try.func6, Try.ntmps6
      go_wp2_with fail
      refine (hl1).mono ?_; rintro e w' ⟨rfl, rfl⟩
      go_wp2_with fail
      refine (hl2).mono ?_; rintro e w' ⟨rfl, rfl⟩
      go_wp2_with fail
      refine (make_any tl sl htl (by omega) (by omega)).mono ?_; rintro e w1 ⟨ua, rfl, x1, ta⟩
      have sl := sl.ext x1
      have sr := sr.ext x1
      have y := x1
      clear x1
      go_wp2_with fail
      refine (make_any tr sr htr (by omega) (by omega)).mono ?_; rintro e w2 ⟨ub, rfl, x2, tb⟩
      have ta := ta.ext x2
      have sl := sl.ext x2
      have sr := sr.ext x2
      have y := y.trans x2
      clear x2
      obtain ⟨pa, rfl⟩ := ta.ptr
      obtain ⟨pb, rfl⟩ := tb.ptr
      have na := eq_self pa
      have nb := eq_self pb
      have na' := ne_self pa
      have nb' := ne_self pb
      have hst : (T.node key val tag tl tr).size ≤ 801 := by simp only [T.size]; omega
      go_wp2_with fail
      refine (new_any key val tag ta tb).mono ?_; rintro e w3 ⟨uu, rfl, x3, bt, rfl, hbt, att⟩
      have tt := att.tr (ta.ext x3) (tb.ext x3)
      clear hbt
      have ta := ta.ext x3
      have sl := sl.ext x3
      have sr := sr.ext x3
      have tb := tb.ext x3
      have y := y.trans x3
      clear x3
      go_wp2_with fail
      refine (with_at k x att ta tb).mono ?_; rintro e w4 ⟨uu, rfl, x4, bu, rfl, hbu, atu⟩
      have tu := atu.tr (ta.ext x4) (tb.ext x4)
      have hne : bu ≠ bt := by have := Blk.lt att; omega
      clear hbu
      have ta := ta.ext x4
      have sl := sl.ext x4
      have sr := sr.ext x4
      have tb := tb.ext x4
      have att := att.ext x4
      have tt := tt.ext x4
      have y := y.trans x4
      clear x4
      go_wp2_with fail
      refine (with_at key val atu ta tb).mono ?_; rintro e w5 ⟨uu, rfl, x5, bw, rfl, hbw, atw⟩
      have tw := atw.tr (ta.ext x5) (tb.ext x5)
      clear hbw
      have ta := ta.ext x5
      have sl := sl.ext x5
      have sr := sr.ext x5
      have tb := tb.ext x5
      have att := att.ext x5
      have tt := tt.ext x5
      have atu := atu.ext x5
      have tu := tu.ext x5
      have y := y.trans x5
      clear x5
      have hsu : (T.node k x tag tl tr).size ≤ 801 := by simp only [T.size]; omega
      go_wp2_with fail
      refine (of_beads tl sl htl (by omega) (by omega)).mono ?_; rintro e w6 ⟨vx, rfl, x6, ox⟩
      have ta := ta.ext x6
      have sl := sl.ext x6
      have sr := sr.ext x6
      have tb := tb.ext x6
      have att := att.ext x6
      have tt := tt.ext x6
      have atu := atu.ext x6
      have tu := tu.ext x6
      have atw := atw.ext x6
      have tw := tw.ext x6
      have y := y.trans x6
      clear x6
      go_wp2_with fail
      refine (of_beads tr sr htr (by omega) (by omega)).mono ?_; rintro e w7 ⟨vy, rfl, x7, oy⟩
      have ta := ta.ext x7
      have sl := sl.ext x7
      have sr := sr.ext x7
      have tb := tb.ext x7
      have att := att.ext x7
      have tt := tt.ext x7
      have atu := atu.ext x7
      have tu := tu.ext x7
      have atw := atw.ext x7
      have tw := tw.ext x7
      have ox := ox.ext x7
      have y := y.trans x7
      clear x7
      go_wp2_with fail
      refine (nodeB_of key val tag ox oy (by omega) (by omega)).mono ?_; rintro e w8 ⟨vz, rfl, x8, oz⟩
      have ta := ta.ext x8
      have sl := sl.ext x8
      have sr := sr.ext x8
      have tb := tb.ext x8
      have att := att.ext x8
      have tt := tt.ext x8
      have atu := atu.ext x8
      have tu := tu.ext x8
      have atw := atw.ext x8
      have tw := tw.ext x8
      have ox := ox.ext x8
      have oy := oy.ext x8
      have y := y.trans x8
      clear x8
      have hnn := ne_other hne atu att
      go_wp2_with fail
      refine (left_at atu).mono ?_; rintro e w' ⟨rfl, rfl⟩
      go_wp2_with fail
      refine (right_at atw).mono ?_; rintro e w' ⟨rfl, rfl⟩
      go_wp2_with fail
      refine (is_yes tt (by omega) oz).mono ?_; rintro e w9 ⟨rfl, x9⟩
      have ta := ta.ext x9
      have sl := sl.ext x9
      have sr := sr.ext x9
      have tb := tb.ext x9
      have att := att.ext x9
      have tt := tt.ext x9
      have atu := atu.ext x9
      have tu := tu.ext x9
      have atw := atw.ext x9
      have tw := tw.ext x9
      have ox := ox.ext x9
      have oy := oy.ext x9
      have oz := oz.ext x9
      have y := y.trans x9
      clear x9
      go_wp2_with fail
      refine (is_yes tw (by omega) oz).mono ?_; rintro e w10 ⟨rfl, x10⟩
      have ta := ta.ext x10
      have sl := sl.ext x10
      have sr := sr.ext x10
      have tb := tb.ext x10
      have att := att.ext x10
      have tt := tt.ext x10
      have atu := atu.ext x10
      have tu := tu.ext x10
      have atw := atw.ext x10
      have tw := tw.ext x10
      have ox := ox.ext x10
      have oy := oy.ext x10
      have oz := oz.ext x10
      have y := y.trans x10
      clear x10
      go_wp2_with fail
      refine (of_beads tl sl htl (by omega) (by omega)).mono ?_; rintro e w11 ⟨vx', rfl, x11, ox'⟩
      have ta := ta.ext x11
      have sl := sl.ext x11
      have sr := sr.ext x11
      have tb := tb.ext x11
      have att := att.ext x11
      have tt := tt.ext x11
      have atu := atu.ext x11
      have tu := tu.ext x11
      have atw := atw.ext x11
      have tw := tw.ext x11
      have ox := ox.ext x11
      have oy := oy.ext x11
      have oz := oz.ext x11
      have y := y.trans x11
      clear x11
      go_wp2_with fail
      refine (of_beads tr sr htr (by omega) (by omega)).mono ?_; rintro e w12 ⟨vy', rfl, x12, oy'⟩
      have ta := ta.ext x12
      have sl := sl.ext x12
      have sr := sr.ext x12
      have tb := tb.ext x12
      have att := att.ext x12
      have tt := tt.ext x12
      have atu := atu.ext x12
      have tu := tu.ext x12
      have atw := atw.ext x12
      have tw := tw.ext x12
      have ox := ox.ext x12
      have oy := oy.ext x12
      have oz := oz.ext x12
      have ox' := ox'.ext x12
      have y := y.trans x12
      clear x12
      go_wp2_with fail
      refine (nodeB_of k x tag ox' oy' (by omega) (by omega)).mono ?_; rintro e w13 ⟨vq, rfl, x13, oq⟩
      have ta := ta.ext x13
      have sl := sl.ext x13
      have sr := sr.ext x13
      have tb := tb.ext x13
      have att := att.ext x13
      have tt := tt.ext x13
      have atu := atu.ext x13
      have tu := tu.ext x13
      have atw := atw.ext x13
      have tw := tw.ext x13
      have ox := ox.ext x13
      have oy := oy.ext x13
      have oz := oz.ext x13
      have ox' := ox'.ext x13
      have oy' := oy'.ext x13
      have y := y.trans x13
      clear x13
      go_wp2_with fail
      refine (is_yes tu (by omega) oq).mono ?_; rintro e w14 ⟨rfl, x14⟩
      have ta := ta.ext x14
      have sl := sl.ext x14
      have sr := sr.ext x14
      have tb := tb.ext x14
      have att := att.ext x14
      have tt := tt.ext x14
      have atu := atu.ext x14
      have tu := tu.ext x14
      have atw := atw.ext x14
      have tw := tw.ext x14
      have ox := ox.ext x14
      have oy := oy.ext x14
      have oz := oz.ext x14
      have ox' := ox'.ext x14
      have oy' := oy'.ext x14
      have oq := oq.ext x14
      have y := y.trans x14
      clear x14
      go_wp2_with fail
      refine (alive09 _).mono ?_; rintro e w15 ⟨rfl, x15⟩
      have ta := ta.ext x15
      have sl := sl.ext x15
      have sr := sr.ext x15
      have tb := tb.ext x15
      have att := att.ext x15
      have tt := tt.ext x15
      have atu := atu.ext x15
      have tu := tu.ext x15
      have atw := atw.ext x15
      have tw := tw.ext x15
      have ox := ox.ext x15
      have oy := oy.ext x15
      have oz := oz.ext x15
      have ox' := ox'.ext x15
      have oy' := oy'.ext x15
      have oq := oq.ext x15
      have y := y.trans x15
      clear x15
      go_wp2_with fail
      go_ret
      exact ⟨rfl, y⟩

theorem wrap_two (n : Nat) : wrap64 (2 * wrap64 (n : Int)) = wrap64 (2 * (n : Int)) := by unfold wrap64; omega
theorem wrap_size (n : Nat) : wrap64 (wrap64 (2 * wrap64 (n : Int)) + 1) = wrap64 ((n + 1 + n : Nat) : Int) := by unfold wrap64; omega
theorem wrap_sum (s v : Int) : wrap64 (wrap64 (wrap64 s + wrap64 s) + v) = wrap64 (s + v + s) := by unfold wrap64; omega

set_option maxRecDepth 100000 in
set_option maxHeartbeats 4000000 in
theorem nodeAdds_walk {l : List Bead} {v : Value} (key val times : Int) {w : World} (sl : Sl Bead.enc w v l) (ml : l.length ≤ maxLen) (wt : (Lit.int .u8 times).wf = true) :
    Calls Try.prog 5 #[v, .int .i64 key, .int .i64 val, .int .u8 times] w fun e w' => e = .returned (.bool true) ∧ Ext w w' := by
  unfold maxLen at ml
  have hl1 := long_any sl (by omega)
  have hb : 0 ≤ times ∧ times ≤ 255 := by simp [Lit.wf] at wt; exact wt
  obtain ⟨hb0, hb1⟩ := hb
  cases hL : (decide (400 < l.length) || !mayL l) with
  | true =>
    rw [hL] at hl1
    go_enter Try.func5, Try.ntmps5
    go_wp2_with fail
    refine (hl1).mono ?_; rintro e w' ⟨rfl, rfl⟩
    go_wp2_with fail
    refine (alive09 _).mono ?_; rintro e w1 ⟨rfl, x1⟩
    go_wp2_with fail
    go_ret
    exact ⟨rfl, x1⟩
  | false =>
    rw [hL] at hl1
    obtain ⟨h4l, tl, htl, hsl, hhl⟩ := short_of hL
    clear hL
    go_enter Try.func5, Try.ntmps5
    go_wp2_with fail
    refine (hl1).mono ?_; rintro e w' ⟨rfl, rfl⟩
    go_wp2_with fail
    refine (make_any tl sl htl (by omega) (by omega)).mono ?_; rintro e w1 ⟨ua, rfl, x1, ta⟩
    go_wp2_with fail
    clear hl1 htl hsl hhl h4l
    have hm0 : 0 ≤ times % 40 := by omega
    have hm1 : times % 40 < 40 := by omega
    go_loopw [9, 10] (fun tv i wr => ∃ (j : Nat) (t : T), (j : Int) ≤ times % 40 ∧ i = .int .i64 j ∧ Tr wr tv t ∧ Ext w wr) (fun _ i _ => 40 - (intOf i).toNat)
    case atStart => exact ⟨0, tl, hm0, rfl, ta, x1⟩
    case round =>
      obtain ⟨j, t, hj, rfl, tt, xr⟩ := hrel
      obtain ⟨pt, rfl⟩ := tt.ptr
      by_cases hlt : (j : Int) < times % 40
      · have ns := ne_self pt
        go_wp2_with fail
        refine (new_any key val 0 tt tt).mono ?_; rintro e w2 ⟨uu, rfl, x2, bu, rfl, hbu, atu⟩
        have tt := tt.ext x2
        have tu := atu.tr tt tt
        have z1 : (wrap64 ((T.size (.node key val 0 t t) : Nat) : Int) != wrap64 (wrap64 (2 * wrap64 (t.size : Int)) + 1)) = false := by
          rw [wrap_size]; simp [T.size]
        have z2 : (wrap64 (T.sum (.node key val 0 t t)) != wrap64 (wrap64 (wrap64 t.sum + wrap64 t.sum) + val)) = false := by
          rw [wrap_sum]; simp [T.sum]
        go_wp2_with fail
        refine (size_any tu).mono ?_; rintro e w3 ⟨rfl, x3⟩
        go_wp2_with fail
        refine (size_any (tt.ext x3)).mono ?_; rintro e w4 ⟨rfl, x4⟩
        go_wp2_with fail
        refine (sum_any (tu.ext (x3.trans x4))).mono ?_; rintro e w5 ⟨rfl, x5⟩
        go_wp2_with fail
        refine (sum_any (tt.ext ((x3.trans x4).trans x5))).mono ?_; rintro e w6 ⟨rfl, x6⟩
        go_wp2_with fail
        refine (sum_any (tt.ext (((x3.trans x4).trans x5).trans x6))).mono ?_; rintro e w7 ⟨rfl, x7⟩
        go_wp2_with fail
        have y := (((x3.trans x4).trans x5).trans x6).trans x7
        refine (left_at (atu.ext y)).mono ?_; rintro e w' ⟨rfl, rfl⟩
        go_wp2_with fail
        refine (right_at (atu.ext y)).mono ?_; rintro e w' ⟨rfl, rfl⟩
        go_wp2_with fail
        exact ⟨⟨j + 1, _, by omega, by go_num, tu.ext y, xr.trans (x2.trans y)⟩, by simp [intOf]; omega⟩
      · have hge : times % 40 ≤ (j : Int) := by omega
        go_wp2_with fail
        refine (alive09 _).mono ?_; rintro e w2 ⟨rfl, x2⟩
        go_wp2_with fail
        go_ret
        exact ⟨rfl, xr.trans x2⟩
end Go.Proofs.Ytlehcagpddgamaa
