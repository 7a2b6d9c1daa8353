/- The walk of joinerylaw11.ShapeBack. -/
import Derived.Test.YtgpegcjgmoiglaaDoorAlive11
import Derived.Test.YtgpegcjgmoiglaaDoorMakeD
import Derived.Test.YtgpegcjgmoiglaaDoorHeight
import Derived.Test.YtgpegcjgmoiglaaDoorShort
import Derived.BigQuiet
namespace Go.Proofs.YtgpegcjgmoiglaaDoor
open Go.RowKit Go.Lib
set_option linter.unusedVariables false

theorem makeS_some {l : List Bead} {t : T} {v : Value} {w : World} (e : makeT l = some t) (hs : Sl Bead.enc w v l) (hm : l.length ≤ 65536) :
    Calls Tryd.prog 20 #[v] w fun e w' => ∃ p, e = .returned (.tuple #[.pointer p, .int .i64 0]) ∧ Ext w w' ∧ Tr w' (.pointer p) t := by
  refine (makeS_any hs hm).mono ?_
  rintro e' w' ⟨x, h⟩
  rw [e] at h
  obtain ⟨p, rfl, ht⟩ := h.some_
  exact ⟨p, rfl, x, ht⟩
theorem makeS_none {l : List Bead} {v : Value} {w : World} (e : makeT l = none) (hs : Sl Bead.enc w v l) (hm : l.length ≤ 65536) :
    Calls Tryd.prog 20 #[v] w fun e w' => e = .returned (.tuple #[.pointer none, .int .i64 7]) ∧ Ext w w' := by
  refine (makeS_any hs hm).mono ?_
  rintro e' w' ⟨x, h⟩
  rw [e] at h
  exact ⟨h.none_, x⟩
theorem read_some {l : List UInt8} {t : T} {w : World} (hl : Laid w) (e : readT l = some t) (hm : l.length ≤ 1048576) :
    Calls Tryd.prog 17 #[.string ⟨l.toArray⟩] w fun e w' => ∃ p, e = .returned (.tuple #[.pointer p, .int .i64 0]) ∧ Ext w w' ∧ Tr w' (.pointer p) t := by
  refine (read_any hl hm).mono ?_
  rintro e' w' ⟨x, h⟩
  rw [e] at h
  obtain ⟨p, rfl, ht⟩ := h.some_
  exact ⟨p, rfl, x, ht⟩
theorem read_none {l : List UInt8} {w : World} (hl : Laid w) (e : readT l = none) (hm : l.length ≤ 1048576) :
    Calls Tryd.prog 17 #[.string ⟨l.toArray⟩] w fun e w' => e = .returned (.tuple #[.pointer none, .int .i64 7]) ∧ Ext w w' := by
  refine (read_any hl hm).mono ?_
  rintro e' w' ⟨x, h⟩
  rw [e] at h
  exact ⟨h.none_, x⟩
def strip (x : Bead) : Int × Int × Int × Bool × Bool := (x.key, x.val, x.tag, x.left, x.right)
theorem ser_strip : ∀ {t : T} {m : List Bead}, Ser m t → m.map strip = (bOf t).map strip
  | .nil, m, h => by rw [show m = [] from h]; rfl
  | .node k x g a b, m, ⟨y, la, lb, hl, h1, h2, h3, h4, h5, sa, sb⟩ => by
    subst hl
    rw [bOf_node, List.map_cons, List.map_cons, List.map_append, List.map_append, ser_strip sa, ser_strip sb]
    congr 1
    simp only [strip, headB, h1, h2, h3, h4, h5]
theorem ser_fields {t : T} {m : List Bead} (h : Ser m t) {i : Nat} {x y : Bead} (hx : (bOf t)[i]? = some x) (hy : m[i]? = some y) : y.key = x.key ∧ y.val = x.val ∧ y.tag = x.tag ∧ y.left = x.left ∧ y.right = x.right := by
  have e := congrArg (fun l => l[i]?) (ser_strip h)
  simp only [List.getElem?_map, hx, hy, Option.map_some, Option.some.injEq, strip, Prod.mk.injEq] at e
  exact e
set_option maxRecDepth 100000 in
set_option maxHeartbeats 16000000 in
theorem shapeBack_walk {l m : List Bead} {v u : Value} {s : ByteArray} {w : World} (hl : Laid w) (sl : Sl Bead.enc w v l) (sm : Sl Bead.enc w u m) (ml : l.length ≤ maxLen) (mm : m.length ≤ maxLen) (wl : ∀ x ∈ l, x.wf) :
    Calls Tryd.prog 6 #[v, u, .string s] w fun e w' => e = .returned (.bool true) ∧ Ext w w' := by
  unfold maxLen at ml mm
  obtain ⟨⟨L⟩⟩ := s
  show Calls Tryd.prog 6 #[v, u, .string ⟨L.toArray⟩] w fun e w' => e = .returned (.bool true) ∧ Ext w w'
  have hl1 := long_any sl (by omega)
  cases hL : (decide (400 < l.length) || !mayL l) with
  | true =>
    rw [hL] at hl1
    go_enter Tryd.func6, Tryd.ntmps6
    go_wp2_with fail
    refine (hl1).mono ?_; rintro e w' ⟨rfl, rfl⟩
    go_wp2_with fail
    refine (alive11_any hl).mono ?_; rintro e w1 ⟨rfl, x1⟩
    go_wp2_with fail
    go_ret
    exact ⟨rfl, x1⟩
  | false =>
    rw [hL] at hl1
    obtain ⟨h4l, tl, htl, hsl, hhl⟩ := short_of hL
    clear hL
    have sm0 := Lib.hid sm
    obtain ⟨B, cb, rfl, hcb, hrb⟩ := sm
    by_cases hm4 : 400 < m.length
    · have hmi : (400 : Int) < (m.length : Int) := by omega
      clear hcb hrb
      go_enter Tryd.func6, Tryd.ntmps6
      go_wp2_with fail
      refine (hl1).mono ?_; rintro e w' ⟨rfl, rfl⟩
      go_wp2_with fail
      refine (alive11_any hl).mono ?_; rintro e w1 ⟨rfl, x1⟩
      go_wp2_with fail
      go_ret
      exact ⟨rfl, x1⟩
    · have hmi : ¬ (400 : Int) < (m.length : Int) := by omega
      by_cases hs4 : 4096 < L.length
      · have hsi : (4096 : Int) < (L.length : Int) := by omega
        clear hcb hrb
        go_enter Tryd.func6, Tryd.ntmps6
        go_wp2_with fail
        refine (hl1).mono ?_; rintro e w' ⟨rfl, rfl⟩
        go_wp2_with fail
        refine (alive11_any hl).mono ?_; rintro e w1 ⟨rfl, x1⟩
        go_wp2_with fail
        go_ret
        exact ⟨rfl, x1⟩
      · have hsi : ¬ (4096 : Int) < (L.length : Int) := by omega
        have RL := Lib.hid (rng_of htl wl)
        have ML := Lib.hid (makeT_of (bOf_ser tl) (by omega))
        have RE := Lib.hid (readT_of (t := tl) (by omega) (by omega) RL.out)
        have LE := Lib.hid (show (lineT tl).length ≤ 1048576 by have := lineT_len RL.out; omega)
        have HM4 := Lib.hid (show m.length ≤ 400 by omega)
        have HS4 := Lib.hid (show L.length ≤ 4096 by omega)
        clear wl hm4 hs4
        cases em : makeT m with
        | none =>
          cases er : readT L with
          | none =>
            have EM := Lib.hid em
            have ER := Lib.hid er
            clear em er
            go_enter Tryd.func6, Tryd.ntmps6
            go_wp2_with fail
            refine (hl1).mono ?_; rintro e w' ⟨rfl, rfl⟩
            go_wp2_with fail
            refine (make_any tl sl htl (by omega) (by omega)).mono ?_; rintro e w1 ⟨ua, rfl, x1, ta⟩
            have hl := hl.ext x1
            have y := x1
            clear x1
            go_wp2_with fail
            refine (list_any ta (by omega)).mono ?_; rintro e w2 ⟨vz, rfl, oz, x2⟩
            have hl := hl.ext x2
            have ta := ta.ext x2
            have y := y.trans x2
            clear x2
            go_wp2_with fail
            refine (makeS_some ML.out oz.beads (by rw [bOf_length]; omega)).mono ?_; rintro e w3 ⟨pu, rfl, x3, tu⟩
            have hl := hl.ext x3
            have ta := ta.ext x3
            have y := y.trans x3
            clear x3
            go_wp2_with fail
            refine (line_any hl ta RL.out (by omega)).mono ?_; rintro e w4 ⟨rfl, x4⟩
            have hl := hl.ext x4
            have ta := ta.ext x4
            have tu := tu.ext x4
            have y := y.trans x4
            clear x4
            go_wp2_with fail
            refine (read_some hl RE.out LE.out).mono ?_; rintro e w5 ⟨pw, rfl, x5, tw⟩
            have hl := hl.ext x5
            have ta := ta.ext x5
            have tu := tu.ext x5
            have y := y.trans x5
            clear x5
            go_wp2_with fail
            refine (same_yes_any ta tu).mono ?_; rintro e w6 ⟨rfl, x6⟩
            have hl := hl.ext x6
            have ta := ta.ext x6
            have tw := tw.ext x6
            have y := y.trans x6
            clear x6
            go_wp2_with fail
            refine (same_yes_any ta tw).mono ?_; rintro e w7 ⟨rfl, x7⟩
            have hl := hl.ext x7
            have y := y.trans x7
            clear x7
            go_wp2_with fail
            refine (makeS_none EM.out (sm0.out.ext y) (by have := HM4.out; omega)).mono ?_; rintro e w8 ⟨rfl, x8⟩
            have hl := hl.ext x8
            have y := y.trans x8
            clear x8
            go_wp2_with fail
            refine (read_none hl ER.out (by have := HS4.out; omega)).mono ?_; rintro e w9 ⟨rfl, x9⟩
            have hl := hl.ext x9
            have y := y.trans x9
            clear x9
            go_wp2_with fail
            refine (alive11_any hl).mono ?_; rintro e w10 ⟨rfl, x10⟩
            have hl := hl.ext x10
            have y := y.trans x10
            clear x10
            go_wp2_with fail
            go_ret
            exact ⟨rfl, y⟩
          | some tyy =>
            have EM := Lib.hid em
            have ER := Lib.hid er
            clear em er
            have RO := Lib.hid (readT_some ER.out)
            have LN := Lib.hid (fun (W : World) (q : Value) (hl : Laid W) (h : Tr W q tyy) => (line_any hl h RO.out.2.2.2 (by have := RO.out; omega)))
            simp only [← RO.out.1] at LN
            go_enter Tryd.func6, Tryd.ntmps6
            go_wp2_with fail
            refine (hl1).mono ?_; rintro e w' ⟨rfl, rfl⟩
            go_wp2_with fail
            refine (make_any tl sl htl (by omega) (by omega)).mono ?_; rintro e w1 ⟨ua, rfl, x1, ta⟩
            have hl := hl.ext x1
            have y := x1
            clear x1
            go_wp2_with fail
            refine (list_any ta (by omega)).mono ?_; rintro e w2 ⟨vz, rfl, oz, x2⟩
            have hl := hl.ext x2
            have ta := ta.ext x2
            have y := y.trans x2
            clear x2
            go_wp2_with fail
            refine (makeS_some ML.out oz.beads (by rw [bOf_length]; omega)).mono ?_; rintro e w3 ⟨pu, rfl, x3, tu⟩
            have hl := hl.ext x3
            have ta := ta.ext x3
            have y := y.trans x3
            clear x3
            go_wp2_with fail
            refine (line_any hl ta RL.out (by omega)).mono ?_; rintro e w4 ⟨rfl, x4⟩
            have hl := hl.ext x4
            have ta := ta.ext x4
            have tu := tu.ext x4
            have y := y.trans x4
            clear x4
            go_wp2_with fail
            refine (read_some hl RE.out LE.out).mono ?_; rintro e w5 ⟨pw, rfl, x5, tw⟩
            have hl := hl.ext x5
            have ta := ta.ext x5
            have tu := tu.ext x5
            have y := y.trans x5
            clear x5
            go_wp2_with fail
            refine (same_yes_any ta tu).mono ?_; rintro e w6 ⟨rfl, x6⟩
            have hl := hl.ext x6
            have ta := ta.ext x6
            have tw := tw.ext x6
            have y := y.trans x6
            clear x6
            go_wp2_with fail
            refine (same_yes_any ta tw).mono ?_; rintro e w7 ⟨rfl, x7⟩
            have hl := hl.ext x7
            have y := y.trans x7
            clear x7
            go_wp2_with fail
            refine (makeS_none EM.out (sm0.out.ext y) (by have := HM4.out; omega)).mono ?_; rintro e w8 ⟨rfl, x8⟩
            have hl := hl.ext x8
            have y := y.trans x8
            clear x8
            go_wp2_with fail
            refine (read_some hl ER.out (by have := HS4.out; omega)).mono ?_; rintro e w9 ⟨py, rfl, x9, ty⟩
            have hl := hl.ext x9
            have y := y.trans x9
            clear x9
            go_wp2_with fail
            have hln := LN.out _ _ hl ty
            refine (hln).mono ?_; rintro e w10 ⟨rfl, x10⟩
            have hl := hl.ext x10
            have ty := ty.ext x10
            have y := y.trans x10
            clear x10
            go_wp2_with fail
            refine (alive11_any hl).mono ?_; rintro e w11 ⟨rfl, x11⟩
            have hl := hl.ext x11
            have ty := ty.ext x11
            have y := y.trans x11
            clear x11
            go_wp2_with fail
            go_ret
            exact ⟨rfl, y⟩
        | some tm =>
          cases er : readT L with
          | none =>
            have EM := Lib.hid em
            have ER := Lib.hid er
            clear em er
            go_enter Tryd.func6, Tryd.ntmps6
            go_wp2_with fail
            refine (hl1).mono ?_; rintro e w' ⟨rfl, rfl⟩
            go_wp2_with fail
            refine (make_any tl sl htl (by omega) (by omega)).mono ?_; rintro e w1 ⟨ua, rfl, x1, ta⟩
            have hl := hl.ext x1
            have y := x1
            clear x1
            go_wp2_with fail
            refine (list_any ta (by omega)).mono ?_; rintro e w2 ⟨vz, rfl, oz, x2⟩
            have hl := hl.ext x2
            have ta := ta.ext x2
            have y := y.trans x2
            clear x2
            go_wp2_with fail
            refine (makeS_some ML.out oz.beads (by rw [bOf_length]; omega)).mono ?_; rintro e w3 ⟨pu, rfl, x3, tu⟩
            have hl := hl.ext x3
            have ta := ta.ext x3
            have y := y.trans x3
            clear x3
            go_wp2_with fail
            refine (line_any hl ta RL.out (by omega)).mono ?_; rintro e w4 ⟨rfl, x4⟩
            have hl := hl.ext x4
            have ta := ta.ext x4
            have tu := tu.ext x4
            have y := y.trans x4
            clear x4
            go_wp2_with fail
            refine (read_some hl RE.out LE.out).mono ?_; rintro e w5 ⟨pw, rfl, x5, tw⟩
            have hl := hl.ext x5
            have ta := ta.ext x5
            have tu := tu.ext x5
            have y := y.trans x5
            clear x5
            go_wp2_with fail
            refine (same_yes_any ta tu).mono ?_; rintro e w6 ⟨rfl, x6⟩
            have hl := hl.ext x6
            have ta := ta.ext x6
            have tw := tw.ext x6
            have y := y.trans x6
            clear x6
            go_wp2_with fail
            refine (same_yes_any ta tw).mono ?_; rintro e w7 ⟨rfl, x7⟩
            have hl := hl.ext x7
            have y := y.trans x7
            clear x7
            go_wp2_with fail
            refine (makeS_some EM.out (sm0.out.ext y) (by have := HM4.out; omega)).mono ?_; rintro e w8 ⟨px, rfl, x8, tx⟩
            have hl := hl.ext x8
            have y := y.trans x8
            clear x8
            go_wp2_with fail
            have SE := Lib.hid (makeT_some EM.out)
            have hsz : tm.size ≤ 400 := by have := SE.out.1.length; have := HM4.out; omega
            refine (list_any tx (by omega)).mono ?_; rintro e w9 ⟨vn, rfl, on, x9⟩
            have hl := hl.ext x9
            have y := y.trans x9
            clear x9
            have hnl : (bOf tm).length = m.length := by rw [bOf_length, SE.out.1.length]
            obtain ⟨A, ca, rfl, hca, hra⟩ := on.beads
            rw [hnl]
            have hra2 := Lib.hid hra
            have hrb2 := Lib.hid hrb
            have HNL := Lib.hid hnl
            have Y0 := Lib.hid y
            have HL0 := Lib.hid hl
            clear hra hrb on hnl y hl
            go_wp2_with fail
            go_loopw [15] (fun i wr => ∃ k : Nat, k ≤ m.length ∧ i = .int .i64 k ∧ Ext w9 wr) (fun i _ => m.length - (RowKit.intOf i).toNat)
            case atStart => exact ⟨0, Nat.zero_le _, rfl, Ext.refl _⟩
            case round =>
              obtain ⟨k, hk, rfl, hx⟩ := hrel
              by_cases hlt : k < m.length
              · obtain ⟨b, off, rfl, hblt, hcells⟩ := hra2.out (by intro h; have := HNL.out; rw [h] at this; simp at this; omega)
                obtain ⟨b', off', rfl, hblt', hcells'⟩ := hrb2.out (by intro h; rw [h] at hlt; simp at hlt)
                have hxk : (bOf tm)[k]? = some ((bOf tm)[k]'(by rw [HNL.out]; exact hlt)) := List.getElem?_eq_getElem _
                have hyk : m[k]? = some m[k] := List.getElem?_eq_getElem hlt
                generalize (bOf tm)[k]'(by rw [HNL.out]; exact hlt) = x at hxk
                generalize m[k] = z at hyk
                obtain ⟨c0, c1, c2, c3, c4, c5, c6⟩ := bead_cells (hcells.ext hx hblt) hxk
                obtain ⟨d0, d1, d2, d3, d4, d5, d6⟩ := bead_cells (hcells'.ext (Y0.out.trans hx) hblt') hyk
                obtain ⟨f1, f2, f3, f4, f5⟩ := ser_fields SE.out.1 hxk hyk
                rw [f1] at d0
                rw [f2] at d1
                rw [f3] at d4
                rw [f4] at d5
                rw [f5] at d6
                have HX := Lib.hid hx
                have hlt2 : (k : Int) < (m.length : Int) := by omega
                clear hxk hyk hcells hcells' c2 c3 d2 d3 f1 f2 f3 f4 f5 hx
                go_wp2_with fail
                go_quiet (fail)
                go_wp2_with fail
                exact ⟨⟨k + 1, by omega, by go_num, HX.out.drewN nq⟩, by simp [RowKit.intOf]; omega⟩
              · have hge : ¬ (k : Int) < (m.length : Int) := by omega
                have hl := HL0.out.ext hx
                have y := Y0.out.trans hx
                clear hx
                go_wp2_with fail
                refine (read_none hl ER.out (by have := HS4.out; omega)).mono ?_; rintro e w10 ⟨rfl, x10⟩
                have hl := hl.ext x10
                have y := y.trans x10
                clear x10
                go_wp2_with fail
                refine (alive11_any hl).mono ?_; rintro e w11 ⟨rfl, x11⟩
                have hl := hl.ext x11
                have y := y.trans x11
                clear x11
                go_wp2_with fail
                go_ret
                exact ⟨rfl, y⟩
          | some tyy =>
            have EM := Lib.hid em
            have ER := Lib.hid er
            clear em er
            have RO := Lib.hid (readT_some ER.out)
            have LN := Lib.hid (fun (W : World) (q : Value) (hl : Laid W) (h : Tr W q tyy) => (line_any hl h RO.out.2.2.2 (by have := RO.out; omega)))
            simp only [← RO.out.1] at LN
            go_enter Tryd.func6, Tryd.ntmps6
            go_wp2_with fail
            refine (hl1).mono ?_; rintro e w' ⟨rfl, rfl⟩
            go_wp2_with fail
            refine (make_any tl sl htl (by omega) (by omega)).mono ?_; rintro e w1 ⟨ua, rfl, x1, ta⟩
            have hl := hl.ext x1
            have y := x1
            clear x1
            go_wp2_with fail
            refine (list_any ta (by omega)).mono ?_; rintro e w2 ⟨vz, rfl, oz, x2⟩
            have hl := hl.ext x2
            have ta := ta.ext x2
            have y := y.trans x2
            clear x2
            go_wp2_with fail
            refine (makeS_some ML.out oz.beads (by rw [bOf_length]; omega)).mono ?_; rintro e w3 ⟨pu, rfl, x3, tu⟩
            have hl := hl.ext x3
            have ta := ta.ext x3
            have y := y.trans x3
            clear x3
            go_wp2_with fail
            refine (line_any hl ta RL.out (by omega)).mono ?_; rintro e w4 ⟨rfl, x4⟩
            have hl := hl.ext x4
            have ta := ta.ext x4
            have tu := tu.ext x4
            have y := y.trans x4
            clear x4
            go_wp2_with fail
            refine (read_some hl RE.out LE.out).mono ?_; rintro e w5 ⟨pw, rfl, x5, tw⟩
            have hl := hl.ext x5
            have ta := ta.ext x5
            have tu := tu.ext x5
            have y := y.trans x5
            clear x5
            go_wp2_with fail
            refine (same_yes_any ta tu).mono ?_; rintro e w6 ⟨rfl, x6⟩
            have hl := hl.ext x6
            have ta := ta.ext x6
            have tw := tw.ext x6
            have y := y.trans x6
            clear x6
            go_wp2_with fail
            refine (same_yes_any ta tw).mono ?_; rintro e w7 ⟨rfl, x7⟩
            have hl := hl.ext x7
            have y := y.trans x7
            clear x7
            go_wp2_with fail
            refine (makeS_some EM.out (sm0.out.ext y) (by have := HM4.out; omega)).mono ?_; rintro e w8 ⟨px, rfl, x8, tx⟩
            have hl := hl.ext x8
            have y := y.trans x8
            clear x8
            go_wp2_with fail
            have SE := Lib.hid (makeT_some EM.out)
            have hsz : tm.size ≤ 400 := by have := SE.out.1.length; have := HM4.out; omega
            refine (list_any tx (by omega)).mono ?_; rintro e w9 ⟨vn, rfl, on, x9⟩
            have hl := hl.ext x9
            have y := y.trans x9
            clear x9
            have hnl : (bOf tm).length = m.length := by rw [bOf_length, SE.out.1.length]
            obtain ⟨A, ca, rfl, hca, hra⟩ := on.beads
            rw [hnl]
            have hra2 := Lib.hid hra
            have hrb2 := Lib.hid hrb
            have HNL := Lib.hid hnl
            have Y0 := Lib.hid y
            have HL0 := Lib.hid hl
            clear hra hrb on hnl y hl
            go_wp2_with fail
            go_loopw [15] (fun i wr => ∃ k : Nat, k ≤ m.length ∧ i = .int .i64 k ∧ Ext w9 wr) (fun i _ => m.length - (RowKit.intOf i).toNat)
            case atStart => exact ⟨0, Nat.zero_le _, rfl, Ext.refl _⟩
            case round =>
              obtain ⟨k, hk, rfl, hx⟩ := hrel
              by_cases hlt : k < m.length
              · obtain ⟨b, off, rfl, hblt, hcells⟩ := hra2.out (by intro h; have := HNL.out; rw [h] at this; simp at this; omega)
                obtain ⟨b', off', rfl, hblt', hcells'⟩ := hrb2.out (by intro h; rw [h] at hlt; simp at hlt)
                have hxk : (bOf tm)[k]? = some ((bOf tm)[k]'(by rw [HNL.out]; exact hlt)) := List.getElem?_eq_getElem _
                have hyk : m[k]? = some m[k] := List.getElem?_eq_getElem hlt
                generalize (bOf tm)[k]'(by rw [HNL.out]; exact hlt) = x at hxk
                generalize m[k] = z at hyk
                obtain ⟨c0, c1, c2, c3, c4, c5, c6⟩ := bead_cells (hcells.ext hx hblt) hxk
                obtain ⟨d0, d1, d2, d3, d4, d5, d6⟩ := bead_cells (hcells'.ext (Y0.out.trans hx) hblt') hyk
                obtain ⟨f1, f2, f3, f4, f5⟩ := ser_fields SE.out.1 hxk hyk
                rw [f1] at d0
                rw [f2] at d1
                rw [f3] at d4
                rw [f4] at d5
                rw [f5] at d6
                have HX := Lib.hid hx
                have hlt2 : (k : Int) < (m.length : Int) := by omega
                clear hxk hyk hcells hcells' c2 c3 d2 d3 f1 f2 f3 f4 f5 hx
                go_wp2_with fail
                go_quiet (fail)
                go_wp2_with fail
                exact ⟨⟨k + 1, by omega, by go_num, HX.out.drewN nq⟩, by simp [RowKit.intOf]; omega⟩
              · have hge : ¬ (k : Int) < (m.length : Int) := by omega
                have hl := HL0.out.ext hx
                have y := Y0.out.trans hx
                clear hx
                go_wp2_with fail
                refine (read_some hl ER.out (by have := HS4.out; omega)).mono ?_; rintro e w10 ⟨py, rfl, x10, ty⟩
                have hl := hl.ext x10
                have y := y.trans x10
                clear x10
                go_wp2_with fail
                have hln := LN.out _ _ hl ty
                refine (hln).mono ?_; rintro e w11 ⟨rfl, x11⟩
                have hl := hl.ext x11
                have ty := ty.ext x11
                have y := y.trans x11
                clear x11
                go_wp2_with fail
                refine (alive11_any hl).mono ?_; rintro e w12 ⟨rfl, x12⟩
                have hl := hl.ext x12
                have ty := ty.ext x12
                have y := y.trans x12
                clear x12
                go_wp2_with fail
                go_ret
                exact ⟨rfl, y⟩
end Go.Proofs.YtgpegcjgmoiglaaDoor
