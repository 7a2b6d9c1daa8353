/- The statements of joinerylaw20: alive, and the four walks. -/
import Derived.Test.YtlehcagpddgamaaTreapG
import Derived.Test.YtlehcagpddgamaaTreapH
import Derived.Test.YtlehcagpddgamaaWalk09
namespace Go.Proofs.Ytlehcagpddgamaa
open Go.RowKit

theorem long_is {l : List Bead} {v : Value} {w : World} {b : Bool} (h : Sl Bead.enc w v l) (hm : l.length ≤ maxLen) (hb : (decide (400 < l.length) || !mayL l) = b) :
    Calls Try.prog 30 #[v] w fun e w' => e = .returned (.bool b) ∧ w = w' := by
  subst hb; exact long_any h (by simpa [maxLen] using hm)
theorem sameI_is {la : List Item} {va vb : Value} {w : World} (ha : Sl Item.enc w va la) (hb : Sl Item.enc w vb la) (hm : la.length ≤ 9223372036854775807) :
    Calls Try.prog 84 #[va, vb] w fun e w' => e = .returned (.bool true) ∧ Ext w w' := by
  have := sameI_any ha hb hm hm
  rwa [decide_eq_true rfl] at this
def t20 : T := .node 2 0 9 (.node 1 0 5 .nil .nil) (.node 3 0 5 .nil .nil)
theorem t20_of : ofI [⟨1, 0, 5⟩, ⟨2, 0, 9⟩, ⟨3, 0, 5⟩] = t20 := by decide
theorem t20_may : mayT t20 = true := by decide
theorem t20_items : t20.items = [⟨1, 0, 5⟩, ⟨2, 0, 9⟩, ⟨3, 0, 5⟩] := by decide
theorem t20_mixed : mixedT t20 = false := by decide
theorem t20_check : ((checkT (.node 4 0 8 t20 .nil)).1 : Int) = 0 ∧ errT (.node 4 0 8 t20 .nil) = 8 := by decide

set_option maxRecDepth 100000 in
set_option maxHeartbeats 4000000 in
theorem alive20 (w : World) : Calls Try.prog 79 #[] w fun e w' => e = .returned (.bool true) ∧ Ext w w' := by
  have hsl : Sl Item.enc (w.alloc (.cells #[.int .i64 1, .int .i64 0, .int .u64 5, .int .i64 2, .int .i64 0, .int .u64 9, .int .i64 3, .int .i64 0, .int .u64 5] 70)) (.slice (some ⟨w.heap.size, 0, none⟩) 3 3) [⟨1, 0, 5⟩, ⟨2, 0, 9⟩, ⟨3, 0, 5⟩] :=
    (Own.lit Item.enc_len w [⟨1, 0, 5⟩, ⟨2, 0, 9⟩, ⟨3, 0, 5⟩] #[.int .i64 1, .int .i64 0, .int .u64 5, .int .i64 2, .int .i64 0, .int .u64 9, .int .i64 3, .int .i64 0, .int .u64 5] rfl (Nat.le_refl _) (by decide)).sl Item.enc_len (by omega)
  have x0 := (Ext.refl w).alloc (.cells #[.int .i64 1, .int .i64 0, .int .u64 5, .int .i64 2, .int .i64 0, .int .u64 9, .int .i64 3, .int .i64 0, .int .u64 5] 70)
  have hof := treapOf_any hsl (by decide)
  rw [t20_of] at hof
  go_enter Try.func79, Try.ntmps79
  go_wp2_with fail
  generalize w.alloc (.cells #[.int .i64 1, .int .i64 0, .int .u64 5, .int .i64 2, .int .i64 0, .int .u64 9, .int .i64 3, .int .i64 0, .int .u64 5] 70) = wA at *
  generalize w.heap.size = hB at *
  refine (hof).mono ?_; rintro e w0 ⟨v0, rfl, xa, t0⟩
  have sl0 := hsl.ext xa
  have yw := x0.trans xa
  obtain ⟨p0, rfl⟩ := t0.ptr
  clear hof hsl x0 xa
  have y := Ext.refl w0
  have T0 := fun (W : World) (X : Ext w0 W) => t0.ext X
  have L0 := fun (W : World) (X : Ext w0 W) => sl0.ext X
  have ky := fun (W : World) (X : Ext w0 W) => key_any (t0.ext X)
  have lf := fun (W : World) (X : Ext w0 W) => left_any (t0.ext X)
  have rt := fun (W : World) (X : Ext w0 W) => right_any (t0.ext X)
  have my := fun (W : World) (X : Ext w0 W) => mayN_any (t0.ext X) (by decide)
  have it := fun (W : World) (X : Ext w0 W) => itemsN_any t20 (t0.ext X) (by decide)
  have mx := fun (W : World) (X : Ext w0 W) => mixedN_any t20 (t0.ext X)
  have mn := fun (W : World) => mixedN_any .nil (w := W) (v := .pointer none) rfl
  have on := fun (W : World) => treapOf_any (Sl.nil_ (enc := Item.enc) W) (Nat.zero_le _)
  have a1 := fun (W : World) (X : Ext w0 W) => aboveN_any (t0.ext X) (show Tr W (.pointer none) .nil from rfl)
  have a2 := fun (W : World) => aboveN_any (show Tr W (.pointer none) .nil from rfl) (show Tr W (.pointer none) .nil from rfl)
  rw [t20_may] at my
  simp only [t20_items] at it
  simp only [t20_mixed] at mx
  simp only [ofI_nil] at on
  simp only [t20, T.key, overT, T.some, Bool.false_and, Bool.and_false, mixedT] at ky lf rt a1 a2 mn
  have C0 := Lib.hid T0
  have S0 := Lib.hid L0
  clear t0 sl0 T0 L0
  go_wp2_with fail
  refine (new_any 4 0 8 (C0.out _ y) (show Tr _ (.pointer none) .nil from rfl)).mono ?_; rintro e wb ⟨vb, rfl, xb, bn, rfl, hbn, hat⟩
  have tb : Tr wb (.pointer (some ⟨bn, 0, none⟩)) (.node 4 0 8 t20 .nil) := ⟨bn, _, _, rfl, hat, (C0.out _ y).ext xb, rfl⟩
  have y := Ext.trans y xb
  have hck := checkN_any tb (by decide)
  rw [t20_check.1, t20_check.2] at hck
  clear xb hat tb
  go_wp2_with fail
  refine (hck).mono ?_; rintro e w1 ⟨rfl, x1⟩
  have y := Ext.trans y x1
  clear x1
  go_wp2_with fail
  refine (ky _ y).mono ?_; rintro e w2 ⟨rfl, x2⟩
  have y := Ext.trans y x2
  clear x2
  go_wp2_with fail
  refine (lf _ y).mono ?_; rintro e w' ⟨v1, rfl, rfl, t1⟩
  obtain ⟨p1, rfl⟩ := t1.ptr
  have hk := key_any t1
  simp only [T.key] at hk
  clear t1
  go_wp2_with fail
  refine (hk).mono ?_; rintro e w3 ⟨rfl, x3⟩
  have y := Ext.trans y x3
  clear x3
  go_wp2_with fail
  refine (rt _ y).mono ?_; rintro e w' ⟨v2, rfl, rfl, t2⟩
  obtain ⟨p2, rfl⟩ := t2.ptr
  have hk := key_any t2
  simp only [T.key] at hk
  clear t2
  go_wp2_with fail
  refine (hk).mono ?_; rintro e w4 ⟨rfl, x4⟩
  have y := Ext.trans y x4
  clear x4
  go_wp2_with fail
  refine (my _ y).mono ?_; rintro e w5 ⟨rfl, x5⟩
  have y := Ext.trans y x5
  clear x5
  go_wp2_with fail
  refine (it _ y).mono ?_; rintro e wc ⟨vc, rfl, xc, oc⟩
  have y := Ext.trans y xc
  have hsm := sameI_is (oc.sl Item.enc_len (by omega)) (S0.out _ y) (by decide)
  clear xc oc
  go_wp2_with fail
  refine (hsm).mono ?_; rintro e w6 ⟨rfl, x6⟩
  have y := Ext.trans y x6
  clear x6
  go_wp2_with fail
  refine (mx _ y).mono ?_; rintro e w7 ⟨rfl, x7⟩
  have y := Ext.trans y x7
  clear x7
  go_wp2_with fail
  refine (mn _).mono ?_; rintro e w8 ⟨rfl, x8⟩
  have y := Ext.trans y x8
  clear x8
  go_wp2_with fail
  refine (on _).mono ?_; rintro e wd ⟨vd, rfl, xd, td⟩
  obtain rfl : vd = .pointer none := td
  have y := Ext.trans y xd
  clear xd
  go_wp2_with fail
  refine (a1 _ y).mono ?_; rintro e w9 ⟨rfl, x9⟩
  have y := Ext.trans y x9
  clear x9
  go_wp2_with fail
  refine (a2 _).mono ?_; rintro e w10 ⟨rfl, x10⟩
  have y := Ext.trans y x10
  clear x10
  go_wp2_with fail
  go_ret
  exact ⟨rfl, yw.trans y⟩

set_option maxRecDepth 100000 in
set_option maxHeartbeats 4000000 in
theorem treapTells_walk {l : List Bead} {v : Value} {w : World} (h : Sl Bead.enc w v l) (hm : l.length ≤ maxLen) :
    Calls Try.prog 16 #[v] w fun e w' => e = .returned (.bool true) ∧ Ext w w' := by
  have y := Ext.refl w
  cases hL : (decide (400 < l.length) || !mayL l) with
  | true =>
    go_enter Try.func16, Try.ntmps16
    go_wp2_with fail
    refine (long_is h hm hL).mono ?_; rintro e w' ⟨rfl, rfl⟩
    go_wp2_with fail
    refine (alive20 _).mono ?_; rintro e w1 ⟨rfl, x1⟩
    have y := Ext.trans y x1
    clear x1
    go_wp2_with fail
    go_ret
    exact ⟨rfl, y⟩
  | false =>
    obtain ⟨h400, t, ht, hts, hth⟩ := short_of hL
    have lg := long_is h hm hL
    have il := t.items_length
    have S0 := fun (W : World) (X : Ext w W) => h.ext X
    have rc := fun (W : World) (X : Ext w W) => refCheck_any t (h.ext X) ht (by omega) (by omega)
    have rm := fun (W : World) (X : Ext w W) => refMay_any (h.ext X) ht (by omega) (by omega)
    have ri := fun (W : World) (X : Ext w W) => refItems_any t (h.ext X) ht (by omega) (by omega)
    have rx := fun (W : World) (X : Ext w W) => refMixed_any (h.ext X) (by omega)
    have nc := fun (W : World) (v : Value) (X : Tr W v t) => checkN_any X (by omega)
    have nm := fun (W : World) (v : Value) (X : Tr W v t) => mayN_any X (by omega)
    have ni := fun (W : World) (v : Value) (X : Tr W v t) => itemsN_any t X (by omega)
    have nx := fun (W : World) (v : Value) (X : Tr W v t) => mixedN_any t X
    have mk := fun (W : World) (X : Ext w W) => make_any t (h.ext X) ht (by omega) (by omega)
    simp only [mixedL_ser ht] at rx
    generalize ((checkT t).1 : Int) = cn at *
    generalize errT t = er at *
    generalize mayT t = my at *
    generalize mixedT t = mx at *
    clear hL ht hth h S0
    go_enter Try.func16, Try.ntmps16
    go_wp2_with fail
    refine (lg).mono ?_; rintro e w' ⟨rfl, rfl⟩
    go_wp2_with fail
    refine (mk _ y).mono ?_; rintro e w1 ⟨u1, rfl, x1, t1⟩
    have y := Ext.trans y x1
    clear x1
    have T1 := fun (W : World) (X : Ext w1 W) => t1.ext X
    have z := Ext.refl w1
    have HY := Lib.hid y
    have C1 := Lib.hid T1
    clear t1 T1 y
    obtain ⟨p1, rfl⟩ := (C1.out _ z).ptr
    go_wp2_with fail
    refine (nc _ _ (C1.out _ z)).mono ?_; rintro e wx1 ⟨rfl, x1⟩
    have z := Ext.trans z x1
    clear x1
    go_wp2_with fail
    refine (rc _ (HY.out.trans z)).mono ?_; rintro e wx2 ⟨rfl, x2⟩
    have z := Ext.trans z x2
    clear x2
    go_wp2_with fail
    refine (nm _ _ (C1.out _ z)).mono ?_; rintro e wx3 ⟨rfl, x3⟩
    have z := Ext.trans z x3
    clear x3
    go_wp2_with fail
    refine (rm _ (HY.out.trans z)).mono ?_; rintro e wx4 ⟨rfl, x4⟩
    have z := Ext.trans z x4
    clear x4
    go_wp2_with fail
    refine (ni _ _ (C1.out _ z)).mono ?_; rintro e wa ⟨va, rfl, xa, oa⟩
    have z := Ext.trans z xa
    clear xa
    go_wp2_with fail
    refine (ri _ (HY.out.trans z)).mono ?_; rintro e wb ⟨vb, rfl, xb, ob⟩
    have oa2 := oa.ext xb
    have z := Ext.trans z xb
    clear xb oa
    have hs := sameI_is (oa2.sl Item.enc_len (by omega)) (ob.sl Item.enc_len (by omega)) (by omega)
    clear oa2 ob
    go_wp2_with fail
    refine (hs).mono ?_; rintro e wx5 ⟨rfl, x5⟩
    have z := Ext.trans z x5
    clear x5
    go_wp2_with fail
    refine (nx _ _ (C1.out _ z)).mono ?_; rintro e wx6 ⟨rfl, x6⟩
    have z := Ext.trans z x6
    clear x6
    go_wp2_with fail
    refine (rx _ (HY.out.trans z)).mono ?_; rintro e wx7 ⟨rfl, x7⟩
    have z := Ext.trans z x7
    clear x7
    go_wp2_with fail
    refine (alive20 _).mono ?_; rintro e wx8 ⟨rfl, x8⟩
    have z := Ext.trans z x8
    clear x8
    go_wp2_with fail
    go_ret
    exact ⟨rfl, HY.out.trans z⟩

set_option maxRecDepth 100000 in
set_option maxHeartbeats 4000000 in
theorem treapMakes_walk {l : List Item} {v : Value} {w : World} (h : Sl Item.enc w v l) (hm : l.length ≤ maxLen) :
    Calls Try.prog 18 #[v] w fun e w' => e = .returned (.bool true) ∧ Ext w w' := by
  have y := Ext.refl w
  have h' := h
  obtain ⟨A, c, rfl, hc, hr⟩ := h
  simp only [maxLen] at hm
  by_cases hL : 200 < l.length
  · have H1 : decide ((200 : Int) < (l.length : Int)) = true := by simp; omega
    clear hr h'
    go_enter Try.func18, Try.ntmps18
    go_wp2_with fail
    refine (alive20 _).mono ?_; rintro e w1 ⟨rfl, x1⟩
    have y := Ext.trans y x1
    clear x1
    go_wp2_with fail
    go_ret
    exact ⟨rfl, y⟩
  · have H1 : decide ((200 : Int) < (l.length : Int)) = false := by simp; omega
    have hm1 := Lib.hid (show ([] : List Item).length + l.length ≤ maxLen by simp [maxLen]; omega)
    have hm2 := Lib.hid (show (([] : List Item).length + l.length) * 24 ≤ 140737488355328 by simp; omega)
    have ho := Own.nil_ (enc := Item.enc) (sz := 3) w 70 w.heap.size
    have zs := ofI_size l
    have rf := fun (W : World) (X : Ext w W) => refOfI_any l.length rfl (h'.ext X) (by omega)
    have S0 := Lib.hid (fun (W : World) (X : Ext w W) => h'.ext X)
    clear hr
    go_enter Try.func18, Try.ntmps18
    go_wp2_with (at_builtin; go_must (refine wpList_app itemE rfl (.const (.slice none 0 0)) (.tmp 8) rfl rfl rfl ho h' hm1.out hm2.out (Nat.le_refl _) ?_); intro v5 w5 o5 a5)
    have y := AppTo.ext a5 y ho
    have o6 : Own Item.enc 70 3 w.heap.size w5 v5 l := o5
    refine (treapOf_any (o6.sl Item.enc_len (by omega)) (by omega)).mono ?_; rintro e w1 ⟨u1, rfl, x1, t1⟩
    have y := Ext.trans y x1
    have T1 := fun (W : World) (X : Ext w1 W) => t1.ext X
    have z := Ext.refl w1
    have HY := Lib.hid y
    have C1 := Lib.hid T1
    clear t1 T1 y x1 o5 o6 a5 h' ho
    obtain ⟨p1, rfl⟩ := (C1.out _ z).ptr
    go_wp2_with fail
    refine (rf _ (HY.out.trans z)).mono ?_; rintro e wb ⟨vb, rfl, xb, ob⟩
    have z := Ext.trans z xb
    clear xb
    have his := is_any (C1.out _ z) (by omega) (ob.sl Bead.enc_len (by omega)) (by rw [bOf_length]; omega)
    rw [decide_eq_true rfl] at his
    clear ob
    go_wp2_with fail
    refine (his).mono ?_; rintro e wx1 ⟨rfl, x1⟩
    have z := Ext.trans z x1
    clear x1
    go_wp2_with fail
    have hmy := mayN_any (C1.out _ z) (by omega)
    rw [ofI_may] at hmy
    refine (hmy).mono ?_; rintro e wx2 ⟨rfl, x2⟩
    have z := Ext.trans z x2
    clear x2
    go_wp2_with fail
    refine (itemsN_any _ (C1.out _ z) (by omega)).mono ?_; rintro e wc ⟨vc, rfl, xc, oc⟩
    have z := Ext.trans z xc
    clear xc hmy his
    rw [ofI_items] at oc
    have hs := sameI_is (oc.sl Item.enc_len (by omega)) (S0.out _ (HY.out.trans z)) (by omega)
    clear oc
    go_wp2_with fail
    refine (hs).mono ?_; rintro e wx3 ⟨rfl, x3⟩
    have z := Ext.trans z x3
    clear x3
    go_wp2_with fail
    refine (alive20 _).mono ?_; rintro e wx4 ⟨rfl, x4⟩
    have z := Ext.trans z x4
    clear x4
    go_wp2_with fail
    go_ret
    exact ⟨rfl, HY.out.trans z⟩
end Go.Proofs.Ytlehcagpddgamaa
