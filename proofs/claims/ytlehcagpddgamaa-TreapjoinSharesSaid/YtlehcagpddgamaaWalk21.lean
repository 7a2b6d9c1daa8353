/- joineryref21.Joined; joinerylaw21: long, alive; the statement TreapJoins. -/
import Derived.Test.YtlehcagpddgamaaJoinB
namespace Go.Proofs.Ytlehcagpddgamaa
open Go.RowKit

theorem same_is {l : List Bead} {va vb : Value} {w : World} (ha : Sl Bead.enc w va l) (hb : Sl Bead.enc w vb l) (hm : l.length ≤ 9223372036854775807) :
    Calls Try.prog 76 #[va, vb] w fun e w' => e = .returned (.bool true) ∧ Ext w w' := by
  have := same_any ha hb hm hm
  rwa [decide_eq_true rfl] at this
set_option maxRecDepth 100000 in
set_option maxHeartbeats 4000000 in
/-- What is a join is told as one. -/
theorem joined_any {a b t : T} {la lb : List Bead} {vt va vb : Value} {x : Item} {w : World} (hj : Joined a x b t) (ht : Sl Bead.enc w vt (bOf t)) (ha : Sl Bead.enc w va la) (sa : Ser la a) (hb : Sl Bead.enc w vb lb) (sb : Ser lb b) (h1 : a.size ≤ 500) (h2 : b.size ≤ 500) :
    Calls Try.prog 75 #[vt, va, .agg #[.int .i64 x.key, .int .i64 x.val, .int .u64 x.tag], vb] w fun e w' => e = .returned (.bool true) ∧ Ext w w' := by
  have g1 := a.height_le_size
  have g2 := b.height_le_size
  have g3 := t.height_le_size
  have hsz := joined_size hj
  have hla := sa.length
  have hlb := sb.length
  have hil := t.items_length
  have z := (Ext.refl w).alloc (.cells #[.int .i64 x.key, .int .i64 x.val, .int .u64 x.tag] 70)
  have al := Lib.hid (fun (W : World) (X : Ext w W) => all21_any x (ha.ext X) sa (hb.ext X) sb (by omega) (by omega) (by omega) (by omega))
  have rm := fun (W : World) (X : Ext w W) => refMay_any (ht.ext X) (ofT_ser wrap64 t) (by omega) (by rw [bOf_length]; omega)
  rw [hj.1] at rm
  have ri := Lib.hid (fun (W : World) (X : Ext w W) => refItems_any t (ht.ext X) (ofT_ser wrap64 t) (by omega) (by rw [bOf_length]; omega))
  have T0 := Lib.hid (fun (W : World) (X : Ext w W) => ht.ext X)
  have RM := Lib.hid rm
  clear ht ha sa hb sb rm
  go_enter Try.func75, Try.ntmps75
  go_wp2_with fail
  refine (al.out _ z).mono ?_; rintro e w1 ⟨v1, rfl, x1, o1⟩
  have z := Ext.trans z x1
  rw [← hj.2] at o1
  have s1 := o1.sl Item.enc_len (by omega)
  have S1 := Lib.hid (fun (W : World) (X : Ext w1 W) => s1.ext X)
  have HZ := Lib.hid z
  clear x1 o1 s1 z
  have z := Ext.refl w1
  go_wp2_with fail
  refine (RM.out _ (HZ.out.trans z)).mono ?_; rintro e wx1 ⟨rfl, x1⟩
  have z := Ext.trans z x1
  clear x1
  go_wp2_with fail
  refine (ri.out _ (HZ.out.trans z)).mono ?_; rintro e w2 ⟨v2, rfl, x2, o2⟩
  have z := Ext.trans z x2
  have hs := sameI_is (o2.sl Item.enc_len (by omega)) (S1.out _ z) (by omega)
  clear x2 o2
  go_wp2_with fail
  refine (hs).mono ?_; rintro e wx2 ⟨rfl, x2⟩
  have z := Ext.trans z x2
  clear x2
  go_wp2_with fail
  refine (unlike_any (S1.out _ z) (by omega)).mono ?_; rintro e w3 ⟨⟨c, rfl, hc⟩, x3⟩
  have z := Ext.trans z x3
  clear x3
  cases c with
  | false =>
    go_wp2_with fail
    go_ret
    exact ⟨rfl, HZ.out.trans z⟩
  | true =>
    have hu : Unl t.items := hc.1 rfl
    have hof : ofI t.items = t := ofI_one hj.1 hu
    go_wp2_with fail
    refine (refOfI_any t.items.length rfl (S1.out _ z) (by omega)).mono ?_; rintro e w4 ⟨v4, rfl, x4, o4⟩
    have z := Ext.trans z x4
    rw [hof] at o4
    have hb := same_is (T0.out _ (HZ.out.trans z)) (o4.sl Bead.enc_len (by omega)) (by rw [bOf_length]; omega)
    clear x4 o4
    go_wp2_with fail
    refine (hb).mono ?_; rintro e wx1 ⟨rfl, x1⟩
    have z := Ext.trans z x1
    clear x1
    go_wp2_with fail
    go_ret
    exact ⟨rfl, HZ.out.trans z⟩

set_option maxHeartbeats 4000000 in
/-- The two that a statement takes. -/
theorem long21_any {l m : List Bead} {v u : Value} {w : World} (h : Sl Bead.enc w v l) (k : Sl Bead.enc w u m) (hm : l.length ≤ maxLen) (km : m.length ≤ maxLen) :
    Calls Try.prog 71 #[v, u] w fun e w' => ∃ q : Bool, e = .returned (.bool q) ∧ Ext w w' ∧ (q = false → ∃ a b, Ser l a ∧ Ser m b ∧ a.size ≤ 400 ∧ b.size ≤ 400 ∧ mayT a = true ∧ mayT b = true) := by
  have z := Ext.refl w
  cases hL : (decide (400 < l.length) || !mayL l) with
  | true =>
    have lg := long_is h hm hL
    clear hL
    go_enter Try.func71, Try.ntmps71
    go_wp2_with fail
    refine (lg).mono ?_; rintro e w' ⟨rfl, rfl⟩
    go_wp2_with fail
    go_ret
    exact ⟨true, rfl, z, fun h => by cases h⟩
  | false =>
    have lg := long_is h hm hL
    cases kL : (decide (400 < m.length) || !mayL m) with
    | true =>
      have kg := long_is k km kL
      clear hL kL
      go_enter Try.func71, Try.ntmps71
      go_wp2_with fail
      refine (lg).mono ?_; rintro e w' ⟨rfl, rfl⟩
      go_wp2_with fail
      refine (kg).mono ?_; rintro e w' ⟨rfl, rfl⟩
      go_wp2_with fail
      go_ret
      exact ⟨true, rfl, z, fun h => by cases h⟩
    | false =>
      have kg := long_is k km kL
      obtain ⟨h400, a, ha, has, hah⟩ := short_of hL
      obtain ⟨k400, b, hb, hbs, hbh⟩ := short_of kL
      have ma := refMay_any h ha (by omega) (by omega)
      have mb := fun (W : World) (X : Ext w W) => refMay_any (k.ext X) hb (by omega) (by omega)
      clear hL kL
      cases pa : mayT a with
      | false =>
        rw [pa] at ma
        go_enter Try.func71, Try.ntmps71
        go_wp2_with fail
        refine (lg).mono ?_; rintro e w' ⟨rfl, rfl⟩
        go_wp2_with fail
        refine (kg).mono ?_; rintro e w' ⟨rfl, rfl⟩
        go_wp2_with fail
        refine (ma).mono ?_; rintro e w1 ⟨rfl, x1⟩
        go_wp2_with fail
        go_ret
        exact ⟨true, rfl, x1, fun h => by cases h⟩
      | true =>
        rw [pa] at ma
        cases pb : mayT b with
        | false =>
          rw [pb] at mb
          go_enter Try.func71, Try.ntmps71
          go_wp2_with fail
          refine (lg).mono ?_; rintro e w' ⟨rfl, rfl⟩
          go_wp2_with fail
          refine (kg).mono ?_; rintro e w' ⟨rfl, rfl⟩
          go_wp2_with fail
          refine (ma).mono ?_; rintro e w1 ⟨rfl, x1⟩
          go_wp2_with fail
          refine (mb _ x1).mono ?_; rintro e w2 ⟨rfl, x2⟩
          go_wp2_with fail
          go_ret
          exact ⟨true, rfl, x1.trans x2, fun h => by cases h⟩
        | true =>
          rw [pb] at mb
          go_enter Try.func71, Try.ntmps71
          go_wp2_with fail
          refine (lg).mono ?_; rintro e w' ⟨rfl, rfl⟩
          go_wp2_with fail
          refine (kg).mono ?_; rintro e w' ⟨rfl, rfl⟩
          go_wp2_with fail
          refine (ma).mono ?_; rintro e w1 ⟨rfl, x1⟩
          go_wp2_with fail
          refine (mb _ x1).mono ?_; rintro e w2 ⟨rfl, x2⟩
          go_wp2_with fail
          go_ret
          exact ⟨false, rfl, x1.trans x2, fun _ => ⟨a, b, ha, hb, has, hbs, pa, pb⟩⟩

def a21 : T := .node 1 0 5 .nil .nil
def b21 : T := .node 3 0 7 .nil .nil
def t21 : T := .node 3 0 7 (.node 2 0 6 (.node 1 0 5 .nil .nil) .nil) .nil
theorem t21_of {t : T} (h : Joined a21 ⟨2, 0, 6⟩ b21 t) : t = t21 := by
  have := joined_one h (by unfold Unl; decide)
  rw [this]
  decide

set_option maxRecDepth 100000 in
set_option maxHeartbeats 4000000 in
theorem alive21 (w : World) : Calls Try.prog 72 #[] w fun e w' => e = .returned (.bool true) ∧ Ext w w' := by
  have z := (Ext.refl w).alloc (.cells #[.int .i64 1, .int .i64 0, .int .u64 5] 70)
  have s1 : Sl Item.enc (w.alloc (.cells #[.int .i64 1, .int .i64 0, .int .u64 5] 70)) (.slice (some ⟨w.heap.size, 0, none⟩) 1 1) [⟨1, 0, 5⟩] := lit_sl (enc := Item.enc) ⟨1, 0, 5⟩ rfl
  have o1 := treapOf_any s1 (by decide)
  rw [show ofI [⟨1, 0, 5⟩] = a21 from by decide] at o1
  clear s1
  have h0 : ∀ W : World, Tr W (.pointer none) .nil := fun _ => rfl
  have mn := fun W => most_any (h0 W) (h0 W) (by decide) (by decide)
  simp only [sideR, sideL] at mn
  go_enter Try.func72, Try.ntmps72
  go_wp2_with fail
  refine (o1).mono ?_; rintro e w1 ⟨v1, rfl, x1, t1⟩
  have z := Ext.trans z x1
  obtain ⟨p1, rfl⟩ := t1.ptr
  have s2 : Sl Item.enc (w1.alloc (.cells #[.int .i64 3, .int .i64 0, .int .u64 7] 70)) (.slice (some ⟨w1.heap.size, 0, none⟩) 1 1) [⟨3, 0, 7⟩] := lit_sl (enc := Item.enc) ⟨3, 0, 7⟩ rfl
  have x2 := (Ext.refl w1).alloc (.cells #[.int .i64 3, .int .i64 0, .int .u64 7] 70)
  have o2 := treapOf_any s2 (by decide)
  rw [show ofI [⟨3, 0, 7⟩] = b21 from by decide] at o2
  clear s2 x1 o1
  go_wp2_with fail
  refine (o2).mono ?_; rintro e w2 ⟨v2, rfl, x3, t2⟩
  have z := Ext.trans z (x2.trans x3)
  have t1 := t1.ext (x2.trans x3)
  obtain ⟨p2, rfl⟩ := t2.ptr
  clear x2 x3 o2
  go_wp2_with fail
  refine (join_any ⟨2, 0, 6⟩ (by decide) (by decide) t1 t2).mono ?_; rintro e w3 ⟨v3, rfl, x4, t, t3, hj⟩
  obtain rfl := t21_of hj
  have z := Ext.trans z x4
  have mo := fun (W : World) (X : Ext w3 W) => most_any ((t1.ext x4).ext X) ((t2.ext x4).ext X) (by decide) (by decide)
  simp only [sideR, sideL, a21, b21] at mo
  obtain ⟨q3, rfl⟩ := t3.ptr
  have ky := fun (W : World) (X : Ext w3 W) => key_any (t3.ext X)
  have sz := fun (W : World) (X : Ext w3 W) => size_any (t3.ext X)
  have lf := fun (W : World) (X : Ext w3 W) => left_any (t3.ext X)
  simp only [t21, T.key, T.size] at ky sz lf
  rw [show wrap64 (((0 + 1 + 0 + 1 + 0 + 1 + 0 : Nat) : Int)) = 3 from by unfold wrap64; omega] at sz
  have HZ := Lib.hid z
  have z := Ext.refl w3
  clear hj x4 t1 t2 t3
  go_wp2_with fail
  refine (ky _ z).mono ?_; rintro e wx1 ⟨rfl, x1⟩
  have z := Ext.trans z x1
  clear x1
  go_wp2_with fail
  refine (lf _ z).mono ?_; rintro e w' ⟨v5, rfl, rfl, t5⟩
  obtain ⟨p5, rfl⟩ := t5.ptr
  have k5 := key_any t5
  simp only [T.key] at k5
  clear t5
  go_wp2_with fail
  refine (k5).mono ?_; rintro e wx2 ⟨rfl, x2⟩
  have z := Ext.trans z x2
  clear x2
  go_wp2_with fail
  refine (lf _ z).mono ?_; rintro e w' ⟨v6, rfl, rfl, t6⟩
  obtain ⟨p6, rfl⟩ := t6.ptr
  go_wp2_with fail
  refine (left_any t6).mono ?_; rintro e w' ⟨v7, rfl, rfl, t7⟩
  obtain ⟨p7, rfl⟩ := t7.ptr
  have k7 := key_any t7
  simp only [T.key] at k7
  clear t6 t7
  go_wp2_with fail
  refine (k7).mono ?_; rintro e wx3 ⟨rfl, x3⟩
  have z := Ext.trans z x3
  clear x3
  go_wp2_with fail
  refine (sz _ z).mono ?_; rintro e wx4 ⟨rfl, x4⟩
  have z := Ext.trans z x4
  clear x4
  go_wp2_with fail
  refine (mo _ z).mono ?_; rintro e w' ⟨rfl, rfl⟩
  go_wp2_with fail
  refine (mn _).mono ?_; rintro e w' ⟨rfl, rfl⟩
  go_wp2_with fail
  go_ret
  exact ⟨rfl, HZ.out.trans z⟩

set_option maxRecDepth 100000 in
set_option maxHeartbeats 8000000 in
theorem treapJoins_walk {l m : List Bead} {v u : Value} {w : World} (x : Item) (h : Sl Bead.enc w v l) (k : Sl Bead.enc w u m) (hm : l.length ≤ maxLen) (km : m.length ≤ maxLen) :
    Calls Try.prog 13 #[v, u, .agg #[.int .i64 x.key, .int .i64 x.val, .int .u64 x.tag]] w fun e w' => e = .returned (.bool true) ∧ Ext w w' := by
  have z := (Ext.refl w).alloc (.cells #[.int .i64 x.key, .int .i64 x.val, .int .u64 x.tag] 70)
  have kx := Blk.new w 70 #[.int .i64 x.key, .int .i64 x.val, .int .u64 x.tag]
  have lg := long21_any (h.ext z) (k.ext z) hm km
  go_enter Try.func13, Try.ntmps13
  go_wp2_with fail
  generalize w.alloc (.cells #[.int .i64 x.key, .int .i64 x.val, .int .u64 x.tag] 70) = w0 at *
  generalize w.heap.size = bx at *
  refine (lg).mono ?_; rintro e w1 ⟨q, rfl, x1, hq⟩
  have kx := kx.ext x1
  have HZ := Lib.hid (z.trans x1)
  clear lg z x1
  have z := Ext.refl w1
  cases q with
  | true =>
    go_wp2_with fail
    refine (alive21 _).mono ?_; rintro e w2 ⟨rfl, x2⟩
    go_wp2_with fail
    go_ret
    exact ⟨rfl, HZ.out.trans x2⟩
  | false =>
    obtain ⟨a, b, sa, sb, ha4, hb4, ma, mb⟩ := hq rfl
    have g1 := a.height_le_size
    have g2 := b.height_le_size
    have la := sa.length
    have lb := sb.length
    have MA := Lib.hid (fun (W : World) (X : Ext w1 W) => make_any a (h.ext (HZ.out.trans X)) sa (by omega) (by omega))
    have MB := Lib.hid (fun (W : World) (X : Ext w1 W) => make_any b (k.ext (HZ.out.trans X)) sb (by omega) (by omega))
    have OA := Lib.hid (fun (W : World) (X : Ext w1 W) => of_beads a (h.ext (HZ.out.trans X)) sa (by omega) (by omega))
    have OB := Lib.hid (fun (W : World) (X : Ext w1 W) => of_beads b (k.ext (HZ.out.trans X)) sb (by omega) (by omega))
    clear h k hq sa sb la lb
    go_wp2_with fail
    refine (MA.out _ z).mono ?_; rintro e w2 ⟨va, rfl, x2, ta⟩
    have z := Ext.trans z x2
    go_wp2_with fail
    refine (MB.out _ z).mono ?_; rintro e w3 ⟨vb, rfl, x3, tb⟩
    have z := Ext.trans z x3
    have ta := ta.ext x3
    obtain ⟨pa, rfl⟩ := ta.ptr
    obtain ⟨pb, rfl⟩ := tb.ptr
    clear x2 x3
    go_wp2_with fail
    refine (OA.out _ z).mono ?_; rintro e w4 ⟨vp, rfl, x4, op⟩
    have z := Ext.trans z x4
    go_wp2_with fail
    refine (OB.out _ z).mono ?_; rintro e w5 ⟨vq, rfl, x5, oq⟩
    have z := Ext.trans z x5
    have ta := ta.ext (x4.trans x5)
    have tb := tb.ext (x4.trans x5)
    have op := op.ext x5
    have kx := kx.ext z
    have c0 := kx.cell 0
    have c1 := kx.cell 1
    have c2 := kx.cell 2
    clear x4 x5
    go_wp2_with fail
    refine (join_any x ma mb ta tb).mono ?_; rintro e w6 ⟨v6, rfl, x6, t, tt, hj⟩
    have hsz := joined_size hj
    have z := Ext.trans z x6
    go_wp2_with fail
    refine (See_any tt (by omega)).mono ?_; rintro e w7 ⟨v7, rfl, ot, x7⟩
    have z := Ext.trans z x7
    have x67 := x6.trans x7
    have kx := kx.ext x67
    have c0 := kx.cell 0
    have c1 := kx.cell 1
    have c2 := kx.cell 2
    have g3 := t.height_le_size
    have ST := Lib.hid (fun (W : World) (X : Ext w7 W) => (ot.sl Bead.enc_len (by omega)).ext X)
    have SP := Lib.hid (fun (W : World) (X : Ext w7 W) => (op.sl Bead.enc_len (by omega)).ext (x67.trans X))
    have SQ := Lib.hid (fun (W : World) (X : Ext w7 W) => (oq.sl Bead.enc_len (by omega)).ext (x67.trans X))
    have TA := Lib.hid (fun (W : World) (X : Ext w7 W) => ta.ext (x67.trans X))
    have TB := Lib.hid (fun (W : World) (X : Ext w7 W) => tb.ext (x67.trans X))
    have HY := Lib.hid (HZ.out.trans z)
    clear z kx x6 x7 x67 ot op oq ta tb tt OA OB MA MB
    have z := Ext.refl w7
    go_wp2_with fail
    refine (joined_any hj (ST.out _ z) (SP.out _ z) (ofT_ser wrap64 a) (SQ.out _ z) (ofT_ser wrap64 b) (by omega) (by omega)).mono ?_; rintro e wx1 ⟨rfl, x1⟩
    have z := Ext.trans z x1
    clear x1
    go_wp2_with fail
    refine (of_beads t (ST.out _ z) (ofT_ser wrap64 t) (by omega) (by rw [bOf_length]; omega)).mono ?_; rintro e w8 ⟨v8, rfl, x8, o8⟩
    have z := Ext.trans z x8
    have hs := same_is (ST.out _ z) (o8.sl Bead.enc_len (by omega)) (by rw [bOf_length]; omega)
    clear x8 o8
    go_wp2_with fail
    refine (hs).mono ?_; rintro e wx2 ⟨rfl, x2⟩
    have z := Ext.trans z x2
    clear x2
    go_wp2_with fail
    have ia := is_any (TA.out _ z) (by omega) (SP.out _ z) (by rw [bOf_length]; omega)
    rw [decide_eq_true rfl] at ia
    refine (ia).mono ?_; rintro e wx3 ⟨rfl, x3⟩
    have z := Ext.trans z x3
    clear x3
    go_wp2_with fail
    have ib := is_any (TB.out _ z) (by omega) (SQ.out _ z) (by rw [bOf_length]; omega)
    rw [decide_eq_true rfl] at ib
    refine (ib).mono ?_; rintro e wx4 ⟨rfl, x4⟩
    have z := Ext.trans z x4
    clear x4
    go_wp2_with fail
    refine (alive21 _).mono ?_; rintro e wx5 ⟨rfl, x5⟩
    have z := Ext.trans z x5
    clear x5
    go_wp2_with fail
    go_ret
    exact ⟨rfl, HY.out.trans z⟩
end Go.Proofs.Ytlehcagpddgamaa
