/- The statements TreapOne, TreapAbove. -/
import Derived.Test.YtlehcagpddgamaaWalk20
import Derived.Deep.RegionHeld3
namespace Go.Proofs.Ytlehcagpddgamaa
open Go.RowKit

theorem one_is {t : T} {b : Bool} (hu : Unl t.items) (hb : mayT t = b) : decide (bOf (ofI t.items) = bOf t) = b := by
  subst hb
  rw [Bool.eq_iff_iff, decide_eq_true_iff, ← ofI_eq hu]
  exact ⟨fun h => ofT_inj _ h, fun h => by rw [h]⟩
theorem two_is {a b : T} (ha : mayT a = true) (hb : mayT b = true) (hu : Unl a.items) (hi : a.items = b.items) : decide (bOf a = bOf b) = true := by
  rw [decide_eq_true_iff]
  have h1 := ofI_one ha hu
  have h2 := ofI_one hb (hi ▸ hu)
  rw [← h1, ← h2, hi]

set_option maxRecDepth 100000 in
set_option maxHeartbeats 8000000 in
theorem treapOne_walk {l m : List Bead} {v u : Value} {w : World} (h : Sl Bead.enc w v l) (k : Sl Bead.enc w u m) (hm : l.length ≤ maxLen) (km : m.length ≤ maxLen) :
    Calls Try.prog 19 #[v, u] w fun e w' => e = .returned (.bool true) ∧ Ext w w' := by
  have z := Ext.refl w
  cases hL : (decide (400 < l.length) || !mayL l) with
  | true =>
    have lg := long_is h hm hL
    clear hL
    go_enter Try.func19, Try.ntmps19
    go_wp2_with fail
    refine (lg).mono ?_; rintro e w' ⟨rfl, rfl⟩
    go_wp2_with fail
    refine (alive20 _).mono ?_; rintro e wx1 ⟨rfl, x1⟩
    have z := Ext.trans z x1
    clear x1
    go_wp2_with fail
    go_ret
    exact ⟨rfl, z⟩
  | false =>
    have lg := long_is h hm hL
    cases kL : (decide (400 < m.length) || !mayL m) with
    | true =>
      have kg := long_is k km kL
      clear hL kL
      go_enter Try.func19, Try.ntmps19
      go_wp2_with fail
      refine (lg).mono ?_; rintro e w' ⟨rfl, rfl⟩
      go_wp2_with fail
      refine (kg).mono ?_; rintro e w' ⟨rfl, rfl⟩
      go_wp2_with fail
      refine (alive20 _).mono ?_; rintro e wx1 ⟨rfl, x1⟩
      have z := Ext.trans z x1
      clear x1
      go_wp2_with fail
      go_ret
      exact ⟨rfl, z⟩
    | false =>
      have kg := long_is k km kL
      obtain ⟨h400, a, ha, has, hah⟩ := short_of hL
      obtain ⟨k400, b, hb, hbs, hbh⟩ := short_of kL
      have ila := a.items_length
      have ilb := b.items_length
      have zs := ofI_size a.items
      have mka := fun (W : World) (X : Ext w W) => make_any a (h.ext X) ha (by omega) (by omega)
      have mkb := fun (W : World) (X : Ext w W) => make_any b (k.ext X) hb (by omega) (by omega)
      have ofa := fun (W : World) (X : Ext w W) => of_beads a (h.ext X) ha (by omega) (by omega)
      have ofb := fun (W : World) (X : Ext w W) => of_beads b (k.ext X) hb (by omega) (by omega)
      clear hL kL ha hb h k
      go_enter Try.func19, Try.ntmps19
      go_wp2_with fail
      refine (lg).mono ?_; rintro e w' ⟨rfl, rfl⟩
      go_wp2_with fail
      refine (kg).mono ?_; rintro e w' ⟨rfl, rfl⟩
      go_wp2_with fail
      refine (mka _ z).mono ?_; rintro e w1 ⟨u1, rfl, x1, t1⟩
      have z := Ext.trans z x1
      clear x1
      go_wp2_with fail
      refine (mkb _ z).mono ?_; rintro e w2 ⟨u2, rfl, x2, t2⟩
      have HY := Lib.hid (Ext.trans z x2)
      have A0 := Lib.hid (fun (W : World) (X : Ext w2 W) => (t1.ext x2).ext X)
      have B0 := Lib.hid (fun (W : World) (X : Ext w2 W) => t2.ext X)
      clear z x2 t1 t2
      have z := Ext.refl w2
      obtain ⟨pa, rfl⟩ := (A0.out _ z).ptr
      obtain ⟨pb, rfl⟩ := (B0.out _ z).ptr
      go_wp2_with fail
      refine (itemsN_any a (A0.out _ z) (by omega)).mono ?_; rintro e w3 ⟨u3, rfl, x3, o3⟩
      have z := Ext.trans z x3
      have I0 := Lib.hid (fun (W : World) (X : Ext w3 W) => (o3.sl Item.enc_len (by omega)).ext X)
      have HZ := Lib.hid z
      clear x3 o3 z
      have z := Ext.refl w3
      go_wp2_with fail
      refine (unlike_any (I0.out _ z) (by omega)).mono ?_; rintro e w4 ⟨⟨c, rfl, hc⟩, x4⟩
      have z := Ext.trans z x4
      clear x4
      cases c with
      | false =>
        clear hc
        go_wp2_with fail
        refine (alive20 _).mono ?_; rintro e wx1 ⟨rfl, x1⟩
        have z := Ext.trans z x1
        clear x1
        go_wp2_with fail
        go_ret
        exact ⟨rfl, (HY.out.trans HZ.out).trans z⟩
      | true =>
        have hu : Unl a.items := hc.1 rfl
        have HU := Lib.hid hu
        have NA := Lib.hid (fun (W : World) (X : Ext w3 W) => mayN_any (A0.out W (HZ.out.trans X)) (by omega))
        have NB := Lib.hid (fun (W : World) (X : Ext w3 W) => mayN_any (B0.out W (HZ.out.trans X)) (by omega))
        clear hc hu
        cases hma : mayT a with
        | false =>
          have na := NA.out
          rw [hma] at na
          go_wp2_with fail
          refine (na _ z).mono ?_; rintro e wx1 ⟨rfl, x1⟩
          have z := Ext.trans z x1
          clear x1
          go_wp2_with fail
          refine (treapOf_any (I0.out _ z) (by omega)).mono ?_; rintro e w5 ⟨u5, rfl, x5, t5⟩
          have z := Ext.trans z x5
          clear x5
          obtain ⟨p5, rfl⟩ := t5.ptr
          go_wp2_with fail
          refine (ofa _ ((HY.out.trans HZ.out).trans z)).mono ?_; rintro e w6 ⟨u6, rfl, x6, o6⟩
          have z := Ext.trans z x6
          have his := is_any (t5.ext x6) (by omega) (o6.sl Bead.enc_len (by omega)) (by rw [bOf_length]; omega)
          rw [one_is HU.out hma] at his
          clear x6 t5 o6
          go_wp2_with fail
          refine (his).mono ?_; rintro e wx2 ⟨rfl, x2⟩
          have z := Ext.trans z x2
          clear x2
          go_wp2_with fail
          refine (na _ z).mono ?_; rintro e wx3 ⟨rfl, x3⟩
          have z := Ext.trans z x3
          clear x3
          go_wp2_with fail
          refine (alive20 _).mono ?_; rintro e wx4 ⟨rfl, x4⟩
          have z := Ext.trans z x4
          clear x4
          go_wp2_with fail
          go_ret
          exact ⟨rfl, (HY.out.trans HZ.out).trans z⟩
        | true =>
          have na := NA.out
          rw [hma] at na
          cases hmb : mayT b with
          | false =>
            have nb := NB.out
            rw [hmb] at nb
            go_wp2_with fail
            refine (na _ z).mono ?_; rintro e wx1 ⟨rfl, x1⟩
            have z := Ext.trans z x1
            clear x1
            go_wp2_with fail
            refine (treapOf_any (I0.out _ z) (by omega)).mono ?_; rintro e w5 ⟨u5, rfl, x5, t5⟩
            have z := Ext.trans z x5
            clear x5
            obtain ⟨p5, rfl⟩ := t5.ptr
            go_wp2_with fail
            refine (ofa _ ((HY.out.trans HZ.out).trans z)).mono ?_; rintro e w6 ⟨u6, rfl, x6, o6⟩
            have z := Ext.trans z x6
            have his := is_any (t5.ext x6) (by omega) (o6.sl Bead.enc_len (by omega)) (by rw [bOf_length]; omega)
            rw [one_is HU.out hma] at his
            clear x6 t5 o6
            go_wp2_with fail
            refine (his).mono ?_; rintro e wx2 ⟨rfl, x2⟩
            have z := Ext.trans z x2
            clear x2
            go_wp2_with fail
            refine (na _ z).mono ?_; rintro e wx3 ⟨rfl, x3⟩
            have z := Ext.trans z x3
            clear x3
            go_wp2_with fail
            refine (nb _ z).mono ?_; rintro e wx4 ⟨rfl, x4⟩
            have z := Ext.trans z x4
            clear x4
            go_wp2_with fail
            refine (alive20 _).mono ?_; rintro e wx5 ⟨rfl, x5⟩
            have z := Ext.trans z x5
            clear x5
            go_wp2_with fail
            go_ret
            exact ⟨rfl, (HY.out.trans HZ.out).trans z⟩
          | true =>
            have nb := NB.out
            rw [hmb] at nb
            cases hsm : decide (a.items = b.items) with
            | false =>
              go_wp2_with fail
              refine (na _ z).mono ?_; rintro e wx1 ⟨rfl, x1⟩
              have z := Ext.trans z x1
              clear x1
              go_wp2_with fail
              refine (treapOf_any (I0.out _ z) (by omega)).mono ?_; rintro e w5 ⟨u5, rfl, x5, t5⟩
              have z := Ext.trans z x5
              clear x5
              obtain ⟨p5, rfl⟩ := t5.ptr
              go_wp2_with fail
              refine (ofa _ ((HY.out.trans HZ.out).trans z)).mono ?_; rintro e w6 ⟨u6, rfl, x6, o6⟩
              have z := Ext.trans z x6
              have his := is_any (t5.ext x6) (by omega) (o6.sl Bead.enc_len (by omega)) (by rw [bOf_length]; omega)
              rw [one_is HU.out hma] at his
              clear x6 t5 o6
              go_wp2_with fail
              refine (his).mono ?_; rintro e wx2 ⟨rfl, x2⟩
              have z := Ext.trans z x2
              clear x2
              go_wp2_with fail
              refine (na _ z).mono ?_; rintro e wx3 ⟨rfl, x3⟩
              have z := Ext.trans z x3
              clear x3
              go_wp2_with fail
              refine (nb _ z).mono ?_; rintro e wx4 ⟨rfl, x4⟩
              have z := Ext.trans z x4
              clear x4
              go_wp2_with fail
              refine (itemsN_any b (B0.out _ (HZ.out.trans z)) (by omega)).mono ?_; rintro e w7 ⟨u7, rfl, x7, o7⟩
              have z := Ext.trans z x7
              have hs := sameI_any (I0.out _ z) (o7.sl Item.enc_len (by omega)) (by omega) (by omega)
              rw [hsm] at hs
              clear x7 o7
              go_wp2_with fail
              refine (hs).mono ?_; rintro e wx5 ⟨rfl, x5⟩
              have z := Ext.trans z x5
              clear x5
              go_wp2_with fail
              refine (alive20 _).mono ?_; rintro e wx6 ⟨rfl, x6⟩
              have z := Ext.trans z x6
              clear x6
              go_wp2_with fail
              go_ret
              exact ⟨rfl, (HY.out.trans HZ.out).trans z⟩
            | true =>
              go_wp2_with fail
              refine (na _ z).mono ?_; rintro e wx1 ⟨rfl, x1⟩
              have z := Ext.trans z x1
              clear x1
              go_wp2_with fail
              refine (treapOf_any (I0.out _ z) (by omega)).mono ?_; rintro e w5 ⟨u5, rfl, x5, t5⟩
              have z := Ext.trans z x5
              clear x5
              obtain ⟨p5, rfl⟩ := t5.ptr
              go_wp2_with fail
              refine (ofa _ ((HY.out.trans HZ.out).trans z)).mono ?_; rintro e w6 ⟨u6, rfl, x6, o6⟩
              have z := Ext.trans z x6
              have his := is_any (t5.ext x6) (by omega) (o6.sl Bead.enc_len (by omega)) (by rw [bOf_length]; omega)
              rw [one_is HU.out hma] at his
              clear x6 t5 o6
              go_wp2_with fail
              refine (his).mono ?_; rintro e wx2 ⟨rfl, x2⟩
              have z := Ext.trans z x2
              clear x2
              go_wp2_with fail
              refine (na _ z).mono ?_; rintro e wx3 ⟨rfl, x3⟩
              have z := Ext.trans z x3
              clear x3
              go_wp2_with fail
              refine (nb _ z).mono ?_; rintro e wx4 ⟨rfl, x4⟩
              have z := Ext.trans z x4
              clear x4
              go_wp2_with fail
              refine (itemsN_any b (B0.out _ (HZ.out.trans z)) (by omega)).mono ?_; rintro e w7 ⟨u7, rfl, x7, o7⟩
              have z := Ext.trans z x7
              have hs := sameI_any (I0.out _ z) (o7.sl Item.enc_len (by omega)) (by omega) (by omega)
              rw [hsm] at hs
              clear x7 o7
              go_wp2_with fail
              refine (hs).mono ?_; rintro e wx5 ⟨rfl, x5⟩
              have z := Ext.trans z x5
              clear x5
              go_wp2_with fail
              refine (ofb _ ((HY.out.trans HZ.out).trans z)).mono ?_; rintro e w8 ⟨u8, rfl, x8, o8⟩
              have z := Ext.trans z x8
              have hit := is_any (A0.out _ (HZ.out.trans z)) (by omega) (o8.sl Bead.enc_len (by omega)) (by rw [bOf_length]; omega)
              rw [two_is hma hmb HU.out (of_decide_eq_true hsm)] at hit
              clear x8 o8
              go_wp2_with fail
              refine (hit).mono ?_; rintro e wx6 ⟨rfl, x6⟩
              have z := Ext.trans z x6
              clear x6
              go_wp2_with fail
              refine (alive20 _).mono ?_; rintro e wx7 ⟨rfl, x7⟩
              have z := Ext.trans z x7
              clear x7
              go_wp2_with fail
              go_ret
              exact ⟨rfl, (HY.out.trans HZ.out).trans z⟩
end Go.Proofs.Ytlehcagpddgamaa
