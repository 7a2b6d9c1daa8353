/- joineryref20: Check, May, Items, Mixed. -/
import Derived.Test.YtlehcagpddgamaaTreapC
namespace Go.Proofs.Ytlehcagpddgamaa
open Go.RowKit

theorem refOver_raw {la : List Bead} {t : T} {v : Value} (k x s z g : Int) (l r : Bool) {w : World} (h : Sl Bead.enc w v la) (hs : Ser la t) :
    Calls Try.prog 155 #[v, .agg #[.int .i64 k, .int .i64 x, .int .i64 s, .int .i64 z, .int .u64 g, .bool l, .bool r]] w fun e w' => e = .returned (.bool (over t ⟨k, x, g⟩)) ∧ Ext w w' := refOver_any ⟨k, x, s, z, g, l, r⟩ h hs
theorem err_over {k x g : Int} {l r : T} (h : (over l ⟨k, x, g⟩ || over r ⟨k, x, g⟩) = true) : ((checkT (.node k x g l r)).1 : Int) = 0 ∧ errT (.node k x g l r) = 8 := by
  simp [errT, mayT, check_over h]
theorem err_left {k x g : Int} {l r : T} (h1 : over l ⟨k, x, g⟩ = false) (h2 : over r ⟨k, x, g⟩ = false) (h : (checkT l).2 = false) : ((checkT (.node k x g l r)).1 : Int) = 1 + (checkT l).1 ∧ errT (.node k x g l r) = 8 := by
  simp [errT, mayT, check_left h1 h2 h]
theorem err_both {k x g : Int} {l r : T} (h1 : over l ⟨k, x, g⟩ = false) (h2 : over r ⟨k, x, g⟩ = false) (h : (checkT l).2 = true) : ((checkT (.node k x g l r)).1 : Int) = 1 + (checkT l).1 + (checkT r).1 ∧ errT (.node k x g l r) = errT r := by
  unfold errT mayT; rw [check_both h1 h2 h]; exact ⟨by simp, rfl⟩
theorem errT_no {t : T} (h : (checkT t).2 = false) : errT t = 8 := by simp [errT, mayT, h]
theorem errT_ok {t : T} (h : (checkT t).2 = true) : errT t = 0 := by simp [errT, mayT, h]

set_option maxRecDepth 100000 in
set_option maxHeartbeats 4000000 in
theorem refCheck_any (t : T) : ∀ {l : List Bead} {v : Value} {w : World}, Sl Bead.enc w v l → Ser l t → t.height ≤ 5001 → l.length ≤ 100000 →
    Calls Try.prog 81 #[v] w fun e w' => e = .returned (.tuple #[.int .i64 ((checkT t).1 : Int), .int .i64 (errT t)]) ∧ Ext w w' := by
  induction t with
  | nil =>
    intro l v w h hs _ _
    obtain rfl : l = [] := hs
    obtain ⟨A, c, rfl, hc, hr⟩ := h
    go_enter Try.func81, Try.ntmps81
    go_wp2_with fail
    go_ret2
    exact ⟨rfl, Ext.refl w⟩
  | node k x g a b iha ihb =>
    intro l v w h hs hh hm
    have hsz := hs.length
    have hca := checkT_le a
    have hcb := checkT_le b
    simp only [T.size] at hsz
    obtain ⟨y, la, lb, hl, rfl, rfl, rfl, e4, e5, sa, sb, p1, p2⟩ := ser_parts hs hh
    have hlen : 0 < l.length := by rw [hl]; simp
    have hla : la.length ≤ 100000 := by rw [hl] at hm; simp at hm; omega
    have hlb : lb.length ≤ 100000 := by rw [hl] at hm; simp at hm; omega
    simp only [T.height] at hh
    have hp := fun (W : World) (X : Ext w W) => parts_any (h.ext X) hl (by omega) p1 p2
    have hz : ((l.length : Int) == 0) = false := by simp; intro h; rw [h] at hlen; simp at hlen
    obtain ⟨A, c, rfl, hc, hr⟩ := h
    have HP := Lib.hid hp
    have IA := fun (W : World) (va : Value) (X : Sl Bead.enc W va la) => iha X sa (by omega) hla
    have IB := fun (W : World) (vb : Value) (X : Sl Bead.enc W vb lb) => ihb X sb (by omega) hlb
    have OA := fun (W : World) (va : Value) (X : Sl Bead.enc W va la) => refOver_raw y.key y.val y.sum y.size y.tag y.left y.right X sa
    have OB := fun (W : World) (vb : Value) (X : Sl Bead.enc W vb lb) => refOver_raw y.key y.val y.sum y.size y.tag y.left y.right X sb
    have hn1 : ((checkT a).1 : Int) ≤ 100000 := by omega
    have hn2 : ((checkT b).1 : Int) ≤ 100000 := by omega
    clear hp hl p1 p2 hs iha ihb e4 e5 hsz hla hlb sa sb hh hca hcb
    cases c1 : over a ⟨y.key, y.val, y.tag⟩ with
    | true =>
      rw [c1] at OA
      have HE := Lib.hid (err_over (l := a) (r := b) (by rw [c1]; rfl))
      clear IA IB OB
      go_enter Try.func81, Try.ntmps81
      go_wp2_with fail
      refine (HP.out _ (Ext.refl w)).mono ?_; rintro e w1 ⟨va, vb, rfl, ha, hb, x1⟩
      go_wp2_with fail
      have y1 := x1.alloc (.cells #[.int .i64 y.key, .int .i64 y.val, .int .i64 y.sum, .int .i64 y.size, .int .u64 y.tag, .bool y.left, .bool y.right] 138)
      refine (OA _ va (ha.ext y1)).mono ?_; rintro e w2 ⟨rfl, x2⟩
      go_wp2_with fail
      go_ret2
      rw [HE.out.1, HE.out.2]
      exact ⟨rfl, y1.trans x2⟩
    | false =>
      rw [c1] at OA
      cases c2 : over b ⟨y.key, y.val, y.tag⟩ with
      | true =>
        rw [c2] at OB
        have HE := Lib.hid (err_over (l := a) (r := b) (by rw [c1, c2]; rfl))
        clear IA IB
        go_enter Try.func81, Try.ntmps81
        go_wp2_with fail
        refine (HP.out _ (Ext.refl w)).mono ?_; rintro e w1 ⟨va, vb, rfl, ha, hb, x1⟩
        go_wp2_with fail
        have y1 := x1.alloc (.cells #[.int .i64 y.key, .int .i64 y.val, .int .i64 y.sum, .int .i64 y.size, .int .u64 y.tag, .bool y.left, .bool y.right] 138)
        refine (OA _ va (ha.ext y1)).mono ?_; rintro e w2 ⟨rfl, x2⟩
        have b2 := (Blk.new w1 138 #[.int .i64 y.key, .int .i64 y.val, .int .i64 y.sum, .int .i64 y.size, .int .u64 y.tag, .bool y.left, .bool y.right]).ext x2
        have hb2 := hb.ext (y1.trans x2)
        have y2 := y1.trans x2
        have d0 := b2.cell 0
        have d1 := b2.cell 1
        have d2 := b2.cell 2
        have d3 := b2.cell 3
        have d4 := b2.cell 4
        have d5 := b2.cell 5
        have d6 := b2.cell 6
        clear b2 y1 x2
        go_wp2_with fail
        refine (OB _ vb hb2).mono ?_; rintro e w3 ⟨rfl, x3⟩
        go_wp2_with fail
        go_ret2
        rw [HE.out.1, HE.out.2]
        exact ⟨rfl, y2.trans x3⟩
      | false =>
        rw [c2] at OB
        cases c3 : (checkT a).2 with
        | false =>
          have HE := Lib.hid (err_left c1 c2 c3)
          rw [errT_no c3] at IA
          clear IB
          go_enter Try.func81, Try.ntmps81
          go_wp2_with fail
          refine (HP.out _ (Ext.refl w)).mono ?_; rintro e w1 ⟨va, vb, rfl, ha, hb, x1⟩
          go_wp2_with fail
          have y1 := x1.alloc (.cells #[.int .i64 y.key, .int .i64 y.val, .int .i64 y.sum, .int .i64 y.size, .int .u64 y.tag, .bool y.left, .bool y.right] 138)
          refine (OA _ va (ha.ext y1)).mono ?_; rintro e w2 ⟨rfl, x2⟩
          have b2 := (Blk.new w1 138 #[.int .i64 y.key, .int .i64 y.val, .int .i64 y.sum, .int .i64 y.size, .int .u64 y.tag, .bool y.left, .bool y.right]).ext x2
          have ha2 := ha.ext (y1.trans x2)
          have hb2 := hb.ext (y1.trans x2)
          have y2 := y1.trans x2
          have d0 := b2.cell 0
          have d1 := b2.cell 1
          have d2 := b2.cell 2
          have d3 := b2.cell 3
          have d4 := b2.cell 4
          have d5 := b2.cell 5
          have d6 := b2.cell 6
          clear b2 y1 x2
          go_wp2_with fail
          refine (OB _ vb hb2).mono ?_; rintro e w3 ⟨rfl, x3⟩
          have y3 := y2.trans x3
          go_wp2_with fail
          refine (IA _ va (ha2.ext x3)).mono ?_; rintro e w4 ⟨rfl, x4⟩
          go_wp2_with fail
          go_ret2
          rw [HE.out.1, HE.out.2]
          exact ⟨rfl, y3.trans x4⟩
        | true =>
          have HE := Lib.hid (err_both c1 c2 c3)
          rw [errT_ok c3] at IA
          go_enter Try.func81, Try.ntmps81
          go_wp2_with fail
          refine (HP.out _ (Ext.refl w)).mono ?_; rintro e w1 ⟨va, vb, rfl, ha, hb, x1⟩
          go_wp2_with fail
          have y1 := x1.alloc (.cells #[.int .i64 y.key, .int .i64 y.val, .int .i64 y.sum, .int .i64 y.size, .int .u64 y.tag, .bool y.left, .bool y.right] 138)
          refine (OA _ va (ha.ext y1)).mono ?_; rintro e w2 ⟨rfl, x2⟩
          have b2 := (Blk.new w1 138 #[.int .i64 y.key, .int .i64 y.val, .int .i64 y.sum, .int .i64 y.size, .int .u64 y.tag, .bool y.left, .bool y.right]).ext x2
          have ha2 := ha.ext (y1.trans x2)
          have hb2 := hb.ext (y1.trans x2)
          have y2 := y1.trans x2
          have d0 := b2.cell 0
          have d1 := b2.cell 1
          have d2 := b2.cell 2
          have d3 := b2.cell 3
          have d4 := b2.cell 4
          have d5 := b2.cell 5
          have d6 := b2.cell 6
          clear b2 y1 x2
          go_wp2_with fail
          refine (OB _ vb hb2).mono ?_; rintro e w3 ⟨rfl, x3⟩
          have y3 := y2.trans x3
          go_wp2_with fail
          refine (IA _ va (ha2.ext x3)).mono ?_; rintro e w4 ⟨rfl, x4⟩
          have y4 := y3.trans x4
          go_wp2_with fail
          refine (IB _ vb ((hb2.ext x3).ext x4)).mono ?_; rintro e w5 ⟨rfl, x5⟩
          go_wp2_with fail
          go_ret2
          rw [HE.out.1, HE.out.2]
          exact ⟨rfl, y4.trans x5⟩

set_option maxHeartbeats 1000000 in
theorem refMay_any {t : T} {l : List Bead} {v : Value} {w : World} (h : Sl Bead.enc w v l) (hs : Ser l t) (hh : t.height ≤ 5001) (hm : l.length ≤ 100000) :
    Calls Try.prog 83 #[v] w fun e w' => e = .returned (.bool (mayT t)) ∧ Ext w w' := by
  have hc := fun (W : World) (X : Ext w W) => refCheck_any t (h.ext X) hs hh hm
  have he : errT t = if mayT t then 0 else 8 := rfl
  cases hm : mayT t <;> (
    rw [hm] at he
    simp only [if_true, Bool.false_eq_true, if_false] at he
    rw [he] at hc
    go_enter Try.func83, Try.ntmps83
    go_wp2_with fail
    refine (hc _ (Ext.refl w)).mono ?_; rintro e w1 ⟨rfl, x1⟩
    go_wp2_with fail
    go_ret
    exact ⟨rfl, x1⟩)
end Go.Proofs.Ytlehcagpddgamaa
