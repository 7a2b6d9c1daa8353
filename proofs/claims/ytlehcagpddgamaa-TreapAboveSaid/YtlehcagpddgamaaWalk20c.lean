/- The statement TreapAbove. -/
import Derived.Test.YtlehcagpddgamaaWalk20
import Derived.Deep.RegionHeld3
namespace Go.Proofs.Ytlehcagpddgamaa
open Go.RowKit

theorem above_no {x y : Item} (h1 : x.tag = y.tag) (h2 : x.key = y.key) : above x y = false := by rw [above_not]; omega
theorem above_one {x y : Item} (h : ¬ (x.tag = y.tag ∧ x.key = y.key)) : above y x = !above x y := by
  cases hp : above x y with
  | true => rw [Bool.not_true, above_not]; rw [above_iff] at hp; omega
  | false => rw [Bool.not_false, above_iff]; rw [above_not] at hp; omega

set_option maxRecDepth 100000 in
set_option maxHeartbeats 8000000 in
theorem treapAbove_core {l : List Bead} {v : Value} {w : World} (x y : Item) (h : Sl Bead.enc w v l) {t : T} (ht : Ser l t) (h400 : l.length ≤ 400) (hth : t.height ≤ 400) {b1 b2 p1 p2 : Bool}
    (lg : Calls Try.prog 30 #[v] ((w.alloc (.cells #[.int .i64 x.key, .int .i64 x.val, .int .u64 x.tag] 70)).alloc (.cells #[.int .i64 y.key, .int .i64 y.val, .int .u64 y.tag] 70)) fun e w' => e = .returned (.bool false) ∧ ((w.alloc (.cells #[.int .i64 x.key, .int .i64 x.val, .int .u64 x.tag] 70)).alloc (.cells #[.int .i64 y.key, .int .i64 y.val, .int .u64 y.tag] 70)) = w')
    (e1 : (x.tag == y.tag) = b1) (e2 : (x.key == y.key) = b2) (hp1 : above x y = p1) (hp2 : above y x = p2) (hlaw : (b1 && b2) = (!p1 && !p2) ∧ (p1 && p2) = false) :
    Calls Try.prog 17 #[.agg #[.int .i64 x.key, .int .i64 x.val, .int .u64 x.tag], .agg #[.int .i64 y.key, .int .i64 y.val, .int .u64 y.tag], v] w fun e w' => e = .returned (.bool true) ∧ Ext w w' := by
  have x0 := ((Ext.refl w).alloc (.cells #[.int .i64 x.key, .int .i64 x.val, .int .u64 x.tag] 70)).alloc (.cells #[.int .i64 y.key, .int .i64 y.val, .int .u64 y.tag] 70)
  have kX := (Blk.new w 70 #[.int .i64 x.key, .int .i64 x.val, .int .u64 x.tag]).alloc (.cells #[.int .i64 y.key, .int .i64 y.val, .int .u64 y.tag] 70)
  have kY := Blk.new (w.alloc (.cells #[.int .i64 x.key, .int .i64 x.val, .int .u64 x.tag] 70)) 70 #[.int .i64 y.key, .int .i64 y.val, .int .u64 y.tag]
  rw [alloc_size] at kY
  have mk := make_any t (h.ext x0) ht (by omega) (by omega)
  have h0 : ∀ W : World, Tr W (.pointer none) .nil := fun _ => rfl
  have ra := fun W => refAbove_raw x.key x.val x.tag y.key y.val y.tag W
  have rb := fun W => refAbove_raw y.key y.val y.tag x.key x.val x.tag W
  rw [show (⟨x.key, x.val, x.tag⟩ : Item) = x from rfl, show (⟨y.key, y.val, y.tag⟩ : Item) = y from rfl] at ra rb
  rw [hp1] at ra
  rw [hp2] at rb
  clear h ht
  go_enter Try.func17, Try.ntmps17
  go_wp2_with fail
  generalize (w.alloc (.cells #[.int .i64 x.key, .int .i64 x.val, .int .u64 x.tag] 70)).alloc (.cells #[.int .i64 y.key, .int .i64 y.val, .int .u64 y.tag] 70) = W0 at *
  generalize w.heap.size + 1 = bY at *
  generalize w.heap.size = bX at *
  refine (lg).mono ?_; rintro e w' ⟨rfl, rfl⟩
  go_wp2_with fail
  refine (mk).mono ?_; rintro e w1 ⟨u1, rfl, x1, t1⟩
  obtain ⟨pt, rfl⟩ := t1.ptr
  have hcell : ∀ W : World, Ext w1 W → (W.cell? ⟨bX, 0, none⟩ = some (.int .i64 x.key) ∧ W.cell? ⟨bX, 1, none⟩ = some (.int .i64 x.val) ∧ W.cell? ⟨bX, 2, none⟩ = some (.int .u64 x.tag)) ∧ (W.cell? ⟨bY, 0, none⟩ = some (.int .i64 y.key) ∧ W.cell? ⟨bY, 1, none⟩ = some (.int .i64 y.val) ∧ W.cell? ⟨bY, 2, none⟩ = some (.int .u64 y.tag)) := by
    intro W X
    have k1 := (kX.ext x1).ext X
    have k2 := (kY.ext x1).ext X
    exact ⟨⟨k1.cell 0, k1.cell 1, k1.cell 2⟩, k2.cell 0, k2.cell 1, k2.cell 2⟩
  have HC := Lib.hid hcell
  have HY := Lib.hid (x0.trans x1)
  have T1 := Lib.hid (fun (W : World) (X : Ext w1 W) => t1.ext X)
  have z := Ext.refl w1
  clear hcell t1 x0 x1 mk lg kX kY
  go_wp2_with fail
  go_region_held3 (fun W => (W.cell? ⟨bX, 0, none⟩ = some (.int .i64 x.key) ∧ W.cell? ⟨bX, 1, none⟩ = some (.int .i64 x.val) ∧ W.cell? ⟨bX, 2, none⟩ = some (.int .u64 x.tag)) ∧ (W.cell? ⟨bY, 0, none⟩ = some (.int .i64 y.key) ∧ W.cell? ⟨bY, 1, none⟩ = some (.int .i64 y.val) ∧ W.cell? ⟨bY, 2, none⟩ = some (.int .u64 y.tag))) (first | exact HC.out _ z | exact HC.out _ (Ext.drew z))
    (first
      | (go_at_call_of 35 (Value.int .i64 x.val); refine (new_any x.key x.val x.tag (T1.out _ (by first | exact z | exact Ext.drew z)) (h0 _)).mono ?_; rintro e wa ⟨ua, rfl, xa, ba, rfl, hba, hata⟩; have z := (by first | exact Ext.trans z xa | exact (Ext.drew z).trans xa))
      | (go_at_call 35; refine (new_any y.key y.val y.tag (h0 _) (T1.out _ z)).mono ?_; rintro e wb ⟨ub, rfl, xb, bb, rfl, hbb, hatb⟩; have hata := Blk.ext hata xb; have z := Ext.trans z xb))
  have TA : Tr wb (.pointer (some ⟨ba, 0, none⟩)) (.node x.key x.val x.tag t .nil) := ⟨ba, _, _, rfl, hata, T1.out _ z, rfl⟩
  have TB : Tr wb (.pointer (some ⟨bb, 0, none⟩)) (.node y.key y.val y.tag .nil t) := ⟨bb, _, _, rfl, hatb, rfl, T1.out _ z⟩
  have ov1 : overT (.node x.key x.val x.tag t .nil) (.node y.key y.val y.tag .nil t) = p1 := by
    show (true && true && above x y) = p1
    simpa using hp1
  have ov2 : overT (.node y.key y.val y.tag .nil t) (.node x.key x.val x.tag t .nil) = p2 := by
    show (true && true && above y x) = p2
    simpa using hp2
  have AB := fun (W : World) (X : Ext wb W) => aboveN_any (TA.ext X) (TB.ext X)
  have BA := fun (W : World) (X : Ext wb W) => aboveN_any (TB.ext X) (TA.ext X)
  have AN := fun (W : World) (X : Ext wb W) => aboveN_any (TA.ext X) (h0 W)
  have NB := fun (W : World) (X : Ext wb W) => aboveN_any (h0 W) (TB.ext X)
  simp only [ov1] at AB
  simp only [ov2] at BA
  simp only [overT, T.some, Bool.and_false, Bool.false_and] at AN NB
  have HZ := Lib.hid (HY.out.trans z)
  have HC2 := Lib.hid (fun (W : World) (X : Ext wb W) => HC.out W (z.trans X))
  have HAB := Lib.hid AB
  have HBA := Lib.hid BA
  have HAN := Lib.hid AN
  have HNB := Lib.hid NB
  have HRA := Lib.hid ra
  have HRB := Lib.hid rb
  clear TA TB ov1 ov2 AB BA AN NB z hata hatb HC HY T1 ra rb hba hbb hp1 hp2
  have z := Ext.refl wb
  cases b1 <;> cases b2 <;> cases p1 <;> cases p2 <;> first | (exact absurd hlaw (by decide)) | skip
  all_goals
    clear hlaw
    go_wp2_with fail
    go_region_held3 (fun W => (W.cell? ⟨bX, 0, none⟩ = some (.int .i64 x.key) ∧ W.cell? ⟨bX, 1, none⟩ = some (.int .i64 x.val) ∧ W.cell? ⟨bX, 2, none⟩ = some (.int .u64 x.tag)) ∧ (W.cell? ⟨bY, 0, none⟩ = some (.int .i64 y.key) ∧ W.cell? ⟨bY, 1, none⟩ = some (.int .i64 y.val) ∧ W.cell? ⟨bY, 2, none⟩ = some (.int .u64 y.tag))) (first | exact HC2.out _ z | exact HC2.out _ (Ext.drew z))
      (first
        | (go_at_call 89; first | (with_reducible refine (HAB.out _ (by first | exact z | exact Ext.drew z)).mono ?_; rintro e wc ⟨rfl, xc⟩; have z := (by first | exact Ext.trans z xc | exact (Ext.drew z).trans xc)) | (with_reducible refine (HBA.out _ z).mono ?_; rintro e wc ⟨rfl, xc⟩; have z := Ext.trans z xc) | (with_reducible refine (HAN.out _ z).mono ?_; rintro e wc ⟨rfl, xc⟩; have z := Ext.trans z xc) | (with_reducible refine (HNB.out _ z).mono ?_; rintro e wc ⟨rfl, xc⟩; have z := Ext.trans z xc))
        | (go_at_call 90; first | (with_reducible refine (HRA.out _).mono ?_; rintro e wc ⟨rfl, xc⟩; have z := Ext.trans z xc) | (with_reducible refine (HRB.out _).mono ?_; rintro e wc ⟨rfl, xc⟩; have z := Ext.trans z xc)))
    obtain ⟨⟨c0, c1, c2⟩, d0, d1, d2⟩ := HC2.out _ z
    go_wp2_with fail
    repeat (first
      | (with_reducible refine (HAB.out _ z).mono ?_; rintro e wc ⟨rfl, xc⟩; have z := Ext.trans z xc; go_wp2_with fail)
      | (with_reducible refine (HBA.out _ z).mono ?_; rintro e wc ⟨rfl, xc⟩; have z := Ext.trans z xc; go_wp2_with fail)
      | (with_reducible refine (alive20 _).mono ?_; rintro e wc ⟨rfl, xc⟩; have z := Ext.trans z xc; go_wp2_with fail))
    go_ret
    exact ⟨rfl, HZ.out.trans z⟩

theorem treapAbove_walk {l : List Bead} {v : Value} {w : World} (x y : Item) (h : Sl Bead.enc w v l) (hm : l.length ≤ maxLen) :
    Calls Try.prog 17 #[.agg #[.int .i64 x.key, .int .i64 x.val, .int .u64 x.tag], .agg #[.int .i64 y.key, .int .i64 y.val, .int .u64 y.tag], v] w fun e w' => e = .returned (.bool true) ∧ Ext w w' := by
  have x0 := ((Ext.refl w).alloc (.cells #[.int .i64 x.key, .int .i64 x.val, .int .u64 x.tag] 70)).alloc (.cells #[.int .i64 y.key, .int .i64 y.val, .int .u64 y.tag] 70)
  cases hL : (decide (400 < l.length) || !mayL l) with
  | true =>
    have lg := long_is (h.ext x0) hm hL
    clear hL
    go_enter Try.func17, Try.ntmps17
    go_wp2_with fail
    refine (lg).mono ?_; rintro e w' ⟨rfl, rfl⟩
    go_wp2_with fail
    refine (alive20 _).mono ?_; rintro e w1 ⟨rfl, x1⟩
    go_wp2_with fail
    go_ret
    exact ⟨rfl, x0.trans x1⟩
  | false =>
    obtain ⟨h400, t, ht, hts, hth⟩ := short_of hL
    refine treapAbove_core x y h ht h400 hth (long_is (h.ext x0) hm hL) rfl rfl rfl rfl ?_
    by_cases hs : x.tag = y.tag ∧ x.key = y.key
    · simp [above_no hs.1 hs.2, above_no hs.1.symm hs.2.symm, hs.1, hs.2]
    · rw [above_one hs]
      have : (x.tag == y.tag && x.key == y.key) = false := by
        rw [Bool.and_eq_false_iff]
        by_cases h1 : x.tag = y.tag
        · right; simpa using fun h2 => hs ⟨h1, h2⟩
        · left; simpa using h1
      rw [this]
      cases above x y <;> simp
end Go.Proofs.Ytlehcagpddgamaa
