/- joineryref20: Above, item, over, Check, May, Items, Mixed. -/
import Derived.Test.YtlehcagpddgamaaTreapB
import Derived.Deep.RegionHeld3
namespace Go.Proofs.Ytlehcagpddgamaa
open Go.RowKit

set_option maxHeartbeats 1000000 in
theorem refAbove_fn (x y : Item) (w : World) : Calls Try.prog 90 #[x.v, y.v] w fun e w' => e = .returned (.bool (above x y)) ∧ Ext w w' := by
  have h1 := @above_of1 x y
  have h2 := @above_of2 x y
  have h3 := @above_of3 x y
  obtain ⟨k, v, g⟩ := x
  obtain ⟨k', v', g'⟩ := y
  have H1 := Lib.hid h1
  have H2 := Lib.hid h2
  have H3 := Lib.hid h3
  clear h1 h2 h3
  unfold Item.v
  by_cases c1 : g' < g
  · have d1 : decide (g' < g) = true := by simpa using c1
    go_enter Try.func90, Try.ntmps90
    go_wp2_with fail
    go_ret
    exact ⟨congrArg (fun b => Ending.returned (.bool b)) (H1.out c1), ((Ext.refl w).alloc _).alloc _⟩
  · have d1 : decide (g' < g) = false := by simpa using c1
    by_cases c2 : g = g'
    · have d2 : (g == g') = true := by simpa using c2
      have HC := Lib.hid c2
      clear c2
      go_enter Try.func90, Try.ntmps90
      go_wp2_with fail
      go_ret
      exact ⟨congrArg (fun b => Ending.returned (.bool b)) (H3.out c1 HC.out), ((Ext.refl w).alloc _).alloc _⟩
    · have d2 : (g == g') = false := by simpa using c2
      have HC := Lib.hid c2
      clear c2
      go_enter Try.func90, Try.ntmps90
      go_wp2_with fail
      go_ret
      exact ⟨congrArg (fun b => Ending.returned (.bool b)) (H2.out c1 HC.out), ((Ext.refl w).alloc _).alloc _⟩

/-- The value of a bead. -/
def Bead.v (x : Bead) : Value := .agg #[.int .i64 x.key, .int .i64 x.val, .int .i64 x.sum, .int .i64 x.size, .int .u64 x.tag, .bool x.left, .bool x.right]
def Bead.item (x : Bead) : Item := ⟨x.key, x.val, x.tag⟩
set_option maxHeartbeats 1000000 in
theorem refItem_fn (x : Bead) (w : World) : Calls Try.prog 157 #[x.v] w fun e w' => e = .returned x.item.v ∧ Ext w w' := by
  obtain ⟨k, v, s, z, g, l, r⟩ := x
  unfold Bead.v Bead.item Item.v
  go_enter Try.func157, Try.ntmps157
  go_wp2_with fail
  exact bodyPost_ret (v := .agg #[.int .i64 k, .int .i64 v, .int .u64 g]) (by simp [results, Try.results157, go_sem]) rfl ⟨rfl, ((Ext.refl w).alloc _).alloc _⟩

theorem refItem_raw (k v s z g : Int) (l r : Bool) (w : World) : Calls Try.prog 157 #[.agg #[.int .i64 k, .int .i64 v, .int .i64 s, .int .i64 z, .int .u64 g, .bool l, .bool r]] w fun e w' => e = .returned (.agg #[.int .i64 k, .int .i64 v, .int .u64 g]) ∧ Ext w w' := refItem_fn ⟨k, v, s, z, g, l, r⟩ w
theorem refAbove_raw (k v g k' v' g' : Int) (w : World) : Calls Try.prog 90 #[.agg #[.int .i64 k, .int .i64 v, .int .u64 g], .agg #[.int .i64 k', .int .i64 v', .int .u64 g']] w fun e w' => e = .returned (.bool (above ⟨k, v, g⟩ ⟨k', v', g'⟩)) ∧ Ext w w' := refAbove_fn ⟨k, v, g⟩ ⟨k', v', g'⟩ w

set_option maxRecDepth 100000 in
set_option maxHeartbeats 4000000 in
theorem refOver_any {l : List Bead} {t : T} {v : Value} (y : Bead) {w : World} (h : Sl Bead.enc w v l) (hs : Ser l t) :
    Calls Try.prog 155 #[v, y.v] w fun e w' => e = .returned (.bool (over t y.item)) ∧ Ext w w' := by
  obtain ⟨A, c, rfl, hc, hr⟩ := h
  unfold Bead.v
  cases t with
  | nil =>
    obtain rfl : l = [] := hs
    have hz : ([] : List Bead).length = 0 := rfl
    go_enter Try.func155, Try.ntmps155
    go_wp2_with fail
    go_quiet (fail)
    go_wp2_with fail
    go_ret
    exact ⟨rfl, ((Ext.refl w).alloc _).drewN nq⟩
  | node k x g a b =>
    obtain ⟨z, la, lb, hl, rfl, rfl, rfl, e4, e5, s4, s5⟩ := hs
    clear e4 e5 s4 s5
    obtain ⟨bb, off, rfl, hb, hcs⟩ := hr (by rw [hl]; simp)
    have h0 : l[0]? = some z := by rw [hl]; rfl
    have hpos : (0 : Int) < (l.length : Int) := by rw [hl]; simp; omega
    have hpos2 : 0 < l.length := by omega
    obtain ⟨c0, c1, c2, c3, c4, c5, c6⟩ := bead_cells hcs h0
    simp only [Nat.zero_mul, Nat.add_zero] at c0 c1 c2 c3 c4 c5 c6
    have x0 := (Ext.refl w).alloc (.cells #[.int .i64 y.key, .int .i64 y.val, .int .i64 y.sum, .int .i64 y.size, .int .u64 y.tag, .bool y.left, .bool y.right] 138)
    have e0 := fun o : Nat => x0.cell (p := ⟨bb, off + o, none⟩) hb
    have bb0 := Blk.new w 138 #[.int .i64 y.key, .int .i64 y.val, .int .i64 y.sum, .int .i64 y.size, .int .u64 y.tag, .bool y.left, .bool y.right]
    have hcell : ∀ W : World, Ext (w.alloc (.cells #[.int .i64 y.key, .int .i64 y.val, .int .i64 y.sum, .int .i64 y.size, .int .u64 y.tag, .bool y.left, .bool y.right] 138)) W →
        (W.cell? ⟨bb, off, none⟩ = some (.int .i64 z.key) ∧ W.cell? ⟨bb, off + 1, none⟩ = some (.int .i64 z.val) ∧ W.cell? ⟨bb, off + 2, none⟩ = some (.int .i64 z.sum) ∧ W.cell? ⟨bb, off + 3, none⟩ = some (.int .i64 z.size) ∧ W.cell? ⟨bb, off + 4, none⟩ = some (.int .u64 z.tag) ∧ W.cell? ⟨bb, off + 5, none⟩ = some (.bool z.left) ∧ W.cell? ⟨bb, off + 6, none⟩ = some (.bool z.right)) ∧
        (W.cell? ⟨w.heap.size, 0, none⟩ = some (.int .i64 y.key) ∧ W.cell? ⟨w.heap.size, 1, none⟩ = some (.int .i64 y.val) ∧ W.cell? ⟨w.heap.size, 2, none⟩ = some (.int .i64 y.sum) ∧ W.cell? ⟨w.heap.size, 3, none⟩ = some (.int .i64 y.size) ∧ W.cell? ⟨w.heap.size, 4, none⟩ = some (.int .u64 y.tag) ∧ W.cell? ⟨w.heap.size, 5, none⟩ = some (.bool y.left) ∧ W.cell? ⟨w.heap.size, 6, none⟩ = some (.bool y.right)) := by
      intro W X
      have X0 := x0.trans X
      have B := bb0.ext X
      exact ⟨⟨(X0.cell (p := ⟨bb, off, none⟩) hb).trans c0, (X0.cell (p := ⟨bb, off + 1, none⟩) hb).trans c1, (X0.cell (p := ⟨bb, off + 2, none⟩) hb).trans c2, (X0.cell (p := ⟨bb, off + 3, none⟩) hb).trans c3, (X0.cell (p := ⟨bb, off + 4, none⟩) hb).trans c4, (X0.cell (p := ⟨bb, off + 5, none⟩) hb).trans c5, (X0.cell (p := ⟨bb, off + 6, none⟩) hb).trans c6⟩,
        B.cell 0, B.cell 1, B.cell 2, B.cell 3, B.cell 4, B.cell 5, B.cell 6⟩
    have HC := Lib.hid hcell
    have hz : above z.item y.item = over (.node z.key z.val z.tag a b) y.item := by simp [over, T.some, T.item, Bead.item]
    have HZ := Lib.hid hz
    clear hz hcell e0 bb0 c0 c1 c2 c3 c4 c5 c6 hcs h0 hl
    go_enter Try.func155, Try.ntmps155
    go_wp2_with fail
    generalize w.alloc (.cells #[.int .i64 y.key, .int .i64 y.val, .int .i64 y.sum, .int .i64 y.size, .int .u64 y.tag, .bool y.left, .bool y.right] 138) = W0 at *
    have y0 := Ext.refl W0
    go_region_held3 (fun W => (W.cell? ⟨bb, off, none⟩ = some (.int .i64 z.key) ∧ W.cell? ⟨bb, off + 1, none⟩ = some (.int .i64 z.val) ∧ W.cell? ⟨bb, off + 2, none⟩ = some (.int .i64 z.sum) ∧ W.cell? ⟨bb, off + 3, none⟩ = some (.int .i64 z.size) ∧ W.cell? ⟨bb, off + 4, none⟩ = some (.int .u64 z.tag) ∧ W.cell? ⟨bb, off + 5, none⟩ = some (.bool z.left) ∧ W.cell? ⟨bb, off + 6, none⟩ = some (.bool z.right)) ∧
        (W.cell? ⟨w.heap.size, 0, none⟩ = some (.int .i64 y.key) ∧ W.cell? ⟨w.heap.size, 1, none⟩ = some (.int .i64 y.val) ∧ W.cell? ⟨w.heap.size, 2, none⟩ = some (.int .i64 y.sum) ∧ W.cell? ⟨w.heap.size, 3, none⟩ = some (.int .i64 y.size) ∧ W.cell? ⟨w.heap.size, 4, none⟩ = some (.int .u64 y.tag) ∧ W.cell? ⟨w.heap.size, 5, none⟩ = some (.bool y.left) ∧ W.cell? ⟨w.heap.size, 6, none⟩ = some (.bool y.right))) (first | exact HC.out _ y0 | exact HC.out _ (Ext.drew y0))
      (first
        | (go_at_call 157; refine (refItem_raw _ _ _ _ _ _ _ _).mono ?_; rintro e wa ⟨rfl, xa⟩; have y0 := (by first | exact Ext.trans y0 xa | exact (Ext.drew y0).trans xa))
        | (go_at_call 90; refine (refAbove_raw _ _ _ _ _ _ _).mono ?_; rintro e wb ⟨rfl, xb⟩; have y0 := Ext.trans y0 xb))
    go_wp2_with fail
    go_ret
    exact ⟨congrArg (fun c => Ending.returned (.bool c)) HZ.out, x0.trans y0⟩
end Go.Proofs.Ytlehcagpddgamaa
