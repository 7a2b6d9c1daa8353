/- Package treap: above, item, Above, Check, May, Items, Mixed. -/
import Derived.Test.YtlehcagpddgamaaItem
import Derived.Test.YtlehcagpddgamaaMixC
import Derived.Test.YtlehcagpddgamaaSee
import Derived.Laws.EntriesVeiled
namespace Go.Proofs.Ytlehcagpddgamaa
open Go.RowKit

/-- The value of an item. -/
def Item.v (x : Item) : Value := .agg #[.int .i64 x.key, .int .i64 x.val, .int .u64 x.tag]
theorem above_of1 {x y : Item} (h : y.tag < x.tag) : true = above x y := by simp [above, h]
theorem above_of2 {x y : Item} (h : ¬ y.tag < x.tag) (h2 : ¬ x.tag = y.tag) : false = above x y := by simp [above, h, h2]
theorem above_of3 {x y : Item} (_ : ¬ y.tag < x.tag) (h2 : x.tag = y.tag) : decide (y.key < x.key) = above x y := by simp [above, h2]

set_option maxHeartbeats 1000000 in
theorem above_fn (x y : Item) (w : World) : Calls Try.prog 153 #[x.v, y.v] w fun e w' => e = .returned (.bool (above x y)) ∧ Ext w w' := by
  have h1 := @above_of1 x y
  have h2 := @above_of2 x y
  have h3 := @above_of3 x y
  obtain ⟨k, v, g⟩ := x
  obtain ⟨k', v', g'⟩ := y
  have H1 := Lib.hid h1
  have H2 := Lib.hid h2
  have H3 := Lib.hid h3
  clear h1 h2 h3
  unfold Item.v
  by_cases c1 : g' < g
  · have d1 : decide (g' < g) = true := by simpa using c1
    go_enter Try.func153, Try.ntmps153
    go_wp2_with fail
    go_ret
    exact ⟨congrArg (fun b => Ending.returned (.bool b)) (H1.out c1), ((Ext.refl w).alloc _).alloc _⟩
  · have d1 : decide (g' < g) = false := by simpa using c1
    by_cases c2 : g = g'
    · have d2 : (g == g') = true := by simpa using c2
      have HC := Lib.hid c2
      clear c2
      go_enter Try.func153, Try.ntmps153
      go_wp2_with fail
      go_ret
      exact ⟨congrArg (fun b => Ending.returned (.bool b)) (H3.out c1 HC.out), ((Ext.refl w).alloc _).alloc _⟩
    · have d2 : (g == g') = false := by simpa using c2
      have HC := Lib.hid c2
      clear c2
      go_enter Try.func153, Try.ntmps153
      go_wp2_with fail
      go_ret
      exact ⟨congrArg (fun b => Ending.returned (.bool b)) (H2.out c1 HC.out), ((Ext.refl w).alloc _).alloc _⟩

set_option maxHeartbeats 1000000 in
theorem item_fn {t : T} {v : Value} {w : World} (h : Tr w v t) : Calls Try.prog 156 #[v] w fun e w' => e = .returned t.item.v ∧ Ext w w' := by
  have hv : t.item.v = .agg #[.int .i64 t.key, .int .i64 t.val, .int .u64 t.tag] := by cases t <;> rfl
  obtain ⟨p, rfl⟩ := h.ptr
  have HV := Lib.hid hv
  clear hv
  have x0 := (Ext.refl w).alloc (.cells #[.int .i64 0, .int .i64 0, .int .u64 0] 70)
  go_enter Try.func156, Try.ntmps156
  go_wp2_with fail
  refine (key_any (h.ext x0)).mono ?_; rintro e w1 ⟨rfl, x1⟩
  have b1 := (Blk.new w 70 #[.int .i64 0, .int .i64 0, .int .u64 0]).ext x1
  have y1 := x0.trans x1
  go_wp2_with fail
  refine (val_any (h.ext y1)).mono ?_; rintro e w2 ⟨rfl, x2⟩
  have b2 := b1.ext x2
  have y2 := y1.trans x2
  go_wp2_with fail
  refine (tag_any (h.ext y2)).mono ?_; rintro e w3 ⟨rfl, x3⟩
  have b3 := b2.ext x3
  have y3 := y2.trans x3
  have c0 := b3.cell 0
  have c1 := b3.cell 1
  have c2 := b3.cell 2
  have f0 := b3.frozen 0
  have f1 := b3.frozen 1
  have f2 := b3.frozen 2
  have HB := Lib.hid b3
  have HY := Lib.hid y3
  clear b1 b2 b3 y1 y2 y3 x0 x1 x2 x3
  go_wp2_with fail
  have b4 := ((HB.out.set 0 (.int .i64 t.key)).set 1 (.int .i64 t.val)).set 2 (.int .u64 t.tag)
  have d0 := b4.cell 0
  have d1 := b4.cell 1
  have d2 := b4.cell 2
  have y4 := ((HY.out.set (p := ⟨w.heap.size, 0, none⟩) (Nat.le_refl _) (.int .i64 t.key)).set (p := ⟨w.heap.size, 1, none⟩) (Nat.le_refl _) (.int .i64 t.val)).set (p := ⟨w.heap.size, 2, none⟩) (Nat.le_refl _) (.int .u64 t.tag)
  generalize (((w3.setCell ⟨w.heap.size, 0, none⟩ (.int .i64 t.key)).setCell ⟨w.heap.size, 1, none⟩ (.int .i64 t.val)).setCell ⟨w.heap.size, 2, none⟩ (.int .u64 t.tag)) = w4 at *
  exact bodyPost_ret (v := .agg #[.int .i64 t.key, .int .i64 t.val, .int .u64 t.tag]) (by simp [results, Try.results156, go_sem, d0, d1, d2]) rfl ⟨congrArg Ending.returned HV.out.symm, y4⟩

/-- Does one tree's root stand above the other one's? -/
def overT (t u : T) : Bool := t.some && u.some && above t.item u.item
set_option maxHeartbeats 1000000 in
theorem aboveN_any {t u : T} {v v' : Value} {w : World} (h : Tr w v t) (h' : Tr w v' u) : Calls Try.prog 89 #[v, v'] w fun e w' => e = .returned (.bool (overT t u)) ∧ Ext w w' := by
  obtain ⟨p, rfl⟩ := h.ptr
  obtain ⟨p', rfl⟩ := h'.ptr
  have n1 := neq_nil h
  have n2 := neq_nil h'
  by_cases c1 : t.some = true
  · by_cases c2 : u.some = true
    · have hr : above t.item u.item = overT t u := by simp [overT, c1, c2]
      have HR := Lib.hid hr
      clear hr
      go_enter Try.func89, Try.ntmps89
      go_wp2_with fail
      refine (item_fn h).mono ?_; rintro e w1 ⟨rfl, x1⟩
      go_wp2_with fail
      refine (item_fn (h'.ext x1)).mono ?_; rintro e w2 ⟨rfl, x2⟩
      go_wp2_with fail
      refine (above_fn t.item u.item _).mono ?_; rintro e w3 ⟨rfl, x3⟩
      go_wp2_with fail
      go_ret
      exact ⟨congrArg (fun b => Ending.returned (.bool b)) HR.out, (x1.trans x2).trans x3⟩
    · have hr : false = overT t u := by simp [overT, c2]
      have HR := Lib.hid hr
      clear hr
      have c2' : u.some = false := by simpa using c2
      go_enter Try.func89, Try.ntmps89
      go_wp2_with fail
      go_ret
      exact ⟨congrArg (fun b => Ending.returned (.bool b)) HR.out, Ext.refl w⟩
  · have hr : false = overT t u := by simp [overT, c1]
    have HR := Lib.hid hr
    clear hr
    have c1' : t.some = false := by simpa using c1
    go_enter Try.func89, Try.ntmps89
    go_wp2_with fail
    go_ret
    exact ⟨congrArg (fun b => Ending.returned (.bool b)) HR.out, Ext.refl w⟩

theorem left_any {t : T} {v : Value} {w : World} (h : Tr w v t) : Calls Try.prog 37 #[v] w fun e w' => ∃ v', e = .returned v' ∧ w = w' ∧ Tr w v' (match t with | .nil => .nil | .node _ _ _ l _ => l) := by
  cases t with
  | nil =>
    obtain rfl : v = .pointer none := h
    exact (left_nil w).mono fun e w' ⟨h1, h2⟩ => ⟨_, h1, h2, rfl⟩
  | node k x g l r =>
    obtain ⟨b, vl, vr, rfl, ha, hl, hr⟩ := h
    obtain ⟨pl, rfl⟩ := hl.ptr
    obtain ⟨pr, rfl⟩ := hr.ptr
    exact (left_at ha).mono fun e w' ⟨h1, h2⟩ => ⟨_, h1, h2, hl⟩
theorem right_any {t : T} {v : Value} {w : World} (h : Tr w v t) : Calls Try.prog 38 #[v] w fun e w' => ∃ v', e = .returned v' ∧ w = w' ∧ Tr w v' (match t with | .nil => .nil | .node _ _ _ _ r => r) := by
  cases t with
  | nil =>
    obtain rfl : v = .pointer none := h
    exact (right_nil w).mono fun e w' ⟨h1, h2⟩ => ⟨_, h1, h2, rfl⟩
  | node k x g l r =>
    obtain ⟨b, vl, vr, rfl, ha, hl, hr⟩ := h
    obtain ⟨pl, rfl⟩ := hl.ptr
    obtain ⟨pr, rfl⟩ := hr.ptr
    exact (right_at ha).mono fun e w' ⟨h1, h2⟩ => ⟨_, h1, h2, hr⟩

set_option maxRecDepth 100000 in
set_option maxHeartbeats 2000000 in
/-- treap.Items. -/
theorem itemsN_any (t : T) : ∀ {v : Value} {w : World}, Tr w v t → t.size ≤ 100000 →
    Calls Try.prog 85 #[v] w (Gives (fun v' w' => Own Item.enc 70 3 w.heap.size w' v' t.items) w) := by
  induction t with
  | nil =>
    intro v w h _
    obtain rfl : v = .pointer none := h
    go_enter Try.func85, Try.ntmps85
    go_wp2_with fail
    go_ret
    exact ⟨_, rfl, Ext.refl w, Own.nil_ w _ _⟩
  | node k x g a b iha ihb =>
    intro v w h hs
    have hl1 := a.items_length
    have hl2 := b.items_length
    simp only [T.size] at hs
    have hv := h
    obtain ⟨bn, ua, ub, rfl, hat, hta, htb⟩ := h
    obtain ⟨pa, rfl⟩ := hta.ptr
    obtain ⟨pb, rfl⟩ := htb.ptr
    go_enter Try.func85, Try.ntmps85
    go_wp2_with fail
    refine (left_at hat).mono ?_; rintro e w' ⟨rfl, rfl⟩
    go_wp2_with fail
    refine (iha hta (by omega)).mono ?_; rintro e w1 ⟨v1, rfl, x1, o1⟩
    go_wp2_with fail
    refine (item_fn (hv.ext x1)).mono ?_; rintro e w2 ⟨rfl, x2⟩
    have y2 := x1.trans x2
    have o2 := o1.ext x2
    have hi : T.item (.node k x g a b) = ⟨k, x, g⟩ := rfl
    unfold Item.v
    rw [hi]
    go_wp2_with (at_builtin; refine wpList_app itemE rfl (.tmp 7) (.tmp 10) rfl rfl rfl (o2.ext ((Ext.refl w2).alloc _)) (lit_sl (enc := Item.enc) ⟨k, x, g⟩ rfl) ?h1 ?h2 (y2.alloc _).size ?_; (case h1 => simp only [maxLen, List.length_singleton]; omega); (case h2 => simp only [List.length_singleton]; omega); intro v3 w3 o3 a3; have x3 := AppTo.ext a3 (y2.alloc (.cells #[.int .i64 k, .int .i64 x, .int .u64 g] 70)) (o2.ext ((Ext.refl w2).alloc (.cells #[.int .i64 k, .int .i64 x, .int .u64 g] 70))))
    refine (right_at (hat.ext x3)).mono ?_; rintro e w' ⟨rfl, rfl⟩
    go_wp2_with fail
    refine (ihb (htb.ext x3) (by omega)).mono ?_; rintro e w4 ⟨v4, rfl, x4, o4⟩
    go_wp2_with (at_builtin; refine wpList_app itemE rfl (.tmp 11) (.tmp 14) rfl rfl rfl (o3.ext x4) (o4.sl Item.enc_len (by omega)) ?h1 ?h2 (x3.trans x4).size ?_; (case h1 => simp only [maxLen, List.length_append, List.length_singleton]; omega); (case h2 => simp only [List.length_append, List.length_singleton]; omega); intro v5 w5 o5 a5; have x5 := AppTo.ext a5 (x3.trans x4) (o3.ext x4))
    go_ret
    exact ⟨_, rfl, x5, by simpa [T.items] using o5⟩
end Go.Proofs.Ytlehcagpddgamaa
