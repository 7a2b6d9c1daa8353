/- Package treap: Check, May, Mixed. -/
import Derived.Test.YtlehcagpddgamaaTreapA
namespace Go.Proofs.Ytlehcagpddgamaa
open Go.RowKit

theorem overT_node {a : T} {k x g : Int} {l r : T} : overT a (.node k x g l r) = over a ⟨k, x, g⟩ := by simp [overT, over, T.some, T.item]
theorem check_over {k x g : Int} {l r : T} (h : (over l ⟨k, x, g⟩ || over r ⟨k, x, g⟩) = true) : checkT (.node k x g l r) = (0, false) := by rw [checkT, if_pos h]
theorem check_left {k x g : Int} {l r : T} (h1 : over l ⟨k, x, g⟩ = false) (h2 : over r ⟨k, x, g⟩ = false) (h : (checkT l).2 = false) : checkT (.node k x g l r) = (1 + (checkT l).1, false) := by
  rw [checkT, if_neg (by simp [h1, h2]), if_neg (by simp [h])]
theorem check_both {k x g : Int} {l r : T} (h1 : over l ⟨k, x, g⟩ = false) (h2 : over r ⟨k, x, g⟩ = false) (h : (checkT l).2 = true) : checkT (.node k x g l r) = (1 + (checkT l).1 + (checkT r).1, (checkT r).2) := by
  rw [checkT, if_neg (by simp [h1, h2]), if_pos h]

/-- The closure of Check. -/
def onF (bAt bOn : Nat) : Value := .func (.func 154) #[] #[.pointer (some ⟨bAt, 0, none⟩), .pointer (some ⟨bOn, 0, none⟩)]
/-- What Check's boxes hold. -/
def OnAt (w0 w : World) (bAt bOn : Nat) (n : Nat) : Prop := Ext w0 w ∧ Blk w bAt 3 #[.int .i64 (n : Int)] ∧ Blk w bOn 85 #[onF bAt bOn]
theorem OnAt.drew {w0 w : World} {bAt bOn n : Nat} (h : OnAt w0 w bAt bOn n) : OnAt w0 w.drew bAt bOn n := ⟨h.1.drew, h.2.1.drew, h.2.2.drew⟩
theorem OnAt.ext {w0 w w' : World} {bAt bOn n : Nat} (h : OnAt w0 w bAt bOn n) (x : Ext w w') : OnAt w0 w' bAt bOn n := ⟨h.1.trans x, h.2.1.ext x, h.2.2.ext x⟩

set_option maxRecDepth 100000 in
set_option maxHeartbeats 4000000 in
theorem on_any (w0 : World) (bAt bOn : Nat) (hA : w0.heap.size ≤ bAt) (hne : ¬ bAt = bOn) (t : T) : ∀ {v : Value} {w : World} {n : Nat}, Tr w0 v t → OnAt w0 w bAt bOn n → n + t.size ≤ 1000000 →
    Calls Try.prog 154 #[v, .pointer (some ⟨bAt, 0, none⟩), .pointer (some ⟨bOn, 0, none⟩)] w fun e w' => e = .returned (.bool (checkT t).2) ∧ OnAt w0 w' bAt bOn (n + (checkT t).1) := by
  induction t with
  | nil =>
    intro v w n h ho _
    obtain rfl : v = .pointer none := h
    go_enter Try.func154, Try.ntmps154
    go_wp2_with fail
    go_ret
    exact ⟨rfl, ho⟩
  | node k x g a b iha ihb =>
    intro v w n h ho hn
    simp only [T.size] at hn
    have hv := h
    obtain ⟨bn, ua, ub, rfl, hat, hta, htb⟩ := h
    obtain ⟨pa, rfl⟩ := hta.ptr
    obtain ⟨pb, rfl⟩ := htb.ptr
    have ha := fun (W : World) (X : Ext w0 W) => aboveN_any (hta.ext X) (hv.ext X)
    have hb := fun (W : World) (X : Ext w0 W) => aboveN_any (htb.ext X) (hv.ext X)
    simp only [overT_node] at ha hb
    have hca := checkT_le a
    cases c1 : over a ⟨k, x, g⟩ with
    | true =>
      rw [c1] at ha
      have HC := Lib.hid (check_over (l := a) (r := b) (by rw [c1]; rfl))
      go_enter Try.func154, Try.ntmps154
      go_wp2_with fail
      refine (left_at (hat.ext ho.1)).mono ?_; rintro e w' ⟨rfl, rfl⟩
      go_wp2_with fail
      refine (ha _ ho.1).mono ?_; rintro e w1 ⟨rfl, x1⟩
      go_wp2_with fail
      go_ret
      rw [HC.out]
      exact ⟨rfl, ho.ext x1⟩
    | false =>
      rw [c1] at ha
      cases c2 : over b ⟨k, x, g⟩ with
      | true =>
        rw [c2] at hb
        have HC := Lib.hid (check_over (l := a) (r := b) (by rw [c1, c2]; rfl))
        go_enter Try.func154, Try.ntmps154
        go_wp2_with fail
        refine (left_at (hat.ext ho.1)).mono ?_; rintro e w' ⟨rfl, rfl⟩
        go_wp2_with fail
        refine (ha _ ho.1).mono ?_; rintro e w1 ⟨rfl, x1⟩
        have ho1 := ho.ext x1
        go_wp2_with fail
        refine (right_at (hat.ext ho1.1)).mono ?_; rintro e w' ⟨rfl, rfl⟩
        go_wp2_with fail
        refine (hb _ ho1.1).mono ?_; rintro e w2 ⟨rfl, x2⟩
        go_wp2_with fail
        go_ret
        rw [HC.out]
        exact ⟨rfl, ho1.ext x2⟩
      | false =>
        rw [c2] at hb
        have hne' : ¬ bOn = bAt := fun e => hne e.symm
        cases c3 : (checkT a).2 with
        | false =>
          have HC := Lib.hid (check_left c1 c2 c3)
          have ia := fun (W : World) (m : Nat) (X : OnAt w0 W bAt bOn m) (hm : m + a.size ≤ 1000000) => iha hta X hm
          rw [c3] at ia
          have HN := Lib.hid hn
          clear iha ihb hn hca
          go_enter Try.func154, Try.ntmps154
          go_wp2_with fail
          refine (left_at (hat.ext ho.1)).mono ?_; rintro e w' ⟨rfl, rfl⟩
          go_wp2_with fail
          refine (ha _ ho.1).mono ?_; rintro e w1 ⟨rfl, x1⟩
          have ho1 := ho.ext x1
          go_wp2_with fail
          refine (right_at (hat.ext ho1.1)).mono ?_; rintro e w' ⟨rfl, rfl⟩
          go_wp2_with fail
          refine (hb _ ho1.1).mono ?_; rintro e w2 ⟨rfl, x2⟩
          obtain ⟨y2, b2, f2⟩ := ho1.ext x2
          have e1 := b2.cell 0
          have e2 := b2.frozen 0
          have e3 := f2.cell 0
          have hn9 : (n : Int) ≤ 1000000 := by have := HN.out; omega
          go_wp2_with fail
          have o3 : OnAt w0 (w2.setCell ⟨bAt, 0, none⟩ (.int .i64 ((n : Int) + 1))) bAt bOn (n + 1) := ⟨y2.set (p := ⟨bAt, 0, none⟩) hA _, by have := b2.set 0 (.int .i64 ((n : Int) + 1)); simpa using this, f2.far (p := ⟨bAt, 0, none⟩) hne' _⟩
          have s3 : (w2.setCell ⟨bAt, 0, none⟩ (.int .i64 ((n : Int) + 1))).cell? ⟨bOn, 0, none⟩ = some (.func (.func 154) #[] #[.pointer (some ⟨bAt, 0, none⟩), .pointer (some ⟨bOn, 0, none⟩)]) := o3.2.2.cell 0
          clear b2 f2 e1 e2 e3
          generalize w2.setCell ⟨bAt, 0, none⟩ (.int .i64 ((n : Int) + 1)) = w3 at *
          first | (go_region_with
            (first
              | (go_at_call 37; refine (left_at (by first | exact hat.ext o3.1 | exact hat.ext o3.drew.1)).mono ?_; rintro e w' ⟨rfl, rfl⟩)
              | (go_at_call 154; refine (ia _ _ (by first | exact o3 | exact o3.drew) (by have := HN.out; omega)).mono ?_; rintro e w4 ⟨rfl, o4⟩; have s4 : w4.cell? ⟨bOn, 0, none⟩ = some (.func (.func 154) #[] #[.pointer (some ⟨bAt, 0, none⟩), .pointer (some ⟨bOn, 0, none⟩)]) := o4.2.2.cell 0))) | fail
          all_goals
            go_wp2_with fail
            go_ret
            rw [HC.out]
            exact ⟨rfl, by rw [← Nat.add_assoc]; exact o4⟩
        | true =>
          have HC := Lib.hid (check_both c1 c2 c3)
          have ia := fun (W : World) (m : Nat) (X : OnAt w0 W bAt bOn m) (hm : m + a.size ≤ 1000000) => iha hta X hm
          have ib := fun (W : World) (m : Nat) (X : OnAt w0 W bAt bOn m) (hm : m + b.size ≤ 1000000) => ihb htb X hm
          rw [c3] at ia
          have HN := Lib.hid hn
          have HL := Lib.hid hca
          generalize hcb : (checkT b).2 = rb at ib
          have HCB := Lib.hid hcb
          clear iha ihb hn hca hcb
          go_enter Try.func154, Try.ntmps154
          go_wp2_with fail
          refine (left_at (hat.ext ho.1)).mono ?_; rintro e w' ⟨rfl, rfl⟩
          go_wp2_with fail
          refine (ha _ ho.1).mono ?_; rintro e w1 ⟨rfl, x1⟩
          have ho1 := ho.ext x1
          go_wp2_with fail
          refine (right_at (hat.ext ho1.1)).mono ?_; rintro e w' ⟨rfl, rfl⟩
          go_wp2_with fail
          refine (hb _ ho1.1).mono ?_; rintro e w2 ⟨rfl, x2⟩
          obtain ⟨y2, b2, f2⟩ := ho1.ext x2
          have e1 := b2.cell 0
          have e2 := b2.frozen 0
          have e3 := f2.cell 0
          have hn9 : (n : Int) ≤ 1000000 := by have := HN.out; omega
          go_wp2_with fail
          have o3 : OnAt w0 (w2.setCell ⟨bAt, 0, none⟩ (.int .i64 ((n : Int) + 1))) bAt bOn (n + 1) := ⟨y2.set (p := ⟨bAt, 0, none⟩) hA _, by have := b2.set 0 (.int .i64 ((n : Int) + 1)); simpa using this, f2.far (p := ⟨bAt, 0, none⟩) hne' _⟩
          have s3 : (w2.setCell ⟨bAt, 0, none⟩ (.int .i64 ((n : Int) + 1))).cell? ⟨bOn, 0, none⟩ = some (.func (.func 154) #[] #[.pointer (some ⟨bAt, 0, none⟩), .pointer (some ⟨bOn, 0, none⟩)]) := o3.2.2.cell 0
          clear b2 f2 e1 e2 e3
          generalize w2.setCell ⟨bAt, 0, none⟩ (.int .i64 ((n : Int) + 1)) = w3 at *
          go_region_held3 (fun w' => w'.cell? ⟨bOn, 0, none⟩ = some (.func (.func 154) #[] #[.pointer (some ⟨bAt, 0, none⟩), .pointer (some ⟨bOn, 0, none⟩)])) (go_keep)
            (first
              | (go_at_call 37; refine (left_at (by first | exact hat.ext o3.1 | exact hat.ext o3.drew.1)).mono ?_; rintro e w' ⟨rfl, rfl⟩)
              | (go_at_call_of 154 (Value.pointer pa); refine (ia _ _ (by first | exact o3 | exact o3.drew) (by have := HN.out; omega)).mono ?_; rintro e w4 ⟨rfl, o4⟩; have s4 : w4.cell? ⟨bOn, 0, none⟩ = some (.func (.func 154) #[] #[.pointer (some ⟨bAt, 0, none⟩), .pointer (some ⟨bOn, 0, none⟩)]) := o4.2.2.cell 0)
              | (go_at_call 38; refine (right_at (by first | exact hat.ext o4.1 | exact hat.ext o4.drew.1)).mono ?_; rintro e w' ⟨rfl, rfl⟩)
              | (go_at_call_of 154 (Value.pointer pb); refine (ib _ _ (by first | exact o4 | exact o4.drew) (by have h1 := HN.out; have h2 := HL.out; omega)).mono ?_; rintro e w5 ⟨rfl, o5⟩; have s5 : w5.cell? ⟨bOn, 0, none⟩ = some (.func (.func 154) #[] #[.pointer (some ⟨bAt, 0, none⟩), .pointer (some ⟨bOn, 0, none⟩)]) := o5.2.2.cell 0))
          go_wp2_with fail
          go_ret
          rw [HC.out]
          exact ⟨congrArg (fun c => Ending.returned (.bool c)) HCB.out.symm, by rw [show n + (1 + (checkT a).1 + (checkT b).1) = n + 1 + (checkT a).1 + (checkT b).1 from by omega]; exact o5⟩

def errT (t : T) : Int := if mayT t then 0 else 8
set_option maxRecDepth 100000 in
set_option maxHeartbeats 1000000 in
theorem checkN_any {t : T} {v : Value} {w : World} (h : Tr w v t) (hs : t.size ≤ 100000) : Calls Try.prog 80 #[v] w fun e w' => e = .returned (.tuple #[.int .i64 ((checkT t).1 : Int), .int .i64 (errT t)]) ∧ Ext w w' := by
  have hne : ¬ w.heap.size = w.heap.size + 1 := by omega
  have on := fun (W : World) (X : OnAt w W w.heap.size (w.heap.size + 1) 0) => on_any w w.heap.size (w.heap.size + 1) (Nat.le_refl _) hne t h X (by omega)
  rw [Nat.zero_add] at on
  obtain ⟨p, rfl⟩ := h.ptr
  have HO := Lib.hid on
  clear on
  have ho : OnAt w ((w.alloc (.cells #[.int .i64 0] 3)).alloc (.cells #[onF w.heap.size (w.heap.size + 1)] 85)) w.heap.size (w.heap.size + 1) 0 :=
    ⟨((Ext.refl w).alloc _).alloc _, (Blk.new w _ _).alloc _, by have := Blk.new (w.alloc (.cells #[.int .i64 0] 3)) 85 #[onF w.heap.size (w.heap.size + 1)]; rwa [alloc_size] at this⟩
  cases hm : (checkT t).2 with
  | true =>
    have he : errT t = 0 := by simp [errT, mayT, hm]
    rw [he]
    go_enter Try.func80, Try.ntmps80
    go_wp2_with fail
    refine (HO.out _ ho).mono ?_; rintro e w1 ⟨rfl, x1, b1, f1⟩
    rw [hm]
    have c1 := b1.cell 0
    have f1 := b1.frozen 0
    go_wp2_with fail
    have b2 := b1.set 0 (.int .i64 ((checkT t).1 : Int))
    have d0 := b2.cell 0
    have y2 := x1.set (p := ⟨w.heap.size, 0, none⟩) (Nat.le_refl _) (.int .i64 ((checkT t).1 : Int))
    generalize w1.setCell ⟨w.heap.size, 0, none⟩ (.int .i64 ((checkT t).1 : Int)) = w2 at *
    exact bodyPost_ret (v := .tuple #[.int .i64 ((checkT t).1 : Int), .int .i64 0]) (by simp [results, Try.results80, go_sem, d0]) rfl ⟨rfl, y2⟩
  | false =>
    have he : errT t = 8 := by simp [errT, mayT, hm]
    rw [he]
    go_enter Try.func80, Try.ntmps80
    go_wp2_with fail
    refine (HO.out _ ho).mono ?_; rintro e w1 ⟨rfl, x1, b1, f1⟩
    rw [hm]
    have c1 := b1.cell 0
    have f1 := b1.frozen 0
    go_wp2_with fail
    have b2 := b1.set 0 (.int .i64 ((checkT t).1 : Int))
    have d0 := b2.cell 0
    have y2 := x1.set (p := ⟨w.heap.size, 0, none⟩) (Nat.le_refl _) (.int .i64 ((checkT t).1 : Int))
    generalize w1.setCell ⟨w.heap.size, 0, none⟩ (.int .i64 ((checkT t).1 : Int)) = w2 at *
    exact bodyPost_ret (v := .tuple #[.int .i64 ((checkT t).1 : Int), .int .i64 8]) (by simp [results, Try.results80, go_sem, d0]) rfl ⟨rfl, y2⟩

set_option maxHeartbeats 1000000 in
theorem mayN_any {t : T} {v : Value} {w : World} (h : Tr w v t) (hs : t.size ≤ 100000) : Calls Try.prog 82 #[v] w fun e w' => e = .returned (.bool (mayT t)) ∧ Ext w w' := by
  have hc := fun (W : World) (X : Ext w W) => checkN_any (h.ext X) hs
  have he : errT t = if mayT t then 0 else 8 := rfl
  cases hm : mayT t <;> (
    rw [hm] at he
    simp only [if_true, Bool.false_eq_true, if_false] at he
    rw [he] at hc
    go_enter Try.func82, Try.ntmps82
    go_wp2_with fail
    refine (hc _ (Ext.refl w)).mono ?_; rintro e w1 ⟨rfl, x1⟩
    go_wp2_with fail
    go_ret
    exact ⟨rfl, x1⟩)

/-- Is each tag that of its key? -/
def mixedT : T → Bool
  | .nil => true
  | .node k _ g l r => decide (g = ((ofB k).toNat : Int)) && mixedT l && mixedT r
set_option maxHeartbeats 2000000 in
theorem mixedN_any (t : T) : ∀ {v : Value} {w : World}, Tr w v t → Calls Try.prog 87 #[v] w fun e w' => e = .returned (.bool (mixedT t)) ∧ Ext w w' := by
  induction t with
  | nil =>
    intro v w h
    obtain rfl : v = .pointer none := h
    go_enter Try.func87, Try.ntmps87
    go_wp2_with fail
    go_ret
    exact ⟨rfl, Ext.refl w⟩
  | node k x g a b iha ihb =>
    intro v w h
    have hv := h
    obtain ⟨bn, ua, ub, rfl, hat, hta, htb⟩ := h
    obtain ⟨pa, rfl⟩ := hta.ptr
    obtain ⟨pb, rfl⟩ := htb.ptr
    have ia := fun (W : World) (X : Ext w W) => iha (hta.ext X)
    have ib := fun (W : World) (X : Ext w W) => ihb (htb.ext X)
    have tg := fun (W : World) (X : Ext w W) => tag_any (hv.ext X)
    have ky := fun (W : World) (X : Ext w W) => key_any (hv.ext X)
    simp only [T.tag, T.key] at tg ky
    have ho := fun (W : World) => of_any k W
    unfold U at ho
    have hd : mixedT (.node k x g a b) = (decide (g = ((ofB k).toNat : Int)) && mixedT a && mixedT b) := rfl
    rw [hd]
    generalize ((ofB k).toNat : Int) = n at *
    clear iha ihb hd
    by_cases c1 : g = n
    · subst c1
      cases hma : mixedT a with
      | true =>
        rw [hma] at ia
        generalize mixedT b = mb at ib
        rw [show (decide (g = g) && true && mb) = mb from by simp]
        go_enter Try.func87, Try.ntmps87
        go_wp2_with fail
        refine (tg _ (Ext.refl w)).mono ?_; rintro e w1 ⟨rfl, x1⟩
        go_wp2_with fail
        refine (ky _ x1).mono ?_; rintro e w2 ⟨rfl, x2⟩
        have y2 := x1.trans x2
        go_wp2_with fail
        refine (ho _).mono ?_; rintro e w3 ⟨rfl, x3⟩
        have y3 := y2.trans x3
        go_wp2_with fail
        refine (left_at (hat.ext y3)).mono ?_; rintro e w' ⟨rfl, rfl⟩
        go_wp2_with fail
        refine (ia _ y3).mono ?_; rintro e w4 ⟨rfl, x4⟩
        have y4 := y3.trans x4
        go_wp2_with fail
        refine (right_at (hat.ext y4)).mono ?_; rintro e w' ⟨rfl, rfl⟩
        go_wp2_with fail
        refine (ib _ y4).mono ?_; rintro e w5 ⟨rfl, x5⟩
        have y5 := y4.trans x5
        go_wp2_with fail
        go_ret
        exact ⟨rfl, y5⟩
      | false =>
        rw [hma] at ia
        rw [show (decide (g = g) && false && mixedT b) = false from by simp]
        go_enter Try.func87, Try.ntmps87
        go_wp2_with fail
        refine (tg _ (Ext.refl w)).mono ?_; rintro e w1 ⟨rfl, x1⟩
        go_wp2_with fail
        refine (ky _ x1).mono ?_; rintro e w2 ⟨rfl, x2⟩
        have y2 := x1.trans x2
        go_wp2_with fail
        refine (ho _).mono ?_; rintro e w3 ⟨rfl, x3⟩
        have y3 := y2.trans x3
        go_wp2_with fail
        refine (left_at (hat.ext y3)).mono ?_; rintro e w' ⟨rfl, rfl⟩
        go_wp2_with fail
        refine (ia _ y3).mono ?_; rintro e w4 ⟨rfl, x4⟩
        have y4 := y3.trans x4
        go_wp2_with fail
        go_ret
        exact ⟨rfl, y4⟩
    · rw [show (decide (g = n) && mixedT a && mixedT b) = false from by simp [c1]]
      have hb : (g == n) = false := by simpa using c1
      clear c1
      go_enter Try.func87, Try.ntmps87
      go_wp2_with fail
      refine (tg _ (Ext.refl w)).mono ?_; rintro e w1 ⟨rfl, x1⟩
      go_wp2_with fail
      refine (ky _ x1).mono ?_; rintro e w2 ⟨rfl, x2⟩
      have y2 := x1.trans x2
      go_wp2_with fail
      refine (ho _).mono ?_; rintro e w3 ⟨rfl, x3⟩
      have y3 := y2.trans x3
      go_wp2_with fail
      go_ret
      exact ⟨rfl, y3⟩
end Go.Proofs.Ytlehcagpddgamaa
