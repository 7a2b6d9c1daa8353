/- treapjoin.Most; joineryref21: All, Joined; joinerylaw21: long. -/
import Derived.Test.YtlehcagpddgamaaJoin
import Derived.Test.YtlehcagpddgamaaWalk20
namespace Go.Proofs.Ytlehcagpddgamaa
open Go.RowKit

def sideR : T → Nat
  | .nil => 0
  | .node _ _ _ _ r => 1 + sideR r
def sideL : T → Nat
  | .nil => 0
  | .node _ _ _ l _ => 1 + sideL l
theorem sideR_le : ∀ t : T, sideR t ≤ t.size
  | .nil => Nat.le_refl _
  | .node _ _ _ l r => by have := sideR_le r; simp only [sideR, T.size]; omega
theorem sideL_le : ∀ t : T, sideL t ≤ t.size
  | .nil => Nat.le_refl _
  | .node _ _ _ l r => by have := sideL_le l; simp only [sideL, T.size]; omega
set_option maxHeartbeats 2000000 in
theorem wayR_any {t : T} {v : Value} {w : World} (h : Tr w v t) (hs : t.size ≤ 1000000) : Calls Try.prog 158 #[v, .func (.func 38) #[] #[]] w fun e w' => e = .returned (.int .i64 (sideR t : Int)) ∧ w' = w := by
  have hb := sideR_le t
  go_enter Try.func158, Try.ntmps158
  go_wp2_with fail
  go_loopw [0, 4] (fun tv i wr => ∃ (k : Nat) (u : T), i = .int .i64 (k : Int) ∧ Tr w tv u ∧ k + sideR u = sideR t ∧ wr = w) (fun _ i _ => sideR t - (intOf i).toNat)
  case atStart => exact ⟨0, t, rfl, h, by omega, rfl⟩
  case round =>
    obtain ⟨k, u, rfl, hu, hk, rfl⟩ := hrel
    obtain ⟨p, rfl⟩ := hu.ptr
    have hn := neq_nil hu
    cases u with
    | nil =>
      simp only [T.some] at hn
      have hk2 : sideR t = k := by simp only [sideR] at hk; omega
      go_wp2_with fail
      go_ret
      exact ⟨by rw [hk2]; rfl, rfl⟩
    | node a b c d r =>
      simp only [T.some] at hn
      obtain ⟨bn, ul, ur, hbn, hat, tl, tr⟩ := hu
      obtain rfl : p = some ⟨bn, 0, none⟩ := by simpa using hbn
      obtain ⟨pl, rfl⟩ := tl.ptr
      obtain ⟨pr, rfl⟩ := tr.ptr
      simp only [sideR] at hk
      have hk9 : (k : Int) ≤ 1000000 := by omega
      go_wp2_with fail
      refine (right_at hat).mono ?_; rintro e w' ⟨rfl, rfl⟩
      go_wp2_with fail
      exact ⟨⟨k + 1, r, by go_num, tr, by omega, by first | rfl | trivial⟩, by simp [intOf]; omega⟩
set_option maxHeartbeats 2000000 in
theorem wayL_any {t : T} {v : Value} {w : World} (h : Tr w v t) (hs : t.size ≤ 1000000) : Calls Try.prog 158 #[v, .func (.func 37) #[] #[]] w fun e w' => e = .returned (.int .i64 (sideL t : Int)) ∧ w' = w := by
  have hb := sideL_le t
  go_enter Try.func158, Try.ntmps158
  go_wp2_with fail
  go_loopw [0, 4] (fun tv i wr => ∃ (k : Nat) (u : T), i = .int .i64 (k : Int) ∧ Tr w tv u ∧ k + sideL u = sideL t ∧ wr = w) (fun _ i _ => sideL t - (intOf i).toNat)
  case atStart => exact ⟨0, t, rfl, h, by omega, rfl⟩
  case round =>
    obtain ⟨k, u, rfl, hu, hk, rfl⟩ := hrel
    obtain ⟨p, rfl⟩ := hu.ptr
    have hn := neq_nil hu
    cases u with
    | nil =>
      simp only [T.some] at hn
      have hk2 : sideL t = k := by simp only [sideL] at hk; omega
      go_wp2_with fail
      go_ret
      exact ⟨by rw [hk2]; rfl, rfl⟩
    | node a b c d r =>
      simp only [T.some] at hn
      obtain ⟨bn, ul, ur, hbn, hat, tl, tr⟩ := hu
      obtain rfl : p = some ⟨bn, 0, none⟩ := by simpa using hbn
      obtain ⟨pl, rfl⟩ := tl.ptr
      obtain ⟨pr, rfl⟩ := tr.ptr
      simp only [sideL] at hk
      have hk9 : (k : Int) ≤ 1000000 := by omega
      go_wp2_with fail
      refine (left_at hat).mono ?_; rintro e w' ⟨rfl, rfl⟩
      go_wp2_with fail
      exact ⟨⟨k + 1, d, by go_num, tl, by omega, by first | rfl | trivial⟩, by simp [intOf]; omega⟩
set_option maxHeartbeats 2000000 in
theorem most_any {l r : T} {vl vr : Value} {w : World} (hl : Tr w vl l) (hr : Tr w vr r) (h1 : l.size ≤ 1000000) (h2 : r.size ≤ 1000000) :
    Calls Try.prog 92 #[vl, vr] w fun e w' => e = .returned (.int .i64 ((sideR l : Int) + sideL r + 1)) ∧ w' = w := by
  have b1 := sideR_le l
  have b2 := sideL_le r
  go_enter Try.func92, Try.ntmps92
  go_wp2_with fail
  refine (wayR_any hl h1).mono ?_; rintro e w' ⟨rfl, rfl⟩
  go_wp2_with fail
  refine (wayL_any hr h2).mono ?_; rintro e w' ⟨rfl, rfl⟩
  go_wp2_with fail
  go_ret
  exact ⟨rfl, rfl⟩

set_option maxRecDepth 100000 in
set_option maxHeartbeats 4000000 in
theorem all21_any {a b : T} {la lb : List Bead} {va vb : Value} (x : Item) {w : World} (ha : Sl Bead.enc w va la) (sa : Ser la a) (hb : Sl Bead.enc w vb lb) (sb : Ser lb b) (h1 : a.height ≤ 5001) (h2 : b.height ≤ 5001) (h3 : la.length ≤ 10000) (h4 : lb.length ≤ 10000) :
    Calls Try.prog 151 #[va, .agg #[.int .i64 x.key, .int .i64 x.val, .int .u64 x.tag], vb] w (Gives (fun v' w' => Own Item.enc 70 3 w.heap.size w' v' (a.items ++ x :: b.items)) w) := by
  have hza := sa.length
  have hzb := sb.length
  have hl1 := a.items_length
  have hl2 := b.items_length
  have y1 := (Ext.refl w).alloc (.cells #[.int .i64 x.key, .int .i64 x.val, .int .u64 x.tag] 70)
  have k1 := Blk.new w 70 #[.int .i64 x.key, .int .i64 x.val, .int .u64 x.tag]
  have IA := Lib.hid (fun (W : World) (X : Ext w W) => refItems_any a (ha.ext X) sa h1 (by omega))
  have IB := Lib.hid (fun (W : World) (X : Ext w W) => refItems_any b (hb.ext X) sb h2 (by omega))
  clear ha sa hb sb
  go_enter Try.func151, Try.ntmps151
  go_wp2_with fail
  generalize w.alloc (.cells #[.int .i64 x.key, .int .i64 x.val, .int .u64 x.tag] 70) = W0 at *
  generalize hB : w.heap.size = bx at *
  have HC := Lib.hid (show ∀ W : World, Ext W0 W → W.cell? ⟨bx, 0, none⟩ = some (.int .i64 x.key) ∧ W.cell? ⟨bx, 1, none⟩ = some (.int .i64 x.val) ∧ W.cell? ⟨bx, 2, none⟩ = some (.int .u64 x.tag) from fun W X => by have k := k1.ext X; exact ⟨k.cell 0, k.cell 1, k.cell 2⟩)
  have HY := Lib.hid y1
  have z := Ext.refl W0
  clear k1 y1
  go_region_held3 (fun W => W.cell? ⟨bx, 0, none⟩ = some (.int .i64 x.key) ∧ W.cell? ⟨bx, 1, none⟩ = some (.int .i64 x.val) ∧ W.cell? ⟨bx, 2, none⟩ = some (.int .u64 x.tag)) (first | exact HC.out _ z | exact HC.out _ (Ext.drew z) | exact HC.out _ (Ext.alloc z _) | exact HC.out _ (Ext.alloc (Ext.drew z) _) | exact HC.out _ z2 | exact HC.out _ (Ext.alloc z2 _) | exact HC.out _ z4)
    (first
      | (go_at_call 86; refine (IA.out _ (HY.out.trans (by first | exact z | exact Ext.drew z | exact (Ext.drew z).alloc _ | exact z.alloc _))).mono ?_; rintro e w2 ⟨ua, rfl, x2, oa⟩; have oa : Own Item.enc 70 3 W0.heap.size w2 ua a.items := Own.mono oa (by first | exact z.size | exact (Ext.drew z).size | exact ((Ext.drew z).alloc _).size | exact (z.alloc _).size); have sl9 := (by first | exact (lit_sl (enc := Item.enc) x rfl).ext ((Ext.refl (World.alloc _ _)).drew.trans x2) | exact True.intro); have z2 : Ext W0 w2 := (by first | exact Ext.trans z x2 | exact (Ext.drew z).trans x2 | exact ((Ext.drew z).alloc _).trans x2 | exact (z.alloc _).trans x2))
      | (have hgd := oa
         have hs9 : ∃ sv, Sl Item.enc w2 sv [x] := ⟨_, sl9⟩
         rw [if_pos (by rfl)]
         go_must (refine wp_app itemE (v := ua) (.tmp 9) (.tmp 11) rfl rfl rfl oa sl9 ?hm3 ?hm4 z2.size ?_
                  (case hm3 => simp only [maxLen, List.length_singleton]; omega)
                  (case hm4 => simp only [List.length_singleton]; omega)
                  intro v4 w4 o4 a4
                  have z4 := AppTo.ext a4 z2 oa))
      | (have hgd := oa
         rw [if_pos (by rfl)]
         go_must (refine wp_app itemE (v := ua) (.tmp 9) (.tmp 11) rfl rfl rfl (oa.ext ((Ext.refl _).alloc _)) (lit_sl (enc := Item.enc) x rfl) ?hm3 ?hm4 (z2.alloc _).size ?_
                  (case hm3 => simp only [maxLen, List.length_singleton]; omega)
                  (case hm4 => simp only [List.length_singleton]; omega)
                  intro v4 w4 o4 a4
                  have z4 := AppTo.ext a4 (z2.alloc _) (oa.ext ((Ext.refl _).alloc _))))
      | fail)
  all_goals
    have y4 := HY.out.trans z4
    go_wp2_with fail
    refine (IB.out _ y4).mono ?_; rintro e w5 ⟨ub, rfl, x5, ob⟩
    have hb0 : w.heap.size ≤ W0.heap.size := HY.out.size
    go_wp2_with (at_builtin; go_must (refine wpList_app itemE rfl (.tmp 13) (.tmp 15) rfl rfl rfl (Own.mono (o4.ext x5) hb0) (ob.sl Item.enc_len (by omega)) ?h1 ?h2 (y4.trans x5).size ?_); (case h1 => simp only [maxLen, List.length_append, List.length_singleton]; omega); (case h2 => simp only [List.length_append, List.length_singleton]; omega); intro v6 w6 o6 a6; have x6 := AppTo.ext a6 (y4.trans x5) (Own.mono (o4.ext x5) hb0))
    go_ret
    exact ⟨_, rfl, x6, by rw [← hB]; simpa using o6⟩
end Go.Proofs.Ytlehcagpddgamaa
