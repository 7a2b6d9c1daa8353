/- PAIRS: the pairs of a tree; joineryref09's Pairs. -/
import Derived.Test.YtphpaaaaifpidaaKeyR
import Derived.Test.YtphpaaaaifpidaaBead2
import Derived.Test.YtphpaaaaifpidaaOf
import Derived.Deep.RegionHeld3
import Derived.IntWalk
namespace Go.Proofs.Ytphpaaaaifpidaa
open Go.RowKit
set_option linter.unusedVariables false

/-- The cells of a pair, of a bound. -/
def EP (p : Int × Int) : List Value := [.int .i64 p.1, .int .i64 p.2]
theorem EP_len (p : Int × Int) : (EP p).length = 2 := rfl
theorem pairE : Elem Try.prog 44 48 2 16 EP := by
  have h : (Try.prog.info? 48).map (fun i => (i.zero, i.size, i.bytes)) = some (some (.agg #[.int .i64 0, .int .i64 0]), 2, 16) := by kernel_rfl
  obtain ⟨i0, hi, hz0, hz1, hz2⟩ := info_parts h
  refine ⟨Try.underlying44, ⟨i0, _, hi, hz0, hz1, hz2, rfl⟩, by omega, EP_len, fun x u hu => ?_⟩
  simp only [EP, List.mem_cons, List.not_mem_nil, or_false] at hu
  rcases hu with rfl | rfl <;> rfl
/-- The pairs of a tree, from left to right. -/
def T.pairs : T → List (Int × Int)
  | .nil => []
  | .node k x _ l r => l.pairs ++ (k, x) :: r.pairs
theorem T.pairs_length : ∀ t : T, t.pairs.length = t.size
  | .nil => rfl
  | .node k x g l r => by simp [T.pairs, T.size, T.pairs_length l, T.pairs_length r]; omega
theorem T.pairs_keys : ∀ t : T, t.pairs.map Prod.fst = t.keys
  | .nil => rfl
  | .node k x g l r => by simp [T.pairs, T.keys, T.pairs_keys l, T.pairs_keys r]
set_option maxRecDepth 100000 in
set_option maxHeartbeats 4000000 in
theorem refPairs_any (t : T) : ∀ {l : List Bead} {v : Value} {w : World}, Sl Bead.enc w v l → Ser l t → t.height ≤ 5001 → l.length ≤ 100000 →
    Calls Try.prog 25 #[v] w (Gives (fun v' w' => Own EP 48 2 w.heap.size w' v' t.pairs) w) := by
  induction t with
  | nil =>
    intro l v w h hs _ _
    obtain rfl : l = [] := hs
    obtain ⟨A, c, rfl, hc, hr⟩ := h
    go_enter Try.func25, Try.ntmps25
    go_wp2_with fail
    go_ret
    exact ⟨_, rfl, Ext.refl w, Own.nil_ w _ _⟩
  | node k x g a b iha ihb =>
    intro l v w h hs hh hm
    have hl1 := a.pairs_length
    have hl2 := b.pairs_length
    obtain ⟨y, la, lb, hl, rfl, rfl, rfl, e4, e5, sa, sb, p1, p2⟩ := ser_parts hs hh
    have hlen : 0 < l.length := by rw [hl]; simp
    have hla : la.length ≤ 100000 := by rw [hl] at hm; simp at hm; omega
    have hlb : lb.length ≤ 100000 := by rw [hl] at hm; simp at hm; omega
    have hza := sa.length
    have hzb := sb.length
    simp only [T.height] at hh
    have hp := fun (W : World) (X : Ext w W) => parts_any (h.ext X) hl (by omega) p1 p2
    have hz : ((l.length : Int) == 0) = false := by simp; intro h; rw [h] at hlen; simp at hlen
    obtain ⟨A, c, rfl, hc, hr⟩ := h
    have HP := Lib.hid hp
    have IA := fun (W : World) (va : Value) (X : Sl Bead.enc W va la) => iha X sa (by omega) hla
    have IB := fun (W : World) (vb : Value) (X : Sl Bead.enc W vb lb) => ihb X sb (by omega) hlb
    have hn1 : a.pairs.length ≤ 100000 := by omega
    have hn2 : b.pairs.length ≤ 100000 := by omega
    clear hp hl p1 p2 hs iha ihb e4 e5 hla hlb sa sb hh hza hzb hl1 hl2
    go_enter Try.func25, Try.ntmps25
    go_wp2_with fail
    refine (HP.out _ (Ext.refl w)).mono ?_; rintro e w1 ⟨va, vb, rfl, ha, hb, x1⟩
    go_wp2_with fail
    have y1 := x1.alloc (.cells #[.int .i64 y.key, .int .i64 y.val, .int .i64 y.sum, .int .i64 y.size, .int .u64 y.tag, .bool y.left, .bool y.right] 73)
    have b1 := Blk.new w1 73 #[.int .i64 y.key, .int .i64 y.val, .int .i64 y.sum, .int .i64 y.size, .int .u64 y.tag, .bool y.left, .bool y.right]
    generalize w1.alloc (.cells #[.int .i64 y.key, .int .i64 y.val, .int .i64 y.sum, .int .i64 y.size, .int .u64 y.tag, .bool y.left, .bool y.right] 73) = W0 at *
    generalize w1.heap.size = p at *
    have hcell : ∀ W : World, Ext W0 W → W.cell? ⟨p, 0, none⟩ = some (.int .i64 y.key) ∧ W.cell? ⟨p, 1, none⟩ = some (.int .i64 y.val) := by
      intro W X
      have B := b1.ext X
      exact ⟨B.cell 0, B.cell 1⟩
    have HC := Lib.hid hcell
    have HY := Lib.hid y1
    have y0 := Ext.refl W0
    clear hcell b1 y1
    have yl := (Ext.alloc y0 (.cells #[.int .i64 y.key, .int .i64 y.val] 48)).drew
    go_region_held3 (fun W => W.cell? ⟨p, 0, none⟩ = some (.int .i64 y.key) ∧ W.cell? ⟨p, 1, none⟩ = some (.int .i64 y.val)) (first | exact HC.out _ y0 | exact HC.out _ (Ext.drew y0) | exact HC.out _ (Ext.alloc y0 _) | exact HC.out _ yl | exact HC.out _ z4)
      (first
        | (go_at_call 25; refine (IA _ va (ha.ext (HY.out.trans yl))).mono ?_; rintro e w2 ⟨ua, rfl, x2, oa⟩; have oa : Own EP 48 2 W0.heap.size w2 ua a.pairs := Own.mono oa yl.size; have sl := (lit_sl (enc := EP) (w := W0) (cs := #[.int .i64 y.key, .int .i64 y.val]) (e := 48) (y.key, y.val) rfl).ext ((Ext.refl _).drew.trans x2); have y0 := yl.trans x2; have hgj := True.intro)
        | (go_at_call 25; refine (IA _ va (ha.ext (HY.out.trans (Ext.drew y0)))).mono ?_; rintro e w2 ⟨ua, rfl, x2, oa⟩; have oa : Own EP 48 2 W0.heap.size w2 ua a.pairs := Own.mono oa (Ext.drew y0).size; have y0 := (Ext.drew y0).trans x2; have hgk := True.intro)
        | (have hgd := hgj
           rw [if_pos (by rfl)]
           go_must (refine wp_app pairE (v := ua) (.tmp 17) (.tmp 23) rfl rfl rfl oa sl ?hm3 ?hm4 y0.size ?_
                    (case hm3 => simp only [maxLen, List.length_singleton]; omega)
                    (case hm4 => simp only [List.length_singleton]; omega)
                    intro v4 w4 o4 a4
                    have z4 := AppTo.ext a4 y0 oa))
        | (have hgd := hgk
           rw [if_pos (by rfl)]
           go_must (refine wp_app pairE (v := ua) (.tmp 17) (.tmp 23) rfl rfl rfl (oa.ext ((Ext.refl _).alloc _)) (lit_sl (enc := EP) (y.key, y.val) rfl) ?hm3 ?hm4 (y0.alloc _).size ?_
                    (case hm3 => simp only [maxLen, List.length_singleton]; omega)
                    (case hm4 => simp only [List.length_singleton]; omega)
                    intro v4 w4 o4 a4
                    have z4 := AppTo.ext a4 (y0.alloc _) (oa.ext ((Ext.refl _).alloc _))))
        | fail)
    all_goals
      have y4 := HY.out.trans z4
      go_wp2_with fail
      refine (IB _ vb (hb.ext y4)).mono ?_; rintro e w5 ⟨ub, rfl, x5, ob⟩
      go_wp2_with (at_builtin; refine wpList_app pairE rfl (.tmp 25) (.tmp 27) rfl rfl rfl (Own.mono (o4.ext x5) HY.out.size) (ob.sl EP_len (by omega)) ?h1 ?h2 (y4.trans x5).size ?_; (case h1 => simp only [maxLen, List.length_append, List.length_singleton]; omega); (case h2 => simp only [List.length_append, List.length_singleton]; omega); intro v6 w6 o6 a6; have x6 := AppTo.ext a6 (y4.trans x5) (Own.mono (o4.ext x5) HY.out.size))
      go_ret
      exact ⟨_, rfl, x6, by simpa [T.pairs] using o6⟩
end Go.Proofs.Ytphpaaaaifpidaa
