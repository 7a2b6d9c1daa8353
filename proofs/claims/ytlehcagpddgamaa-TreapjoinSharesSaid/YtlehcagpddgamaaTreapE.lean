/- joineryref20: Items, Mixed, Unlike. -/
import Derived.Test.YtlehcagpddgamaaTreapD
namespace Go.Proofs.Ytlehcagpddgamaa
open Go.RowKit

set_option maxRecDepth 100000 in
set_option maxHeartbeats 4000000 in
theorem refItems_any (t : T) : ∀ {l : List Bead} {v : Value} {w : World}, Sl Bead.enc w v l → Ser l t → t.height ≤ 5001 → l.length ≤ 100000 →
    Calls Try.prog 86 #[v] w (Gives (fun v' w' => Own Item.enc 70 3 w.heap.size w' v' t.items) w) := by
  induction t with
  | nil =>
    intro l v w h hs _ _
    obtain rfl : l = [] := hs
    obtain ⟨A, c, rfl, hc, hr⟩ := h
    go_enter Try.func86, Try.ntmps86
    go_wp2_with fail
    go_ret
    exact ⟨_, rfl, Ext.refl w, Own.nil_ w _ _⟩
  | node k x g a b iha ihb =>
    intro l v w h hs hh hm
    have hl1 := a.items_length
    have hl2 := b.items_length
    obtain ⟨y, la, lb, hl, rfl, rfl, rfl, e4, e5, sa, sb, p1, p2⟩ := ser_parts hs hh
    have hlen : 0 < l.length := by rw [hl]; simp
    have hla : la.length ≤ 100000 := by rw [hl] at hm; simp at hm; omega
    have hlb : lb.length ≤ 100000 := by rw [hl] at hm; simp at hm; omega
    have hza := sa.length
    have hzb := sb.length
    simp only [T.height] at hh
    have hp := fun (W : World) (X : Ext w W) => parts_any (h.ext X) hl (by omega) p1 p2
    have hz : ((l.length : Int) == 0) = false := by simp; intro h; rw [h] at hlen; simp at hlen
    obtain ⟨A, c, rfl, hc, hr⟩ := h
    have HP := Lib.hid hp
    have IA := fun (W : World) (va : Value) (X : Sl Bead.enc W va la) => iha X sa (by omega) hla
    have IB := fun (W : World) (vb : Value) (X : Sl Bead.enc W vb lb) => ihb X sb (by omega) hlb
    have hn1 : a.items.length ≤ 100000 := by omega
    have hn2 : b.items.length ≤ 100000 := by omega
    clear hp hl p1 p2 hs iha ihb e4 e5 hla hlb sa sb hh hza hzb hl1 hl2
    go_enter Try.func86, Try.ntmps86
    go_wp2_with fail
    refine (HP.out _ (Ext.refl w)).mono ?_; rintro e w1 ⟨va, vb, rfl, ha, hb, x1⟩
    go_wp2_with fail
    have y1 := x1.alloc (.cells #[.int .i64 y.key, .int .i64 y.val, .int .i64 y.sum, .int .i64 y.size, .int .u64 y.tag, .bool y.left, .bool y.right] 138)
    have b1 := Blk.new w1 138 #[.int .i64 y.key, .int .i64 y.val, .int .i64 y.sum, .int .i64 y.size, .int .u64 y.tag, .bool y.left, .bool y.right]
    generalize w1.alloc (.cells #[.int .i64 y.key, .int .i64 y.val, .int .i64 y.sum, .int .i64 y.size, .int .u64 y.tag, .bool y.left, .bool y.right] 138) = W0 at *
    generalize w1.heap.size = p at *
    have hcell : ∀ W : World, Ext W0 W → W.cell? ⟨p, 0, none⟩ = some (.int .i64 y.key) ∧ W.cell? ⟨p, 1, none⟩ = some (.int .i64 y.val) ∧ W.cell? ⟨p, 2, none⟩ = some (.int .i64 y.sum) ∧ W.cell? ⟨p, 3, none⟩ = some (.int .i64 y.size) ∧ W.cell? ⟨p, 4, none⟩ = some (.int .u64 y.tag) ∧ W.cell? ⟨p, 5, none⟩ = some (.bool y.left) ∧ W.cell? ⟨p, 6, none⟩ = some (.bool y.right) := by
      intro W X
      have B := b1.ext X
      exact ⟨B.cell 0, B.cell 1, B.cell 2, B.cell 3, B.cell 4, B.cell 5, B.cell 6⟩
    have HC := Lib.hid hcell
    have HY := Lib.hid y1
    have y0 := Ext.refl W0
    clear hcell b1 y1
    go_region_held3 (fun W => W.cell? ⟨p, 0, none⟩ = some (.int .i64 y.key) ∧ W.cell? ⟨p, 1, none⟩ = some (.int .i64 y.val) ∧ W.cell? ⟨p, 2, none⟩ = some (.int .i64 y.sum) ∧ W.cell? ⟨p, 3, none⟩ = some (.int .i64 y.size) ∧ W.cell? ⟨p, 4, none⟩ = some (.int .u64 y.tag) ∧ W.cell? ⟨p, 5, none⟩ = some (.bool y.left) ∧ W.cell? ⟨p, 6, none⟩ = some (.bool y.right)) (first | exact HC.out _ y0 | exact HC.out _ (Ext.drew y0) | exact HC.out _ (Ext.alloc y0 _) | exact HC.out _ z4)
      (first
        | (go_at_call 86; refine (IA _ va (by first | exact ha.ext (HY.out.trans y0) | exact ha.ext (HY.out.trans (Ext.drew y0)))).mono ?_; rintro e w2 ⟨ua, rfl, x2, oa⟩; have oa : Own Item.enc 70 3 W0.heap.size w2 ua a.items := Own.mono oa (by first | exact y0.size | exact (Ext.drew y0).size); have y0 := (by first | exact Ext.trans y0 x2 | exact (Ext.drew y0).trans x2))
        | (go_at_call 157; refine (refItem_raw _ _ _ _ _ _ _ _).mono ?_; rintro e w3 ⟨rfl, x3⟩; have hgi := True.intro; have oa := oa.ext x3; have y0 := Ext.trans y0 x3)
        | (have hgd := hgi
           rw [if_pos (by rfl)]
           go_must (refine wp_app itemE (v := ua) (.tmp 17) (.tmp 20) rfl rfl rfl (oa.ext ((Ext.refl _).alloc _)) (lit_sl (enc := Item.enc) ⟨y.key, y.val, y.tag⟩ rfl) ?hm3 ?hm4 (y0.alloc _).size ?_
                    (case hm3 => simp only [maxLen, List.length_singleton]; omega)
                    (case hm4 => simp only [List.length_singleton]; omega)
                    intro v4 w4 o4 a4
                    have z4 := AppTo.ext a4 (y0.alloc _) (oa.ext ((Ext.refl _).alloc _))))
        | fail)
    have y4 := HY.out.trans z4
    go_wp2_with fail
    refine (IB _ vb (hb.ext y4)).mono ?_; rintro e w5 ⟨ub, rfl, x5, ob⟩
    go_wp2_with (at_builtin; refine wpList_app itemE rfl (.tmp 22) (.tmp 24) rfl rfl rfl (Own.mono (o4.ext x5) HY.out.size) (ob.sl Item.enc_len (by omega)) ?h1 ?h2 (y4.trans x5).size ?_; (case h1 => simp only [maxLen, List.length_append, List.length_singleton]; omega); (case h2 => simp only [List.length_append, List.length_singleton]; omega); intro v6 w6 o6 a6; have x6 := AppTo.ext a6 (y4.trans x5) (Own.mono (o4.ext x5) HY.out.size))
    go_ret
    exact ⟨_, rfl, x6, by simpa [T.items] using o6⟩
end Go.Proofs.Ytlehcagpddgamaa
