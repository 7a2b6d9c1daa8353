/- Contracts of joineryref09: Of, Node. -/
import Derived.Test.YtgpegcjgmoiglaaDoorSum
import Derived.Test.YtgpegcjgmoiglaaDoorMake
import Derived.WalkSpells
namespace Go.Proofs.YtgpegcjgmoiglaaDoor
open Go.RowKit

theorem Bead.one (x : Bead) : ∀ u ∈ x.enc, u.oneCell' = true := by
  intro u hu
  simp only [Bead.enc, List.mem_cons, List.not_mem_nil, or_false] at hu
  rcases hu with rfl | rfl | rfl | rfl | rfl | rfl | rfl <;> rfl
theorem beadE : Elem Tryd.prog 22 44 7 48 Bead.enc := by
  obtain ⟨i0, hi, hz0, hz1, hz2⟩ := info_parts info_bead
  exact ⟨Tryd.underlying22, ⟨i0, _, hi, hz0, hz1, hz2, rfl⟩, by omega, Bead.enc_len, Bead.one⟩

/-- Beads with their sizes and sums. -/
def bOf (t : T) : List Bead := ofT wrap64 t
theorem bOf_length (t : T) : (bOf t).length = t.size := ofT_length _ t

set_option maxRecDepth 100000 in
set_option maxHeartbeats 2000000 in
theorem of_beads (t : T) : ∀ {l : List Bead} {v : Value} {w : World}, Sl Bead.enc w v l → Ser l t → t.height ≤ 5001 → l.length ≤ 100000 →
    Calls Tryd.prog 11 #[v] w (Gives (fun v' w' => Own Bead.enc 44 7 w.heap.size w' v' (bOf t)) w) := by
  induction t with
  | nil =>
    intro l v w h hs _ _
    obtain rfl : l = [] := hs
    obtain ⟨A, c, rfl, hc, hr⟩ := h
    go_enter Tryd.func11, Tryd.ntmps11
    go_wp2_with fail
    go_ret
    exact ⟨.slice none 0 0, rfl, Ext.refl w, Own.nil_ w _ _⟩
  | node k x g a b iha ihb =>
    intro l v w h hs hh hm
    have hsz := hs.length
    have hsum := sumL_ser hs
    obtain ⟨y, la, lb, hl, rfl, rfl, rfl, e4, e5, sa, sb, p1, p2⟩ := ser_parts hs hh
    have hlen : 0 < l.length := by rw [hl]; simp
    have hla : la.length ≤ 100000 := by rw [hl] at hm; simp at hm; omega
    have hlb : lb.length ≤ 100000 := by rw [hl] at hm; simp at hm; omega
    simp only [T.height] at hh
    have hp := fun (W : World) (X : Ext w W) => parts_any (h.ext X) hl (by omega) p1 p2
    have hsm := fun (W : World) (X : Ext w W) => sumL_any (h.ext X) (by omega)
    rw [hsum] at hsm
    have hz : ((l.length : Int) == 0) = false := by simp; intro h; rw [h] at hlen; simp at hlen
    obtain ⟨A, c, rfl, hc, hr⟩ := h
    have HP := Lib.hid hp
    have HS := Lib.hid hsm
    have HZ := Lib.hid hsz
    have HE := Lib.hid (And.intro e4 e5)
    clear hp hl p1 p2 e4 e5 hs hsm hsz hsum
    generalize hT : T.sum (.node y.key y.val y.tag a b) = ts at HS
    have HT := Lib.hid hT
    clear hT
    go_enter Tryd.func11, Tryd.ntmps11
    go_wp2_with fail
    refine (HP.out _ (Ext.refl w)).mono ?_; rintro e w1 ⟨va, vb, rfl, ha, hb, x1⟩
    go_wp2_with fail
    refine (HS.out _ ?hx).mono ?_
    case hx => exact x1.alloc _
    rintro e w' ⟨rfl, rfl⟩
    go_wp2_with fail
    have hW : ∀ cs : Obj, Ext w (w1.alloc cs) := fun cs => x1.alloc cs
    have hbase : w.heap.size ≤ w1.heap.size := x1.size
    have hla' : (bOf a).length ≤ 100000 := by rw [bOf_length, ← sa.length]; exact hla
    have hlb' : (bOf b).length ≤ 100000 := by rw [bOf_length, ← sb.length]; exact hlb
    go_region_held3 (fun w' => w'.cell? ⟨w1.heap.size, 0, none⟩ = some (.int .i64 y.key) ∧ w'.cell? ⟨w1.heap.size, 1, none⟩ = some (.int .i64 y.val) ∧ w'.cell? ⟨w1.heap.size, 2, none⟩ = some (.int .i64 (wrap64 ts)) ∧
       w'.cell? ⟨w1.heap.size, 3, none⟩ = some (.int .i64 (l.length : Int)) ∧ w'.cell? ⟨w1.heap.size, 4, none⟩ = some (.int .u64 y.tag) ∧ w'.cell? ⟨w1.heap.size, 5, none⟩ = some (.bool y.left) ∧ w'.cell? ⟨w1.heap.size, 6, none⟩ = some (.bool y.right)) (go_keep)
      (first
        | (go_at_call 11; refine (iha (ha.ext ?hx1) sa (by omega) hla).mono ?_; (case hx1 => repeat (first | exact x1 | refine Ext.drew ?_ | refine Ext.alloc ?_ _)); rintro e w2 ⟨ua, rfl, x2, oa⟩; have k2 := fun o : Nat => x2.cell (p := ⟨w1.heap.size, o, none⟩) (by simp <;> omega); have s2 : w1.heap.size + 1 ≤ w2.heap.size := (by have := x2.size; simp at this; omega))
        | (have hgd := oa
           have hlt := lit_then (e := 44) Bead.enc_len { y with size := (l.length : Int), sum := wrap64 ts } rfl (x1.alloc _) x2
           obtain ⟨ho2, xw2⟩ := hlt
           rw [alloc_size] at ho2
           rw [if_pos (by rfl)]
           go_must (refine wp_app beadE (v := .slice (some ⟨w1.heap.size + 1, 0, none⟩) 1 1) (.tmp 23) (.tmp 25) rfl rfl rfl ho2 (oa.sl Bead.enc_len (by omega)) ?hm3 ?hm4 xw2.size ?_
                    (case hm3 => simp only [maxLen, List.length_singleton]; omega)
                    (case hm4 => simp only [List.length_singleton]; omega)
                    intro v3 w3 o3 a3
                    have x3 : Ext w w3 := AppTo.ext a3 xw2 ho2
                    have k3 := fun o : Nat => a3.1.cell_far ⟨w1.heap.size, o, none⟩ (show w1.heap.size < w2.heap.size from by omega) (by simp [Value.ownBlock])))
        | (have hgd := oa
           have ho2 := lit_own (e := 44) Bead.enc_len { y with size := (l.length : Int), sum := wrap64 ts } rfl ((x1.alloc _).drew.trans x2)
           have xw2 := ((x1.alloc _).drew.trans x2).alloc (.cells (List.toArray (Bead.enc { y with size := (l.length : Int), sum := wrap64 ts })) 44)
           rw [if_pos (by rfl)]
           go_must (refine wp_app beadE (v := .slice (some ⟨w2.heap.size, 0, none⟩) 1 1) (.tmp 23) (.tmp 25) rfl rfl rfl ho2 ((oa.sl Bead.enc_len (by omega)).ext ((Ext.refl _).alloc _)) ?hm3 ?hm4 xw2.size ?_
                    (case hm3 => simp only [maxLen, List.length_singleton]; omega)
                    (case hm4 => simp only [List.length_singleton]; omega)
                    intro v3 w3 o3 a3
                    have x3 : Ext w w3 := AppTo.ext a3 xw2 ho2
                    have k3 := fun o : Nat => a3.1.cell_far ⟨w1.heap.size, o, none⟩ (Nat.lt_of_lt_of_le (show w1.heap.size < w2.heap.size from by omega) ((Ext.refl w2).alloc _).size) (by simp [Value.ownBlock]; omega)))
        | fail)
    all_goals
      go_wp2_with fail
      refine (ihb (hb.ext x3) sb (by omega) hlb).mono ?_; rintro e w4 ⟨ub, rfl, x4, ob⟩
      go_wp2_with (at_builtin; refine wpList_app beadE rfl (.tmp 27) (.tmp 29) rfl rfl rfl (o3.ext x4) (ob.sl Bead.enc_len (by omega)) ?hm1 ?hm2 (x3.trans x4).size ?_; (case hm1 => simp only [maxLen, List.length_append, List.length_singleton]; omega); (case hm2 => simp only [List.length_append, List.length_singleton]; omega); intro v5 w5 o5 a5; have x5 : Ext w w5 := AppTo.ext a5 (x3.trans x4) (o3.ext x4))
      go_ret
      refine ⟨_, rfl, x5, ?_⟩
      have h1 := HE.out
      have h2 := HZ.out
      have h3 := HT.out
      simp only [bOf, ofT, h3, ← h2, ← h1.1, ← h1.2]
      exact o5
end Go.Proofs.YtgpegcjgmoiglaaDoor
