/- Contracts of joinerylaw09: Make. -/
import Derived.Test.YtgpegcjgmoiglaaDoorBead2
import Derived.Test.YtgpegcjgmoiglaaDoorAppend
import Derived.Deep.RegionHeld3
namespace Go.Proofs.YtgpegcjgmoiglaaDoor
open Go.RowKit

theorem ser_parts {l : List Bead} {k x g : Int} {a b : T} (h : Ser l (.node k x g a b)) (hh : (T.node k x g a b).height ≤ 5001) :
    ∃ y la lb, l = y :: (la ++ lb) ∧ y.key = k ∧ y.val = x ∧ y.tag = g ∧ y.left = a.some ∧ y.right = b.some ∧ Ser la a ∧ Ser lb b ∧
      (y.left = true → endsS 5001 (la ++ lb) = some la.length) ∧ (y.left = false → la = []) := by
  obtain ⟨y, la, lb, rfl, e1, e2, e3, e4, e5, sa, sb⟩ := h
  simp only [T.height] at hh
  refine ⟨y, la, lb, rfl, e1, e2, e3, e4, e5, sa, sb, fun h => ?_, fun h => ?_⟩
  · rw [h] at e4
    exact endsS_of e4.symm (by omega) sa
  · rw [h] at e4
    cases a with
    | nil => exact sa
    | node => cases e4

set_option maxHeartbeats 1000000 in
theorem make_any (t : T) : ∀ {l : List Bead} {v : Value} {w : World}, Sl Bead.enc w v l → Ser l t → t.height ≤ 5001 → l.length ≤ 1000000 →
    Calls Tryd.prog 10 #[v] w (Gives (fun v w' => Tr w' v t) w) := by
  induction t with
  | nil =>
    intro l v w h hs _ _
    obtain rfl : l = [] := hs
    obtain ⟨A, c, rfl, hc, hr⟩ := h
    go_enter Tryd.func10, Tryd.ntmps10
    go_wp2_with fail
    go_ret
    exact ⟨_, rfl, Ext.refl w, rfl⟩
  | node k x g a b iha ihb =>
    intro l v w h hs hh hm
    obtain ⟨y, la, lb, hl, rfl, rfl, rfl, e4, e5, sa, sb, p1, p2⟩ := ser_parts hs hh
    have hlen : 0 < l.length := by rw [hl]; simp
    have hla : la.length ≤ 1000000 := by rw [hl] at hm; simp at hm; omega
    have hlb : lb.length ≤ 1000000 := by rw [hl] at hm; simp at hm; omega
    simp only [T.height] at hh
    have hp := fun (W : World) (X : Ext w W) => parts_any (h.ext X) hl hm p1 p2
    have hz : ((l.length : Int) == 0) = false := by simp; intro h; rw [h] at hlen; simp at hlen
    obtain ⟨A, c, rfl, hc, hr⟩ := h
    have HP := Lib.hid hp
    clear hp hl p1 p2 e4 e5 hs
    go_enter Tryd.func10, Tryd.ntmps10
    go_wp2_with fail
    refine (HP.out _ (Ext.refl w)).mono ?_; rintro e w1 ⟨va, vb, rfl, ha, hb, x1⟩
    go_wp2_with fail
    go_region_held3 (fun w' => w'.cell? ⟨w1.heap.size, 0, none⟩ = some (.int .i64 y.key) ∧ w'.cell? ⟨w1.heap.size, 1, none⟩ = some (.int .i64 y.val) ∧ w'.cell? ⟨w1.heap.size, 4, none⟩ = some (.int .u64 y.tag)) (go_keep)
      (first
        | (go_at_call_of 10 va; refine (iha (ha.ext (x1.alloc _).drew) sa (by omega) hla).mono ?_; rintro e w2 ⟨ua, rfl, x2, ta⟩; have k2 := fun o : Nat => x2.cell (p := ⟨w1.heap.size, o, none⟩) (by simp))
        | (go_at_call_of 10 vb; refine (ihb (hb.ext ((x1.alloc _).drew.trans x2)) sb (by omega) hlb).mono ?_; rintro e w3 ⟨ub, rfl, x3, tb⟩; have k3 := fun o : Nat => (x2.trans x3).cell (p := ⟨w1.heap.size, o, none⟩) (by simp))
        | (go_at_call 25; refine (new_any _ _ _ (ta.ext x3) tb).mono ?_; rintro e w4 ⟨u, rfl, x4, bn, rfl, hbn, hat⟩; have k4 := fun o : Nat => ((x2.trans x3).trans x4).cell (p := ⟨w1.heap.size, o, none⟩) (by simp)))
    go_wp2_with fail
    go_ret
    exact ⟨_, rfl, (((x1.alloc _).drew.trans x2).trans x3).trans x4, bn, ua, ub, rfl, hat, ta.ext (x3.trans x4), tb.ext x4⟩
end Go.Proofs.YtgpegcjgmoiglaaDoor
