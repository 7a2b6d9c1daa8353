/- Contracts of joinerylaw09: Make; which nodes it makes. -/
import Derived.Test.YtlehcagpddgamaaMake
import Derived.Test.YtlehcagpddgamaaGrS
namespace Go.Proofs.Ytlehcagpddgamaa
open Go.RowKit

/-- Just so many nodes, all of them made since then. -/
def NewG (w w' : World) (v : Value) (t : T) : Prop := ∃ g, GrS w' v g ∧ g.ids.Nodup ∧ g.ids.length = t.size ∧ ∀ i ∈ g.ids, w.heap.size ≤ i
theorem newG_nil (w w' : World) : NewG w w' (.pointer none) .nil := ⟨.nil, rfl, by simp [G.ids], rfl, by simp [G.ids]⟩
theorem newG_nd {w W1 w2 w3 w4 : World} {ua ub : Value} {a b : T} {bn : Nat} {k x g : Int} (h0 : w.heap.size ≤ W1.heap.size) (x1 : Ext W1 w2) (na : NewG W1 w2 ua a) (x2 : Ext w2 w3) (nb : NewG w2 w3 ub b) (x3 : Ext w3 w4) (hbn : w3.heap.size ≤ bn)
    (hat : At w4 bn k x g a b ua ub) : NewG w w4 (.pointer (some ⟨bn, 0, none⟩)) (.node k x g a b) := by
  obtain ⟨ga, a1, a2, a3, a4⟩ := na
  obtain ⟨gb, b1, b2, b3, b4⟩ := nb
  have la := a1.lt
  have lb := b1.lt
  have s1 := x1.size
  have s2 := x2.size
  refine ⟨.nd bn ga gb, ⟨_, _, _, _, _, _, _, rfl, hat, (a1.ext x2).ext x3, b1.ext x3⟩, ?_, by simp [G.ids, T.size, a3, b3]; omega, ?_⟩
  · simp only [G.ids, List.nodup_cons, List.nodup_append, List.mem_append, not_or]
    refine ⟨⟨fun h => ?_, fun h => ?_⟩, a2, b2, ?_⟩
    · have := la bn h; omega
    · have := lb bn h; omega
    · rintro i hi j hj rfl
      have := la i hi
      have := b4 i hj
      omega
  · intro i hi
    simp only [G.ids, List.mem_cons, List.mem_append] at hi
    rcases hi with rfl | hi | hi
    · omega
    · have := a4 i hi; omega
    · have := b4 i hi; omega

set_option maxHeartbeats 1000000 in
theorem make_anyS (t : T) : ∀ {l : List Bead} {v : Value} {w : World}, Sl Bead.enc w v l → Ser l t → t.height ≤ 5001 → l.length ≤ 1000000 →
    Calls Try.prog 33 #[v] w (Gives (fun v w' => Tr w' v t ∧ NewG w w' v t) w) := by
  induction t with
  | nil =>
    intro l v w h hs _ _
    obtain rfl : l = [] := hs
    obtain ⟨A, c, rfl, hc, hr⟩ := h
    go_enter Try.func33, Try.ntmps33
    go_wp2_with fail
    go_ret
    exact ⟨_, rfl, Ext.refl w, rfl, newG_nil _ _⟩
  | node k x g a b iha ihb =>
    intro l v w h hs hh hm
    obtain ⟨y, la, lb, hl, rfl, rfl, rfl, e4, e5, sa, sb, p1, p2⟩ := ser_parts hs hh
    have hlen : 0 < l.length := by rw [hl]; simp
    have hla : la.length ≤ 1000000 := by rw [hl] at hm; simp at hm; omega
    have hlb : lb.length ≤ 1000000 := by rw [hl] at hm; simp at hm; omega
    simp only [T.height] at hh
    have hp := fun (W : World) (X : Ext w W) => parts_any (h.ext X) hl hm p1 p2
    have hz : ((l.length : Int) == 0) = false := by simp; intro h; rw [h] at hlen; simp at hlen
    obtain ⟨A, c, rfl, hc, hr⟩ := h
    have HP := Lib.hid hp
    clear hp hl p1 p2 e4 e5 hs
    go_enter Try.func33, Try.ntmps33
    go_wp2_with fail
    refine (HP.out _ (Ext.refl w)).mono ?_; rintro e w1 ⟨va, vb, rfl, ha, hb, x1⟩
    go_wp2_with fail
    go_region_held3 (fun w' => w'.cell? ⟨w1.heap.size, 0, none⟩ = some (.int .i64 y.key) ∧ w'.cell? ⟨w1.heap.size, 1, none⟩ = some (.int .i64 y.val) ∧ w'.cell? ⟨w1.heap.size, 4, none⟩ = some (.int .u64 y.tag)) (go_keep)
      (first
        | (go_at_call_of 33 va; refine (iha (ha.ext (x1.alloc _).drew) sa (by omega) hla).mono ?_; rintro e w2 ⟨ua, rfl, x2, ta, na⟩; have k2 := fun o : Nat => x2.cell (p := ⟨w1.heap.size, o, none⟩) (by simp))
        | (go_at_call_of 33 vb; refine (ihb (hb.ext ((x1.alloc _).drew.trans x2)) sb (by omega) hlb).mono ?_; rintro e w3 ⟨ub, rfl, x3, tb, nb⟩; have k3 := fun o : Nat => (x2.trans x3).cell (p := ⟨w1.heap.size, o, none⟩) (by simp))
        | (go_at_call 35; refine (new_any _ _ _ (ta.ext x3) tb).mono ?_; rintro e w4 ⟨u, rfl, x4, bn, rfl, hbn, hat⟩; have k4 := fun o : Nat => ((x2.trans x3).trans x4).cell (p := ⟨w1.heap.size, o, none⟩) (by simp)))
    go_wp2_with fail
    go_ret
    exact ⟨_, rfl, (((x1.alloc _).drew.trans x2).trans x3).trans x4, ⟨bn, ua, ub, rfl, hat, ta.ext (x3.trans x4), tb.ext x4⟩, newG_nd ((x1.alloc _).drew).size x2 na x3 nb x4 hbn hat⟩
end Go.Proofs.Ytlehcagpddgamaa
