/- Contract of (*node.Node).With; the examples of joinerylaw09. -/
import Derived.Test.YtlehcagpddgamaaSee
namespace Go.Proofs.Ytlehcagpddgamaa
open Go.RowKit

theorem neq_kept (k x s g z k' x' s' : Int) (w : World) : (binOp .neq 143 (.agg #[.int .i64 k, .int .i64 x, .int .i64 s, .int .u64 g, .int .i64 z])
   (.agg #[.int .i64 k', .int .i64 x', .int .i64 s', .int .u64 g, .int .i64 z])).run Try.prog w = .ok (.bool (!decide (k = k' ∧ x = x' ∧ s = s'))) w := by
  go_simp
  (repeat' split) <;> simp [*]

theorem with_nil (k x : Int) (w : World) : Calls Try.prog 36 #[.pointer none, .int .i64 k, .int .i64 x] w fun e w' => e = .returned (.pointer none) ∧ w = w' := by
  go_enter Try.func36, Try.ntmps36
  go_wp2_with fail
  go_ret
  exact ⟨rfl, rfl⟩

theorem sum_with {k x g k' : Int} {l r : T} : T.sum (.node k x g l r) = T.sum (.node k' x g l r) := rfl
set_option maxHeartbeats 2000000 in
theorem with_at {b : Nat} {k x g : Int} {l r : T} {pl pr : Option Addr} (k' x' : Int) {w : World} (ha : At w b k x g l r (.pointer pl) (.pointer pr)) (hl : Tr w (.pointer pl) l) (hr : Tr w (.pointer pr) r) :
    Calls Try.prog 36 #[.pointer (some ⟨b, 0, none⟩), .int .i64 k', .int .i64 x'] w
      (Gives (fun v w' => ∃ bn, v = .pointer (some ⟨bn, 0, none⟩) ∧ w.heap.size ≤ bn ∧ At w' bn k' x' g l r (.pointer pl) (.pointer pr)) w) := by
  obtain ⟨hlt, h0, h1, h2, h3, h4, h5, h6⟩ := ha.cells
  by_cases hE : k' = k ∧ x' = x
  · obtain ⟨rfl, rfl⟩ := hE
    have hn : ∀ W : World, (binOp .neq 143 (.agg #[.int .i64 k', .int .i64 x', .int .i64 (wrap64 (T.sum (.node k' x' g l r))), .int .u64 g, .int .i64 (wrap64 (T.size (.node k' x' g l r) : Nat))]) (.agg #[.int .i64 k', .int .i64 x', .int .i64 (wrap64 (T.sum (.node k' x' g l r))), .int .u64 g, .int .i64 (wrap64 (T.size (.node k' x' g l r) : Nat))])).run Try.prog W = .ok (.bool false) W := fun W => by rw [show (wrap64 (T.size (.node k' x' g l r) : Nat)) = wrap64 (T.size (.node k' x' g l r) : Nat) from rfl, neq_kept]; simp
    go_enter Try.func36, Try.ntmps36
    go_wp2_with fail
    go_region_held3 (fun w' => w'.cell? ⟨b, 5, none⟩ = some (.pointer pl) ∧ w'.cell? ⟨b, 3, none⟩ = some (.int .u64 g) ∧ w'.cell? ⟨b, 6, none⟩ = some (.pointer pr)) (go_keep)
      (first
        | (go_at_call 35; go_must (refine (new_any _ _ _ (hl.ext (Ext.refl _).drew) (hr.ext (Ext.refl _).drew)).mono ?_; rintro e w1 ⟨u, rfl, x1, bn, rfl, hbn, hat⟩; have k2 := fun o : Nat => x1.cell (p := ⟨b, o, none⟩) (by simp <;> omega)))
        | fail)
    have x1' : Ext w w1 := (Ext.refl w).drew.trans x1
    obtain ⟨e0, e1, e2, e3, e4, e5, e6, e7⟩ := hat.cells
    have g0 := (x1'.cell (p := ⟨b, 0, none⟩) hlt).trans h0
    have g1 := (x1'.cell (p := ⟨b, 1, none⟩) hlt).trans h1
    have g2 := (x1'.cell (p := ⟨b, 2, none⟩) hlt).trans h2
    have g3 := (x1'.cell (p := ⟨b, 3, none⟩) hlt).trans h3
    have g4 := (x1'.cell (p := ⟨b, 4, none⟩) hlt).trans h4
    have g5 := (x1'.cell (p := ⟨b, 5, none⟩) hlt).trans h5
    have g6 := (x1'.cell (p := ⟨b, 6, none⟩) hlt).trans h6
    go_wp2_with fail
    go_quiet (fail)
    have xW := x1'.drewN nq
    have G0 : (w1.drewN nq).cell? ⟨b, 0, none⟩ = _ := g0
    have G1 : (w1.drewN nq).cell? ⟨b, 1, none⟩ = _ := g1
    have G2 : (w1.drewN nq).cell? ⟨b, 2, none⟩ = _ := g2
    have G3 : (w1.drewN nq).cell? ⟨b, 3, none⟩ = _ := g3
    have G4 : (w1.drewN nq).cell? ⟨b, 4, none⟩ = _ := g4
    have G5 : (w1.drewN nq).cell? ⟨b, 5, none⟩ = _ := g5
    have G6 : (w1.drewN nq).cell? ⟨b, 6, none⟩ = _ := g6
    clear e0 e1 e2 e3 e4 e5 e6 e7 g0 g1 g2 g3 g4 g5 g6
    generalize w1.drewN nq = W at xW G0 G1 G2 G3 G4 G5 G6 ⊢
    have hltW : b < W.heap.size := Nat.lt_of_lt_of_le hlt xW.size
    go_wp2_with fail
    go_ret
    refine ⟨_, rfl, ?_, _, rfl, ?_, ?_⟩
    · exact xW.alloc _
    · exact xW.size
    · exact Blk.new _ _ _
  · have hn : ∀ W : World, (binOp .neq 143 (.agg #[.int .i64 k', .int .i64 x', .int .i64 (wrap64 (T.sum (.node k' x' g l r))), .int .u64 g, .int .i64 (wrap64 (T.size (.node k' x' g l r) : Nat))]) (.agg #[.int .i64 k, .int .i64 x, .int .i64 (wrap64 (T.sum (.node k x g l r))), .int .u64 g, .int .i64 (wrap64 (T.size (.node k x g l r) : Nat))])).run Try.prog W = .ok (.bool true) W := fun W => by rw [show (wrap64 (T.size (.node k x g l r) : Nat)) = wrap64 (T.size (.node k' x' g l r) : Nat) from rfl, neq_kept]; simp; (by_cases e1 : k' = k; (exact Or.inr (Or.inl fun e2 => hE ⟨e1, e2⟩)); (exact Or.inl e1))
    go_enter Try.func36, Try.ntmps36
    go_wp2_with fail
    go_region_held3 (fun w' => w'.cell? ⟨b, 5, none⟩ = some (.pointer pl) ∧ w'.cell? ⟨b, 3, none⟩ = some (.int .u64 g) ∧ w'.cell? ⟨b, 6, none⟩ = some (.pointer pr)) (go_keep)
      (first
        | (go_at_call 35; go_must (refine (new_any _ _ _ (hl.ext (Ext.refl _).drew) (hr.ext (Ext.refl _).drew)).mono ?_; rintro e w1 ⟨u, rfl, x1, bn, rfl, hbn, hat⟩; have k2 := fun o : Nat => x1.cell (p := ⟨b, o, none⟩) (by simp <;> omega)))
        | fail)
    have x1' : Ext w w1 := (Ext.refl w).drew.trans x1
    obtain ⟨e0, e1, e2, e3, e4, e5, e6, e7⟩ := hat.cells
    have g0 := (x1'.cell (p := ⟨b, 0, none⟩) hlt).trans h0
    have g1 := (x1'.cell (p := ⟨b, 1, none⟩) hlt).trans h1
    have g2 := (x1'.cell (p := ⟨b, 2, none⟩) hlt).trans h2
    have g3 := (x1'.cell (p := ⟨b, 3, none⟩) hlt).trans h3
    have g4 := (x1'.cell (p := ⟨b, 4, none⟩) hlt).trans h4
    have g5 := (x1'.cell (p := ⟨b, 5, none⟩) hlt).trans h5
    have g6 := (x1'.cell (p := ⟨b, 6, none⟩) hlt).trans h6
    go_wp2_with fail
    go_quiet (fail)
    go_wp2_with fail
    go_ret
    exact ⟨_, rfl, x1'.drewN nq, bn, rfl, hbn, Blk.drewN hat nq⟩
end Go.Proofs.Ytlehcagpddgamaa
