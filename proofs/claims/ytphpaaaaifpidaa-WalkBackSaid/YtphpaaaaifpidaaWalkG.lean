/- Package walk: Copy, First, Last. -/
import Derived.Test.YtphpaaaaifpidaaWalkF
namespace Go.Proofs.Ytphpaaaaifpidaa
open Go.RowKit
set_option linter.unusedVariables false

/-- A walk of its own: none of its blocks was there. -/
def NewW (w w' : World) (B : Nat) (a : A) (p : Int) : Prop := Ext w w' ∧ Wks (fun b => b < w.heap.size) w' B a p
theorem new_wk {w w1 : World} {sv : Value} {a : A} {s : List (A × Bool)} {p : Int} (x1 : Ext w w1) (ho : Own ES 93 2 w.heap.size w1 sv s) (hs : WkS a p s) :
    NewW w (w1.alloc (.cells #[.pointer a.ptr, sv, .int .i64 p] 89)) w1.heap.size a p := by
  refine ⟨x1.alloc _, s, hs, sv, Blk.new w1 _ _, (Own.mono ho (Nat.zero_le _)).ext ((Ext.refl w1).alloc _), fun k hk => ?_, ?_⟩
  · have := ho.lt k hk
    exact ⟨by omega, by omega⟩
  · have := x1.size; omega
theorem Wks.sub {P Q : Nat → Prop} {w : World} {B : Nat} {a : A} {p : Int} (h : Wks P w B a p) (hQ : ∀ k, Q k → P k) : Wks Q w B a p := by
  obtain ⟨s, h1, sv, h2, h3, h4, h5⟩ := h
  exact ⟨s, h1, sv, h2, h3, fun k hk => ⟨fun hq => (h4 k hk).1 (hQ k hq), (h4 k hk).2⟩, fun hq => h5 (hQ _ hq)⟩
theorem Wks.lt {P : Nat → Prop} {w : World} {B : Nat} {a : A} {p : Int} (h : Wks P w B a p) : B < w.heap.size ∧ ¬ P B := by
  obtain ⟨s, h1, sv, h2, h3, h4, h5⟩ := h
  exact ⟨h2.lt, h5⟩
/-- Another walk's blocks are kept. -/
theorem Wks.keep {P Q : Nat → Prop} {w w' : World} {B : Nat} {a : A} {p : Int} (h : Wks P w B a p) (k : Keep Q w w') (hQ : ∀ b, b < w.heap.size → ¬ P b → Q b) : Wks P w' B a p := by
  obtain ⟨s, h1, sv, h2, h3, h4, h5⟩ := h
  refine ⟨s, h1, sv, k.blk h2 (hQ B h2.lt h5), h3.same (fun j hj => ?_), h4, h5⟩
  have := h3.lt j hj
  exact k.block j this.2 (hQ j this.2 (h4 j hj).1)

set_option maxRecDepth 100000 in
set_option maxHeartbeats 4000000 in
theorem copy_any {P : Nat → Prop} {a : A} {p : Int} {w : World} {B : Nat} (hk : Wks P w B a p) (hm : a.size ≤ 100000) :
    Calls Try.prog 39 #[.pointer (some ⟨B, 0, none⟩)] w fun e w' => ∃ B', e = .returned (.pointer (some ⟨B', 0, none⟩)) ∧ NewW w w' B' a p := by
  have q := eql_walk B
  obtain ⟨s, hs, hk⟩ := hk
  have hl := (wks_len hs).1
  obtain ⟨AA, c, c0, c1, c2, ff, hBl⟩ := hk.cells
  have hsl : ∃ sv, w.cell? ⟨B, 1, none⟩ = some sv ∧ Sl ES w sv s := by
    obtain ⟨sv, h2, h3, h4, h5⟩ := hk
    exact ⟨sv, h2.cell 1, h3.sl ES_len (by omega)⟩
  obtain ⟨sv, hsv, hsl⟩ := hsl
  obtain rfl : sv = .slice AA s.length c := by rw [hsv] at c1; injection c1
  have HC := Lib.hid (fun (W : World) (X : Ext w W) => (show W.cell? ⟨B, 0, none⟩ = some (.pointer a.ptr) ∧ W.cell? ⟨B, 1, none⟩ = some (.slice AA s.length c) ∧ W.cell? ⟨B, 2, none⟩ = some (.int .i64 p) from ⟨(X.cell (p := ⟨B, 0, none⟩) hBl).trans c0, (X.cell (p := ⟨B, 1, none⟩) hBl).trans c1, (X.cell (p := ⟨B, 2, none⟩) hBl).trans c2⟩))
  have KE := Lib.hid (fun (W : World) (X : Ext w W) => kept_sl (hsl.ext X) (by omega))
  have HS := Lib.hid hs
  have y0 := Ext.refl w
  clear c0 c1 c2 ff hk hsl hsv hl hm hs
  go_enter Try.func39, Try.ntmps39
  go_wp2_with fail
  go_region_held3 (fun W => W.cell? ⟨B, 0, none⟩ = some (.pointer a.ptr) ∧ W.cell? ⟨B, 1, none⟩ = some (.slice AA s.length c) ∧ W.cell? ⟨B, 2, none⟩ = some (.int .i64 p)) (first | exact HC.out _ y0 | exact HC.out _ (Ext.drew y0) | exact HC.out _ (Ext.alloc y0 _))
    (first
      | (go_at_call 62; refine (KE.out _ (by first | exact y0 | exact Ext.drew y0)).mono ?_; rintro e wa ⟨A1, cc1, rfl, xa, oa⟩; have oa := oa.mono (by first | exact y0.size | exact (Ext.drew y0).size); have y0 := (by first | exact Ext.trans y0 xa | exact (Ext.drew y0).trans xa))
      | fail)
  all_goals
    go_wp2_with fail
    go_ret
    exact ⟨_, rfl, new_wk y0 oa HS.out⟩

theorem spine_len (d : Bool) : ∀ a : A, (spine d a).length ≤ a.size
  | .nil => Nat.le_refl _
  | .node b k x g l r => by
    have h1 := spine_len d l
    have h2 := spine_len d r
    cases d <;> simp only [spine, A.size, List.length_cons, if_true, Bool.false_eq_true, if_false] <;> omega
set_option maxRecDepth 100000 in
set_option maxHeartbeats 4000000 in
theorem first_any {a : A} {w : World} (ha : AP (fun b => b < w.heap.size) w a) (hm : a.size ≤ 100000) :
    Calls Try.prog 24 #[.pointer a.ptr] w fun e w' => ∃ B, e = .returned (.pointer (some ⟨B, 0, none⟩)) ∧ NewW w w' B a 0 := by
  have HA := Lib.hid ha
  have W0 : Wk (fun b => b < w.heap.size) (w.alloc (.cells #[.pointer a.ptr, .slice none 0 0, .int .i64 0] 89)) w.heap.size a [] 0 :=
    ⟨_, Blk.new w _ _, Own.nil_ _ _ _, fun k hk => by simp [Value.ownBlock] at hk, by omega⟩
  have k0 : Keep (fun b => b < w.heap.size) w (w.alloc (.cells #[.pointer a.ptr, .slice none 0 0, .int .i64 0] 89)) := ((Ext.refl w).alloc _).keep _
  have DW := Lib.hid (down_any W0 (ha.keep k0) (fun b hb => Nat.lt_of_lt_of_le hb k0.size) (by simp; omega) false)
  clear ha W0
  go_enter Try.func24, Try.ntmps24
  go_wp2_with fail
  refine DW.out.mono ?_; rintro e w1 ⟨rfl, W1, k1⟩
  go_wp2_with fail
  go_ret
  exact ⟨_, rfl, (k0.trans k1).ext (Ext.refl w) (fun k hk => hk), _, WkS.first a, by simpa using W1⟩
set_option maxRecDepth 100000 in
set_option maxHeartbeats 4000000 in
theorem last_any {a : A} {w : World} (ha : AP (fun b => b < w.heap.size) w a) (hm : a.size ≤ 100000) :
    Calls Try.prog 34 #[.pointer a.ptr] w fun e w' => ∃ B, e = .returned (.pointer (some ⟨B, 0, none⟩)) ∧ NewW w w' B a ((a.size : Int) - 1) := by
  have SZ := sizeA ha (by omega)
  have DW := Lib.hid (fun (W : World) (X : Ext w W) => down_any (P := fun b => b < w.heap.size) (a := a) (n := a) (s := []) (p := (a.size : Int) - 1) (w := W.alloc (.cells #[.pointer a.ptr, .slice none 0 0, .int .i64 ((a.size : Int) - 1)] 89)) (B := W.heap.size)
    ⟨_, Blk.new W _ _, Own.nil_ _ _ _, fun k hk => by simp [Value.ownBlock] at hk, by have := X.size; omega⟩ (ha.keep ((X.alloc _).keep _)) (fun b hb => Nat.lt_of_lt_of_le hb (X.alloc _).size) (by simp; omega) true)
  clear ha
  go_enter Try.func34, Try.ntmps34
  go_wp2_with fail
  refine SZ.mono ?_; rintro e w1 ⟨rfl, x1⟩
  go_wp2_with fail
  refine (DW.out _ x1).mono ?_; rintro e w2 ⟨rfl, W1, k1⟩
  go_wp2_with fail
  go_ret
  exact ⟨_, rfl, (((x1.alloc _).keep _).trans k1).ext (Ext.refl w) (fun k hk => hk), _, WkS.last a, by simpa using W1⟩
end Go.Proofs.Ytphpaaaaifpidaa
