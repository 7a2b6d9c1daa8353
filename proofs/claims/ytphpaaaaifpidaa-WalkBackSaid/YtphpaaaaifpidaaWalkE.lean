/- Package walk: a walk that stands at a place: goes, Next, Prev, Place, Here, Go. -/
import Derived.Test.YtphpaaaaifpidaaWalkD
namespace Go.Proofs.Ytphpaaaaifpidaa
open Go.RowKit
set_option linter.unusedVariables false

/-- One place on. -/
def moveI (n : Nat) (d : Bool) (p : Int) : Int := if d then (if p < n then p + 1 else p) else (if 0 ≤ p then p - 1 else p)
theorem moveI_range {n : Nat} {d : Bool} {p : Int} (h : -1 ≤ p ∧ p ≤ n) : -1 ≤ moveI n d p ∧ moveI n d p ≤ n := by
  unfold moveI; cases d <;> simp only [if_true, Bool.false_eq_true, if_false] <;> split <;> omega
theorem Wks.range {P : Nat → Prop} {w : World} {B : Nat} {a : A} {p : Int} (h : Wks P w B a p) : -1 ≤ p ∧ p ≤ a.size := by
  obtain ⟨s, h, _⟩ := h; exact h.range
theorem Wks.ext {P : Nat → Prop} {w w' : World} {B : Nat} {a : A} {p : Int} (h : Wks P w B a p) (x : Ext w w') : Wks P w' B a p := by
  obtain ⟨s, h, k⟩ := h; exact ⟨s, h, k.keepB x⟩
theorem here_dec {a : A} {p : Int} {s : List (A × Bool)} (h : WkS a p s) : decide (0 < ((s.length : Nat) : Int)) = decide (0 ≤ p ∧ p < a.size) := by
  rw [decide_eq_decide, ← h.here]; omega
section
variable {P : Nat → Prop} {a : A} {p : Int} {w : World} {B : Nat}
theorem goes_any (d : Bool) (hk : Wks P w B a p) (ha : AP P w a) (hP : ∀ b, P b → b < w.heap.size) (hm : a.size ≤ 100000) :
    Calls Try.prog 61 #[.pointer (some ⟨B, 0, none⟩), .bool d] w fun e w' => e = .returned (.bool (decide (0 ≤ moveI a.size d p ∧ moveI a.size d p < a.size) && decide (moveI a.size d p ≠ p))) ∧ Wks P w' B a (moveI a.size d p) ∧ Keep P w w' := by
  have hr := hk.range
  obtain ⟨s, hs, hk⟩ := hk
  have hl := wks_len hs
  have hn := wks_ap hs ha
  have hn2 : ∀ y ∈ s, AP P w y.1 ∧ y.1.size ≤ 500000 := fun y hy => ⟨(hn y hy).1, by have := hl.2 y hy; omega⟩
  cases d with
  | true =>
    by_cases h : p < a.size
    · have e : moveI a.size true p = p + 1 := by simp [moveI, h]
      rw [e]
      have h1 := hs.next h
      have h2 := here_dec h1
      refine (goes_right hk ha hP hm (by omega) hn2 h (by omega)).mono ?_
      rintro e w' ⟨rfl, h3, h4⟩
      refine ⟨?_, ⟨_, h1, h3⟩, h4⟩
      rw [h2, show decide (p + 1 ≠ p) = true from by simp; omega, Bool.and_true]
    · have e : moveI a.size true p = p := by simp [moveI, h]
      rw [e]
      refine (goes_stay (d := true) hk ha hm (by simp; omega)).mono ?_
      rintro e w' ⟨rfl, x⟩
      exact ⟨by simp, ⟨s, hs, hk.keepB x⟩, x.keep P⟩
  | false =>
    by_cases h : 0 ≤ p
    · have e : moveI a.size false p = p - 1 := by simp [moveI, h]
      rw [e]
      have h1 := hs.prev h
      have h2 := here_dec h1
      refine (goes_left hk ha hP hm (by omega) hn2 h (by omega)).mono ?_
      rintro e w' ⟨rfl, h3, h4⟩
      refine ⟨?_, ⟨_, h1, h3⟩, h4⟩
      rw [h2, show decide (p - 1 ≠ p) = true from by simp; omega, Bool.and_true]
    · have e : moveI a.size false p = p := by simp [moveI, h]
      rw [e]
      refine (goes_stay (d := false) hk ha hm (by simp; omega)).mono ?_
      rintro e w' ⟨rfl, x⟩
      exact ⟨by simp, ⟨s, hs, hk.keepB x⟩, x.keep P⟩
set_option maxHeartbeats 1000000 in
theorem goes_none (d : Bool) (w : World) : Calls Try.prog 61 #[.pointer none, .bool d] w fun e w' => e = .returned (.bool false) ∧ w' = w := by
  go_enter Try.func61, Try.ntmps61
  go_wp2_with fail
  go_ret
  exact ⟨rfl, rfl⟩
theorem next_any (hk : Wks P w B a p) (ha : AP P w a) (hP : ∀ b, P b → b < w.heap.size) (hm : a.size ≤ 100000) :
    Calls Try.prog 28 #[.pointer (some ⟨B, 0, none⟩)] w fun e w' => e = .returned (.bool (decide (0 ≤ moveI a.size true p ∧ moveI a.size true p < a.size) && decide (moveI a.size true p ≠ p))) ∧ Wks P w' B a (moveI a.size true p) ∧ Keep P w w' := by
  have h := goes_any true hk ha hP hm
  generalize (decide (0 ≤ moveI a.size true p ∧ moveI a.size true p < a.size) && decide (moveI a.size true p ≠ p)) = r at *
  generalize moveI a.size true p = p2 at *
  clear hk ha hP hm
  go_enter Try.func28, Try.ntmps28
  go_wp2_with fail
  refine h.mono ?_; rintro e w1 ⟨rfl, h1, h2⟩
  go_wp2_with fail
  go_ret
  exact ⟨rfl, h1, h2⟩
theorem prev_any (hk : Wks P w B a p) (ha : AP P w a) (hP : ∀ b, P b → b < w.heap.size) (hm : a.size ≤ 100000) :
    Calls Try.prog 26 #[.pointer (some ⟨B, 0, none⟩)] w fun e w' => e = .returned (.bool (decide (0 ≤ moveI a.size false p ∧ moveI a.size false p < a.size) && decide (moveI a.size false p ≠ p))) ∧ Wks P w' B a (moveI a.size false p) ∧ Keep P w w' := by
  have h := goes_any false hk ha hP hm
  generalize (decide (0 ≤ moveI a.size false p ∧ moveI a.size false p < a.size) && decide (moveI a.size false p ≠ p)) = r at *
  generalize moveI a.size false p = p2 at *
  clear hk ha hP hm
  go_enter Try.func26, Try.ntmps26
  go_wp2_with fail
  refine h.mono ?_; rintro e w1 ⟨rfl, h1, h2⟩
  go_wp2_with fail
  go_ret
  exact ⟨rfl, h1, h2⟩
theorem next_none (w : World) : Calls Try.prog 28 #[.pointer none] w fun e w' => e = .returned (.bool false) ∧ w' = w := by
  go_enter Try.func28, Try.ntmps28
  go_wp2_with fail
  refine (goes_none true w).mono ?_; rintro e w' ⟨rfl, rfl⟩
  go_wp2_with fail
  go_ret
  exact ⟨rfl, rfl⟩
theorem prev_none (w : World) : Calls Try.prog 26 #[.pointer none] w fun e w' => e = .returned (.bool false) ∧ w' = w := by
  go_enter Try.func26, Try.ntmps26
  go_wp2_with fail
  refine (goes_none false w).mono ?_; rintro e w' ⟨rfl, rfl⟩
  go_wp2_with fail
  go_ret
  exact ⟨rfl, rfl⟩
theorem place_any (hk : Wks P w B a p) : Calls Try.prog 27 #[.pointer (some ⟨B, 0, none⟩)] w fun e w' => e = .returned (.int .i64 p) ∧ w' = w := by
  obtain ⟨s, _, hk⟩ := hk
  obtain ⟨AA, c, c0, c1, c2, ff, hBl⟩ := hk.cells
  have q := eql_walk B
  clear hk ff
  go_enter Try.func27, Try.ntmps27
  go_wp2_with fail
  go_ret
  exact ⟨rfl, rfl⟩
theorem place_none (w : World) : Calls Try.prog 27 #[.pointer none] w fun e w' => e = .returned (.int .i64 (-1)) ∧ w' = w := by
  go_enter Try.func27, Try.ntmps27
  go_wp2_with fail
  go_ret
  exact ⟨rfl, rfl⟩
/-- What stands at a place. -/
def hereV (a : A) (p : Int) : Value := match a.tree.pairs[p.toNat]? with
  | some x => if 0 ≤ p then .tuple #[.agg #[.int .i64 x.1, .int .i64 x.2], .bool true] else .tuple #[.agg #[.int .i64 0, .int .i64 0], .bool false]
  | none => .tuple #[.agg #[.int .i64 0, .int .i64 0], .bool false]
theorem hereV_yes {a : A} {p : Int} {k x : Int} (h0 : 0 ≤ p) (h : a.tree.pairs[p.toNat]? = some (k, x)) : hereV a p = .tuple #[.agg #[.int .i64 k, .int .i64 x], .bool true] := by
  simp [hereV, h, h0]
theorem hereV_no {a : A} {p : Int} (h : ¬ (0 ≤ p ∧ p < a.size)) : hereV a p = .tuple #[.agg #[.int .i64 0, .int .i64 0], .bool false] := by
  unfold hereV
  split
  · rename_i x hx
    have := (List.getElem?_eq_some_iff.1 hx).1
    rw [T.pairs_length, A.size_tree] at this
    rw [if_neg (by omega)]
  · rfl
set_option maxHeartbeats 4000000 in
theorem here_any (hk : Wks P w B a p) (ha : AP P w a) (hm : a.size ≤ 100000) : Calls Try.prog 29 #[.pointer (some ⟨B, 0, none⟩)] w fun e w' => e = .returned (hereV a p) ∧ Ext w w' := by
  obtain ⟨s, hs, hk⟩ := hk
  obtain ⟨AA, c, c0, c1, c2, ff, hBl⟩ := hk.cells
  have q := eql_walk B
  have hl := (wks_len hs).1
  have f0 : ∀ (W : World) (o : Obj), Ext w (W.alloc o) → (W.alloc o).cell? ⟨B, 1, none⟩ = some (.slice AA s.length c) := fun W o X => (X.cell (p := ⟨B, 1, none⟩) hBl).trans c1
  rcases hs with ⟨h, rfl⟩ | ⟨i, rfl, hpt⟩
  · rw [hereV_no (by omega)]
    have hz : ([] : List (A × Bool)).length = 0 := rfl
    clear hk ff
    go_enter Try.func29, Try.ntmps29
    go_wp2_with fail
    refine bodyPost_ret (v := .tuple #[.agg #[.int .i64 0, .int .i64 0], .bool false]) (by simp [results, Try.results29, go_sem]) rfl ⟨rfl, ?_⟩
    exact ((Ext.refl w).alloc _)
  · clear c1 f0 c0 c2
    obtain ⟨q, n, d, rfl, hn1, hn2⟩ := pth_pair hpt
    rw [hereV_yes (by omega) (by rw [Int.toNat_natCast]; exact hn2)]
    have hap := (pth_ap hpt ha (n, d) (by simp)).1
    obtain ⟨sv, hb, ho, hD, _⟩ := hk
    obtain ⟨g, c', cur, hv, hg, hnc, hcm, hcs, htake⟩ := own_row ho (by simp)
    subst hv
    have hce := (own_cells (i := q.length) (y := (n, d)) ho (by simp)).1
    rw [show (q ++ [(n, d)]).length = q.length + 1 from by simp] at *
    have c1 := hb.cell 1
    have hgl := hg.lt
    have HC := Lib.hid (fun (W : World) (X : Ext w W) => (show W.cell? ⟨B, 1, none⟩ = some (.slice (some ⟨g, 0, none⟩) (q.length + 1) c') ∧ W.cell? ⟨g, q.length * 2, none⟩ = some (.pointer n.ptr) from ⟨(X.cell (p := ⟨B, 1, none⟩) hBl).trans c1, (X.cell (p := ⟨g, q.length * 2, none⟩) hgl).trans hce⟩))
    have KY := Lib.hid (fun (W : World) (X : Ext w W) => key_any (hap.tr.ext X))
    have VY := Lib.hid (fun (W : World) (X : Ext w W) => val_any (hap.tr.ext X))
    have i1 : (q.length : Int) < (q.length : Int) + 1 := by omega
    have i3 : q.length + 1 ≤ 100000 := by omega
    have i2 : ((q.length : Int) + 1 == 0) = false := by simp; omega
    have x0 := (Ext.refl w).alloc (.cells #[.int .i64 0, .int .i64 0] 48)
    have c1 := (HC.out _ x0).1
    have c2 := (HC.out _ x0).2
    generalize n.tree.key = k at *
    generalize n.tree.val = x at *
    clear hb ho hD hg hcs htake hce ff hpt hn2 hap hl hcm
    go_enter Try.func29, Try.ntmps29
    go_wp2_with fail
    go_quiet (fail)
    have b0 := (Blk.new w 48 #[.int .i64 0, .int .i64 0]).drewN nq
    have y0 := x0.drewN nq
    generalize World.drewN _ nq = wa at y0 b0
    go_wp2_with fail
    refine (KY.out _ y0).mono ?_; rintro e w1 ⟨rfl, x1⟩
    have y1 := y0.trans x1
    go_wp2_with fail
    refine (VY.out _ y1).mono ?_; rintro e w2 ⟨rfl, x2⟩
    have y2 := y1.trans x2
    have b2 := b0.ext (x1.trans x2)
    have p0 := b2.cell 0
    have p1 := b2.cell 1
    have f0 := b2.frozen 0
    have f1 := b2.frozen 1
    have b3 := (b2.set 0 (.int .i64 k)).set 1 (.int .i64 x)
    have r0 := b3.cell 0
    have r1 := b3.cell 1
    have y3 : Ext w ((w2.setCell ⟨w.heap.size, 0, none⟩ (.int .i64 k)).setCell ⟨w.heap.size, 1, none⟩ (.int .i64 x)) := (y2.set (p := ⟨w.heap.size, 0, none⟩) (Nat.le_refl _) _).set (p := ⟨w.heap.size, 1, none⟩) (Nat.le_refl _) _
    clear b0 b2
    go_wp2_with fail
    refine bodyPost_ret (v := .tuple #[.agg #[.int .i64 k, .int .i64 x], .bool true]) (by simp [results, Try.results29, go_sem, r0, r1]) rfl ⟨rfl, ?_⟩
    exact y3
end
end Go.Proofs.Ytphpaaaaifpidaa
