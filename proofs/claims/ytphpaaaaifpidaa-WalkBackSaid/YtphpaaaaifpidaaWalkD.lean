/- Package walk: goes, Next, Prev, Place, Here, Go. -/
import Derived.Test.YtphpaaaaifpidaaWalkC
namespace Go.Proofs.Ytphpaaaaifpidaa
open Go.RowKit
set_option linter.unusedVariables false

theorem pth_len : ∀ {a : A} {i : Nat} {s : List (A × Bool)}, Pth a i s → s.length ≤ a.size ∧ ∀ y ∈ s, y.1.size ≤ a.size
  | .nil, _, _, h => h.elim
  | .node b k x g l r, i, s, h => by
    have e : (A.node b k x g l r).size = l.size + 1 + r.size := rfl
    rcases h with ⟨_, s', rfl, h⟩ | ⟨_, d, rfl⟩ | ⟨_, s', rfl, h⟩
    · obtain ⟨h1, h2⟩ := pth_len h
      refine ⟨by rw [List.length_cons]; omega, fun y hy => ?_⟩
      rcases List.mem_cons.1 hy with rfl | hy
      · exact Nat.le_refl _
      · have := h2 y hy; omega
    · refine ⟨by rw [List.length_singleton]; omega, fun y hy => ?_⟩
      simp only [List.mem_singleton] at hy
      subst hy
      exact Nat.le_refl _
    · obtain ⟨h1, h2⟩ := pth_len h
      refine ⟨by rw [List.length_cons]; omega, fun y hy => ?_⟩
      rcases List.mem_cons.1 hy with rfl | hy
      · exact Nat.le_refl _
      · have := h2 y hy; omega
theorem wks_len {a : A} {p : Int} {s : List (A × Bool)} (h : WkS a p s) : s.length ≤ a.size ∧ ∀ y ∈ s, y.1.size ≤ a.size := by
  rcases h with ⟨_, rfl⟩ | ⟨i, _, h⟩
  · exact ⟨Nat.zero_le _, fun y hy => by simp at hy⟩
  · exact pth_len h
theorem sizeA {P : Nat → Prop} {a : A} {w : World} (h : AP P w a) (hs : a.size ≤ 1000000) : Calls Try.prog 47 #[.pointer a.ptr] w fun e w' => e = .returned (.int .i64 (a.size : Int)) ∧ Ext w w' := by
  have := size_any h.tr
  rwa [A.size_tree, show wrap64 (a.size : Int) = a.size from by unfold wrap64; omega] at this

section
variable {P : Nat → Prop} {w : World} {B : Nat} {a : A} {s : List (A × Bool)} {p : Int}
theorem Wk.cells (h : Wk P w B a s p) : ∃ AA c, w.cell? ⟨B, 0, none⟩ = some (.pointer a.ptr) ∧ w.cell? ⟨B, 1, none⟩ = some (.slice AA s.length c) ∧ w.cell? ⟨B, 2, none⟩ = some (.int .i64 p) ∧ (∀ i, w.frozen? ⟨B, i, none⟩ = false) ∧ B < w.heap.size := by
  obtain ⟨sv, h1, h2, h3, h4⟩ := h
  obtain ⟨AA, c, rfl, _, _⟩ := h2.sl ES_len (by omega)
  exact ⟨AA, c, h1.cell 0, h1.cell 1, h1.cell 2, fun i => h1.frozen i, h1.lt⟩
theorem Wk.place (h : Wk P w B a s p) (q : Int) : Wk P (w.setCell ⟨B, 2, none⟩ (.int .i64 q)) B a s q := by
  obtain ⟨sv, h1, h2, h3, h4⟩ := h
  exact ⟨sv, h1.set 2 _, h2.same (fun k hk => Below.heap_setCell w ⟨B, 2, none⟩ _ k (h3 k hk).2), h3, h4⟩
end
theorem eql_walk (b : Nat) : ∀ w : World, (binOp .eql 42 (.pointer (some ⟨b, 0, none⟩)) (.pointer none)).run Try.prog w = .ok (.bool false) w := by
  intro w; go_simp

set_option maxRecDepth 100000 in
set_option maxHeartbeats 4000000 in
theorem goes_stay {P : Nat → Prop} {a : A} {s : List (A × Bool)} {p : Int} {w : World} {B : Nat} {d : Bool} (hk : Wk P w B a s p) (ha : AP P w a) (hm : a.size ≤ 100000) (hd : if d then (a.size : Int) ≤ p else p < 0) :
    Calls Try.prog 61 #[.pointer (some ⟨B, 0, none⟩), .bool d] w fun e w' => e = .returned (.bool false) ∧ Ext w w' := by
  obtain ⟨AA, c, c0, c1, c2, ff, hBl⟩ := hk.cells
  have q := eql_walk B
  cases d with
  | true =>
    simp only [if_true] at hd
    have HC := Lib.hid (fun (W : World) (X : Ext w W) => (show W.cell? ⟨B, 0, none⟩ = some (.pointer a.ptr) ∧ W.cell? ⟨B, 2, none⟩ = some (.int .i64 p) from ⟨(X.cell (p := ⟨B, 0, none⟩) hBl).trans c0, (X.cell (p := ⟨B, 2, none⟩) hBl).trans c2⟩))
    have SZ := Lib.hid (fun (W : World) (X : Ext w W) => sizeA (ha.keep (X.keep P)) (by omega))
    have y0 := Ext.refl w
    have hd2 : decide ((a.size : Int) ≤ p) = true := by simpa using hd
    clear c0 c1 c2 ff hk ha hm
    go_enter Try.func61, Try.ntmps61
    go_wp2_with fail
    go_region_held3 (fun W => W.cell? ⟨B, 0, none⟩ = some (.pointer a.ptr) ∧ W.cell? ⟨B, 2, none⟩ = some (.int .i64 p)) (first | exact HC.out _ y0 | exact HC.out _ (Ext.drew y0))
      (first
        | (go_at_call 47; refine (SZ.out _ (by first | exact y0 | exact Ext.drew y0)).mono ?_; rintro e wa ⟨rfl, xa⟩; have y0 := (by first | exact Ext.trans y0 xa | exact (Ext.drew y0).trans xa))
        | fail)
    all_goals
      go_wp2_with fail
      go_ret
      exact ⟨rfl, y0⟩
  | false =>
    simp only [Bool.false_eq_true, if_false] at hd
    have hd2 : decide (p < 0) = true := by simpa using hd
    clear hk ha hm ff
    go_enter Try.func61, Try.ntmps61
    go_wp2_with fail
    go_quiet (fail)
    go_wp2_with fail
    go_ret
    exact ⟨rfl, (Ext.refl w).drewN _⟩
set_option maxRecDepth 100000 in
set_option maxHeartbeats 8000000 in
theorem goes_right {P : Nat → Prop} {a : A} {s : List (A × Bool)} {p : Int} {w : World} {B : Nat} (hk : Wk P w B a s p) (ha : AP P w a) (hP : ∀ b, P b → b < w.heap.size) (hm : a.size ≤ 100000) (hl : s.length ≤ 100000) (hn : ∀ y ∈ s, AP P w y.1 ∧ y.1.size ≤ 500000) (hd : p < (a.size : Int)) (hr : -1 ≤ p ∧ p ≤ 1000000) :
    Calls Try.prog 61 #[.pointer (some ⟨B, 0, none⟩), .bool true] w fun e w' => e = .returned (.bool (decide (0 < (((goS a true s).length : Nat) : Int)))) ∧ Wk P w' B a (goS a true s) (p + 1) ∧ Keep P w w' := by
  obtain ⟨AA, c, c0, c1, c2, ff, hBl⟩ := hk.cells
  have q := eql_walk B
  have hPB : ¬ P B := by obtain ⟨_, _, _, _, h⟩ := hk; exact h
  have CC := fun (W : World) (X : Ext w W) => (hk.keepB X).cells
  have i1 : -1 ≤ p := hr.1
  have i2 : p ≤ 1000000 := hr.2
  have HK := Lib.hid hk
  have HC := Lib.hid (fun (W : World) (X : Ext w W) => (show W.cell? ⟨B, 0, none⟩ = some (.pointer a.ptr) ∧ W.cell? ⟨B, 2, none⟩ = some (.int .i64 p) from ⟨(X.cell (p := ⟨B, 0, none⟩) hBl).trans c0, (X.cell (p := ⟨B, 2, none⟩) hBl).trans c2⟩))
  have SZ := Lib.hid (fun (W : World) (X : Ext w W) => sizeA (ha.keep (X.keep P)) (by omega))
  have y0 := Ext.refl w
  have hd2 : decide ((a.size : Int) ≤ p) = false := by simpa using hd
  have HM := Lib.hid (And.intro hm hl)
  have HH := Lib.hid (And.intro ha (And.intro hP hn))
  have HPB := Lib.hid hPB
  clear c0 c1 c2 ff hk ha hm CC hr hd hn hP hl hPB
  go_enter Try.func61, Try.ntmps61
  go_wp2_with fail
  go_region_held3 (fun W => W.cell? ⟨B, 0, none⟩ = some (.pointer a.ptr) ∧ W.cell? ⟨B, 2, none⟩ = some (.int .i64 p)) (first | exact HC.out _ y0 | exact HC.out _ (Ext.drew y0))
    (first
      | (go_at_call 47; refine (SZ.out _ (by first | exact y0 | exact Ext.drew y0)).mono ?_; rintro e wa ⟨rfl, xa⟩; have y0 := (by first | exact Ext.trans y0 xa | exact (Ext.drew y0).trans xa))
      | fail)
  all_goals
    have WW := HK.out.keepB y0
    obtain ⟨A1, c1, k0, k1, k2, ff, hB2⟩ := WW.cells
    have f2 := ff 2
    have WK := WW.place (p + 1)
    have YK : Keep P w (wa.setCell ⟨B, 2, none⟩ (.int .i64 (p + 1))) := (y0.keep P).set HPB.out _
    obtain ⟨ha, hP, hn⟩ := HH.out
    obtain ⟨hm, hl⟩ := HM.out
    have hm9 := hm
    have WKH := Lib.hid WK
    have YKH := Lib.hid YK
    have HHH := Lib.hid (And.intro ha (And.intro hP hn))
    clear WW ff WK YK ha hP hn
    by_cases h0 : s = []
    · subst h0
      have hz : ([] : List (A × Bool)).length = 0 := rfl
      go_wp2_with fail
      obtain ⟨ha, hP, hn⟩ := HHH.out
      have WK := WKH.out
      have YK := YKH.out
      refine (down_any WK (ha.keep YK) (fun b hb => Nat.lt_of_lt_of_le (hP b hb) YK.size) (by simp; omega) false).mono ?_; rintro e w4 ⟨rfl, W4, y4⟩
      obtain ⟨AA4, c4, -, k1, -, -, -⟩ := W4.cells
      go_wp2_with fail
      go_ret
      exact ⟨by simp [goS], by simpa [goS] using W4, YK.trans y4⟩
    · have hz : ((s.length : Int) == 0) = false := by simp; exact h0
      go_wp2_with fail
      obtain ⟨ha, hP, hn⟩ := HHH.out
      have WK := WKH.out
      have YK := YKH.out
      refine (step_any true WK h0 (fun y hy => ⟨(hn y hy).1.keep YK, (hn y hy).2⟩) (fun b hb => Nat.lt_of_lt_of_le (hP b hb) YK.size) (by omega)).mono ?_; rintro e w4 ⟨rfl, W4, y4⟩
      obtain ⟨AA4, c4, -, k1, -, -, -⟩ := W4.cells
      go_wp2_with fail
      go_ret
      exact ⟨by simp [goS, h0], by simpa [goS, h0] using W4, YK.trans y4⟩
set_option maxRecDepth 100000 in
set_option maxHeartbeats 8000000 in
theorem goes_left {P : Nat → Prop} {a : A} {s : List (A × Bool)} {p : Int} {w : World} {B : Nat} (hk : Wk P w B a s p) (ha : AP P w a) (hP : ∀ b, P b → b < w.heap.size) (hm : a.size ≤ 100000) (hl : s.length ≤ 100000) (hn : ∀ y ∈ s, AP P w y.1 ∧ y.1.size ≤ 500000) (hd : 0 ≤ p) (hr : -1 ≤ p ∧ p ≤ 1000000) :
    Calls Try.prog 61 #[.pointer (some ⟨B, 0, none⟩), .bool false] w fun e w' => e = .returned (.bool (decide (0 < (((goS a false s).length : Nat) : Int)))) ∧ Wk P w' B a (goS a false s) (p - 1) ∧ Keep P w w' := by
  obtain ⟨AA, c, c0, c1, c2, ff, hBl⟩ := hk.cells
  have q := eql_walk B
  have hPB : ¬ P B := by obtain ⟨_, _, _, _, h⟩ := hk; exact h
  have CC := fun (W : World) (X : Ext w W) => (hk.keepB X).cells
  have i1 : -1 ≤ p := hr.1
  have i2 : p ≤ 1000000 := hr.2
  have HK := Lib.hid hk
  have hd2 : decide (p < 0) = false := by simpa using hd
  have HM := Lib.hid (And.intro hm hl)
  have HH := Lib.hid (And.intro ha (And.intro hP hn))
  have HPB := Lib.hid hPB
  clear hk ha hm CC hr hd hn hP hl hPB
  have yq := fun n => (Ext.refl w).drewN n
  clear c0 c1 c2 ff
  go_enter Try.func61, Try.ntmps61
  go_wp2_with fail
  go_quiet (fail)
  have y0 := yq nq
  generalize w.drewN nq = wa at y0
  clear yq
  all_goals
    have WW := HK.out.keepB y0
    obtain ⟨A1, c1, k0, k1, k2, ff, hB2⟩ := WW.cells
    have f2 := ff 2
    have WK := WW.place (p - 1)
    have YK : Keep P w (wa.setCell ⟨B, 2, none⟩ (.int .i64 (p - 1))) := (y0.keep P).set HPB.out _
    obtain ⟨ha, hP, hn⟩ := HH.out
    obtain ⟨hm, hl⟩ := HM.out
    have hm9 := hm
    have WKH := Lib.hid WK
    have YKH := Lib.hid YK
    have HHH := Lib.hid (And.intro ha (And.intro hP hn))
    clear WW ff WK YK ha hP hn
    by_cases h0 : s = []
    · subst h0
      have hz : ([] : List (A × Bool)).length = 0 := rfl
      go_wp2_with fail
      obtain ⟨ha, hP, hn⟩ := HHH.out
      have WK := WKH.out
      have YK := YKH.out
      refine (down_any WK (ha.keep YK) (fun b hb => Nat.lt_of_lt_of_le (hP b hb) YK.size) (by simp; omega) true).mono ?_; rintro e w4 ⟨rfl, W4, y4⟩
      obtain ⟨AA4, c4, -, k1, -, -, -⟩ := W4.cells
      go_wp2_with fail
      go_ret
      exact ⟨by simp [goS], by simpa [goS] using W4, YK.trans y4⟩
    · have hz : ((s.length : Int) == 0) = false := by simp; exact h0
      go_wp2_with fail
      obtain ⟨ha, hP, hn⟩ := HHH.out
      have WK := WKH.out
      have YK := YKH.out
      refine (step_any false WK h0 (fun y hy => ⟨(hn y hy).1.keep YK, (hn y hy).2⟩) (fun b hb => Nat.lt_of_lt_of_le (hP b hb) YK.size) (by omega)).mono ?_; rintro e w4 ⟨rfl, W4, y4⟩
      obtain ⟨AA4, c4, -, k1, -, -, -⟩ := W4.cells
      go_wp2_with fail
      go_ret
      exact ⟨by simp [goS, h0], by simpa [goS, h0] using W4, YK.trans y4⟩
end Go.Proofs.Ytphpaaaaifpidaa
