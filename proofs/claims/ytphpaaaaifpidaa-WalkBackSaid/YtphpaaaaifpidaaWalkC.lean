/- Package walk: step. -/
import Derived.Test.YtphpaaaaifpidaaWalkB
import Derived.IntWalk
namespace Go.Proofs.Ytphpaaaaifpidaa
open Go.RowKit
set_option linter.unusedVariables false

/-- The row of a way that is not empty: its block. -/
theorem own_row {w : World} {v : Value} {s : List (A × Bool)} (h : Own ES 93 2 0 w v s) (hs : s ≠ []) :
    ∃ g cap cur, v = .slice (some ⟨g, 0, none⟩) s.length cap ∧ Blk w g 93 cur ∧ s.length ≤ cap ∧ cap ≤ maxLen ∧ cur.size = cap * 2 ∧ cur.toList.take (s.length * 2) = flat ES s := by
  rcases h.2 with ⟨_, h2⟩ | ⟨g, cap, cur, hv, hg, hh, hnc, hcm, hcs, htake⟩
  · exact absurd (List.eq_nil_of_length_eq_zero h2) hs
  · exact ⟨g, cap, cur, hv, hh, hnc, hcm, hcs, htake⟩
/-- The cells of a stop. -/
theorem own_cells {w : World} {g c : Nat} {s : List (A × Bool)} (h : Own ES 93 2 0 w (.slice (some ⟨g, 0, none⟩) s.length c) s) {i : Nat} {y : A × Bool} (hy : s[i]? = some y) :
    w.cell? ⟨g, i * 2, none⟩ = some (.pointer y.1.ptr) ∧ w.cell? ⟨g, i * 2 + 1, none⟩ = some (.bool y.2) := by
  obtain ⟨A, cc, e, hc, hr⟩ := h.sl ES_len (by omega)
  injection e with e1 e2 e3
  subst e1
  obtain ⟨b, off, e, hb, hcs⟩ := hr (by rintro rfl; simp at hy)
  injection e with e
  injection e with e1 e2
  subst e1 e2
  have h := Cells.elem ES_len hcs hy
  rw [Nat.zero_add] at h
  exact ⟨h 0 _ rfl, h 1 _ rfl⟩
/-- The side of the last stop is set. -/
theorem Own.setLast {w : World} {g c : Nat} {s : List (A × Bool)} {n : A} {e d : Bool} (h : Own ES 93 2 0 w (.slice (some ⟨g, 0, none⟩) (s.length + 1) c) (s ++ [(n, e)])) :
    Own ES 93 2 0 (w.setCell ⟨g, s.length * 2 + 1, none⟩ (.bool d)) (.slice (some ⟨g, 0, none⟩) (s.length + 1) c) (s ++ [(n, d)]) := by
  have hl : (s ++ [(n, e)]).length = s.length + 1 := by simp
  have hl' : (s ++ [(n, d)]).length = s.length + 1 := by simp
  refine ⟨by rw [flat_length ES_len], ?_⟩
  rcases h.2 with ⟨h2, _⟩ | ⟨g', cap, cur, hv, hg, hh, hnc, hcm, hcs, htake⟩
  · cases h2
  · injection hv with e1 e2 e3
    injection e1 with e1
    injection e1 with e1
    subst e1 e3
    refine .inr ⟨g, c, cur.setIfInBounds (s.length * 2 + 1) (.bool d), by rw [hl'], Nat.zero_le _, Blk.set (t := 93) hh _ _, by omega, hcm, by simpa using hcs, ?_⟩
    rw [hl] at htake
    rw [hl', Array.toList_setIfInBounds, List.take_set, htake, flat_append, flat_append]
    have hf : (flat ES s).length = s.length * 2 := flat_length ES_len s
    rw [List.set_append_right _ _ (by omega), hf, show s.length * 2 + 1 - s.length * 2 = 1 from by omega]
    rfl

theorem slice_head {t e : TypeId} {A : Option Addr} {n c k : Nat} (ht : Try.prog.underlying t = some (.slice e)) (hi : ∃ i z, Try.prog.info? e = some i ∧ i.zero = some z ∧ i.size = 2 ∧ i.bytes = 16 ∧ z.cells.size = 2) (hk : k ≤ c) :
    ∀ (q : Int) (w : World), q = k → (Instr.slice t (.slice A n c) none (some (.int .i64 q)) none).run Try.prog w = .ok (.slice A k c) w := by
  intro q w hq
  obtain ⟨i, z, hi, hz, hs, _⟩ := hi
  have := run_cut_h (P := Try.prog) (n := n) ht hi hs A (c := c) q k hq hk w
  rwa [cutA_zero] at this

set_option maxRecDepth 100000 in
set_option maxHeartbeats 4000000 in
theorem step_down {P : Nat → Prop} {a n : A} {e : Bool} {s : List (A × Bool)} {p : Int} {w : World} {B : Nat} {d : Bool} (hk : Wk P w B a (s ++ [(n, e)]) p) (hn : AP P w n) (hP : ∀ b, P b → b < w.heap.size) (hm : s.length + 1 + n.size ≤ 1000000)
    (hd : (n.side d).some = true) :
    Calls Try.prog 87 #[.pointer (some ⟨B, 0, none⟩), .bool d] w fun e' w' => e' = .returned (.tuple #[]) ∧ Wk P w' B a (s ++ (n, d) :: spine (!d) (n.side d)) p ∧ Keep P w w' := by
  have hcf := side_call d
  have hc : ∀ v : Value, ∀ w : World, (Instr.field 97 (.agg #[v]) 0).run Try.prog w = .ok v w := to_field
  obtain ⟨sv, hb, ho, hD, hPB⟩ := hk
  obtain ⟨g, c, cur, hv, hg, hnc, hcm, hcs, htake⟩ := own_row ho (by simp)
  subst hv
  have hll : (s ++ [(n, e)]).length = s.length + 1 := by simp
  have hce := own_cells (i := s.length) (y := (n, e)) ho (by simp)
  rw [hll] at ho hnc hb
  have c1 := hb.cell 1
  have f1 := hg.frozen (s.length * 2 + 1)
  have hgl := hg.lt
  have hBl := hb.lt
  have hgB := (hD g (by simp [Value.ownBlock])).2
  have hgP := (hD g (by simp [Value.ownBlock])).1
  obtain ⟨k0, k1⟩ := hce
  have c1 : w.cell? ⟨B, 1, none⟩ = some (.slice (some ⟨g, 0, none⟩) (s.length + 1) c) := c1
  have HO := Lib.hid ho
  have HB := Lib.hid hb
  have HG := Lib.hid (And.intro hgP hPB)
  have HM := Lib.hid hn
  have HF := Lib.hid (fun (W : World) (X : Ext w W) => (show W.frozen? ⟨g, s.length * 2 + 1, none⟩ = false ∧ W.cell? ⟨g, s.length * 2 + 1, none⟩ = some (.bool e) from ⟨(X.frozen (p := ⟨g, s.length * 2 + 1, none⟩) hgl).trans f1, (X.cell (p := ⟨g, s.length * 2 + 1, none⟩) hgl).trans k1⟩))
  have HC := Lib.hid (fun (W : World) (X : Ext w W) => (show W.cell? ⟨B, 1, none⟩ = some (.slice (some ⟨g, 0, none⟩) (s.length + 1) c) ∧ W.cell? ⟨g, s.length * 2, none⟩ = some (.pointer n.ptr) from ⟨(X.cell (p := ⟨B, 1, none⟩) hBl).trans c1, (X.cell (p := ⟨g, s.length * 2, none⟩) hgl).trans k0⟩))
  have SD := Lib.hid (fun (W : World) (X : Ext w W) => side_any (d := d) (hn.keep (X.keep P)))
  have TO := Lib.hid (fun W => to_any d W)
  have y0 := Ext.refl w
  have i1 : (s.length : Int) < (s.length : Int) + 1 := by omega
  have hln : s.length + 1 ≤ 1000000 := by omega
  have hdn := neq_ptr (hn.side d)
  rw [hd] at hdn
  clear ho hb hg hgP hPB hcs htake hD k0 k1 c1 f1
  go_enter Try.func87, Try.ntmps87
  have c1 := (HC.out w y0).1
  go_wp2_with fail
  go_region_held3 (fun W => W.cell? ⟨B, 1, none⟩ = some (.slice (some ⟨g, 0, none⟩) (s.length + 1) c) ∧ W.cell? ⟨g, s.length * 2, none⟩ = some (.pointer n.ptr)) (first | exact HC.out _ y0 | exact HC.out _ (Ext.drew y0))
    (first
      | (go_at_call 63; refine (TO.out _).mono ?_; rintro e wa ⟨rfl, xa⟩; have y0 := (by first | exact Ext.trans y0 xa | exact (Ext.drew y0).trans xa))
      | (refine (SD.out _ (by first | exact y0 | exact Ext.drew y0)).mono ?_; rintro e w' ⟨rfl, rfl⟩)
      | fail)
  have c1 := (HC.out _ y0).1
  obtain ⟨f1, k1⟩ := HF.out _ y0
  have hgB2 : ¬ B = g := fun e => hgB e.symm
  go_wp2_with fail
  have y1 : Keep P w (wa.setCell ⟨g, s.length * 2 + 1, none⟩ (.bool d)) := (y0.keep P).set HG.out.1 _
  have W1 : Wk P (wa.setCell ⟨g, s.length * 2 + 1, none⟩ (.bool d)) B a (s ++ [(n, d)]) p :=
    ⟨_, (HB.out.ext y0).far (p := ⟨g, s.length * 2 + 1, none⟩) hgB2 _, (HO.out.ext y0).setLast, fun k hk => (by simp [Value.ownBlock] at hk; subst hk; exact ⟨HG.out.1, hgB⟩), HG.out.2⟩
  have DW := down_any W1 ((HM.out.side d).keep y1) (fun b hb => Nat.lt_of_lt_of_le (hP b hb) y1.size) (by have := side_size (d := d) (n := n) (by cases n with | nil => cases d <;> cases hd | node => rfl); simp; omega) (!d)
  refine DW.mono ?_; rintro e2 w2 ⟨rfl, W2, y2⟩
  go_wp2_with fail
  exact bodyPost_ret (v := .tuple #[]) (by simp [results, Try.results87, go_sem]) rfl ⟨rfl, by simpa using W2, y1.trans y2⟩
/-- A way that is cut. -/
theorem Wk.cut {P : Nat → Prop} {w : World} {B : Nat} {a : A} {s : List (A × Bool)} {n : A} {e : Bool} {p : Int} {g c : Nat} (hb : Blk w B 89 #[.pointer a.ptr, .slice (some ⟨g, 0, none⟩) (s.length + 1) c, .int .i64 p])
    (ho : Own ES 93 2 0 w (.slice (some ⟨g, 0, none⟩) (s.length + 1) c) (s ++ [(n, e)])) (hg : ¬ P g ∧ g ≠ B) (hB : ¬ P B) : Wk P (w.setCell ⟨B, 1, none⟩ (.slice (some ⟨g, 0, none⟩) s.length c)) B a s p := by
  have h := Own.take ES_len ho s.length (by simp) (by simp)
  rw [List.take_left'  rfl] at h
  refine ⟨_, hb.set 1 _, h.same (fun k hk => Below.heap_setCell w ⟨B, 1, none⟩ _ k ?_), fun k hk => ?_, hB⟩
  · simp [Value.ownBlock] at hk; subst hk; exact hg.2
  · simp [Value.ownBlock] at hk; subst hk; exact hg
theorem snoc_of {α : Type} : ∀ {s : List α}, s ≠ [] → ∃ q y, s = q ++ [y]
  | [], h => absurd rfl h
  | [y], _ => ⟨[], y, rfl⟩
  | x :: y :: s, _ => by
    obtain ⟨q, z, h⟩ := snoc_of (s := y :: s) (by simp)
    exact ⟨x :: q, z, by rw [h]; rfl⟩

set_option maxRecDepth 100000 in
set_option maxHeartbeats 4000000 in
theorem step_up {P : Nat → Prop} {a n : A} {e : Bool} {s : List (A × Bool)} {p : Int} {w : World} {B : Nat} {d : Bool} (hk : Wk P w B a (s ++ [(n, e)]) p) (hn : AP P w n) (hP : ∀ b, P b → b < w.heap.size) (hm : s.length + 1 + n.size ≤ 1000000)
    (hd : (n.side d).some = false) :
    Calls Try.prog 87 #[.pointer (some ⟨B, 0, none⟩), .bool d] w fun e' w' => e' = .returned (.tuple #[]) ∧ Wk P w' B a (popR d s) p ∧ Keep P w w' := by
  have hcf := side_call d
  have hc : ∀ v : Value, ∀ w : World, (Instr.field 97 (.agg #[v]) 0).run Try.prog w = .ok v w := to_field
  obtain ⟨sv, hb, ho, hD, hPB⟩ := hk
  obtain ⟨g, c, cur, hv, hg, hnc, hcm, hcs, htake⟩ := own_row ho (by simp)
  subst hv
  have hll : (s ++ [(n, e)]).length = s.length + 1 := by simp
  have hce := own_cells (i := s.length) (y := (n, e)) ho (by simp)
  rw [hll] at ho hnc hb
  have c1 := hb.cell 1
  have hgl := hg.lt
  have hBl := hb.lt
  have hgB := (hD g (by simp [Value.ownBlock])).2
  have hgP := (hD g (by simp [Value.ownBlock])).1
  obtain ⟨k0, k1⟩ := hce
  have c1 : w.cell? ⟨B, 1, none⟩ = some (.slice (some ⟨g, 0, none⟩) (s.length + 1) c) := c1
  have HO := Lib.hid ho
  have HB := Lib.hid hb
  have HG := Lib.hid (And.intro hgP hPB)
  have HM := Lib.hid hn
  have HC := Lib.hid (fun (W : World) (X : Ext w W) => (show W.cell? ⟨B, 1, none⟩ = some (.slice (some ⟨g, 0, none⟩) (s.length + 1) c) ∧ W.cell? ⟨g, s.length * 2, none⟩ = some (.pointer n.ptr) from ⟨(X.cell (p := ⟨B, 1, none⟩) hBl).trans c1, (X.cell (p := ⟨g, s.length * 2, none⟩) hgl).trans k0⟩))
  have SD := Lib.hid (fun (W : World) (X : Ext w W) => side_any (d := d) (hn.keep (X.keep P)))
  have TO := Lib.hid (fun W => to_any d W)
  have y0 := Ext.refl w
  have i1 : (s.length : Int) < (s.length : Int) + 1 := by omega
  have hln : s.length + 1 ≤ 1000000 := by omega
  have hdn := neq_ptr (hn.side d)
  rw [hd] at hdn
  have hsl := slice_head (A := some ⟨g, 0, none⟩) (n := s.length + 1) (c := c) (k := s.length) Try.underlying87 stopE.info (by omega) (s.length : Int)
  have hsl := fun W => hsl W rfl
  clear ho hb hg hgP hPB hcs htake hD k0 k1 c1
  go_enter Try.func87, Try.ntmps87
  have c1 := (HC.out w y0).1
  go_wp2_with fail
  go_region_held3 (fun W => W.cell? ⟨B, 1, none⟩ = some (.slice (some ⟨g, 0, none⟩) (s.length + 1) c) ∧ W.cell? ⟨g, s.length * 2, none⟩ = some (.pointer n.ptr)) (first | exact HC.out _ y0 | exact HC.out _ (Ext.drew y0))
    (first
      | (go_at_call 63; refine (TO.out _).mono ?_; rintro e wa ⟨rfl, xa⟩; have y0 := (by first | exact Ext.trans y0 xa | exact (Ext.drew y0).trans xa))
      | (refine (SD.out _ (by first | exact y0 | exact Ext.drew y0)).mono ?_; rintro e w' ⟨rfl, rfl⟩)
      | fail)
  have c1 := (HC.out _ y0).1
  have f1 := (HB.out.ext y0).frozen 1
  go_wp2_with fail
  have W1 := Wk.cut (HB.out.ext y0) (HO.out.ext y0) ⟨HG.out.1, hgB⟩ HG.out.2
  have y1 : Keep P w (wa.setCell ⟨B, 1, none⟩ (.slice (some ⟨g, 0, none⟩) s.length c)) := (y0.keep P).set HG.out.2 _
  clear hsl c1 f1 hdn i1
  go_loopg [4] s.length (fun k kv wr => ∃ q : List (A × Bool), k = q.length ∧ kv = .int .i64 (q.length : Int) ∧ popR d q = popR d s ∧ Wk P wr B a q p ∧ Keep P w wr ∧ q.length ≤ s.length)
  case atStart => exact ⟨s, rfl, rfl, rfl, W1, y1, Nat.le_refl _⟩
  case round =>
    clear y0 y1 W1
    obtain ⟨q, rfl, rfl, hq, hw, y1, hql⟩ := hrel
    have HQ := Lib.hid hq
    have Y1 := Lib.hid y1
    clear hq y1
    by_cases h0 : q = []
    · subst h0
      have HW := Lib.hid hw
      have hz : ([] : List (A × Bool)).length = 0 := rfl
      clear hw
      go_wp2_with fail
      exact bodyPost_end (v := .tuple #[]) (by simp [results, Try.results87, go_sem]) rfl ⟨rfl, by rw [← HQ.out]; exact HW.out, Y1.out⟩
    · obtain ⟨q, ⟨m, f⟩, rfl⟩ := snoc_of h0
      obtain ⟨sv2, hb2, ho2, hD2, hPB2⟩ := id hw
      obtain ⟨g2, c2, cur2, hv2, hg2, hnc2, hcm2, hcs2, htake2⟩ := own_row ho2 (by simp)
      subst hv2
      have hll : (q ++ [(m, f)]).length = q.length + 1 := by simp
      have hce2 := own_cells (i := q.length) (y := (m, f)) ho2 (by simp)
      have HW := Lib.hid hw
      rw [hll] at ho2 hnc2 hb2 hql ⊢
      rw [popR_snoc] at HQ
      have c1 := hb2.cell 1
      have f1 := hb2.frozen 1
      have k1 := hce2.2
      have hgB2 := hD2 g2 (by simp [Value.ownBlock])
      have hBl2 := hb2.lt
      have HB2 := Lib.hid hb2
      have HO2 := Lib.hid ho2
      have HG2 := Lib.hid hgB2
      have hsl := slice_head (A := some ⟨g2, 0, none⟩) (n := q.length + 1) (c := c2) (k := q.length) Try.underlying87 stopE.info (by omega) (q.length : Int)
      have hsl := fun W => hsl W rfl
      have i1 : (q.length : Int) < (q.length : Int) + 1 := by omega
      have i2 : (0 : Int) < (q.length : Int) + 1 := by omega
      clear hb2 ho2 hD2 hg2 hcs2 htake2 hce2 hw hll hgB2 h0
      by_cases hfd : f = d
      · subst hfd
        rw [if_pos rfl] at HQ
        go_wp2_with fail
        go_roundg q.length
        case measure => exact Nat.lt_succ_self _
        case rel => exact ⟨q, rfl, rfl, HQ.out, Wk.cut HB2.out HO2.out HG2.out hPB2, Y1.out.set hPB2 _, by omega⟩
      · rw [if_neg hfd] at HQ
        have hne : (f == d) = false := by simpa using hfd
        go_wp2_with fail
        exact bodyPost_end (v := .tuple #[]) (by simp [results, Try.results87, go_sem]) rfl ⟨rfl, by rw [← HQ.out]; exact HW.out, Y1.out⟩
/-- A step. -/
theorem step_any {P : Nat → Prop} {a : A} {s : List (A × Bool)} {p : Int} {w : World} {B : Nat} (d : Bool) (hk : Wk P w B a s p) (hs : s ≠ []) (hn : ∀ y ∈ s, AP P w y.1 ∧ y.1.size ≤ 500000) (hP : ∀ b, P b → b < w.heap.size) (hm : s.length ≤ 500000) :
    Calls Try.prog 87 #[.pointer (some ⟨B, 0, none⟩), .bool d] w fun e' w' => e' = .returned (.tuple #[]) ∧ Wk P w' B a (stepS d s) p ∧ Keep P w w' := by
  obtain ⟨q, ⟨n, e⟩, rfl⟩ := snoc_of hs
  obtain ⟨h1, h2⟩ := hn (n, e) (by simp)
  simp at hm h2
  rw [stepS_snoc]
  cases hd : (n.side d).some with
  | true => exact step_down hk h1 hP (by omega) hd
  | false => exact step_up hk h1 hP (by omega) hd
end Go.Proofs.Ytphpaaaaifpidaa
