/- The document's walk: Here; joinerylaw35's stands. -/
import Derived.Test.YtphpaaaaifpidaaWalkL
namespace Go.Proofs.Ytphpaaaaifpidaa
open Go.RowKit
set_option linter.unusedVariables false

/-- What stands at a place of a row. -/
def hereP (L : List (Int × Int)) (p : Int) : Value := match L[p.toNat]? with
  | some x => if 0 ≤ p then .tuple #[.agg #[.int .i64 x.1, .int .i64 x.2], .bool true] else .tuple #[.agg #[.int .i64 0, .int .i64 0], .bool false]
  | none => .tuple #[.agg #[.int .i64 0, .int .i64 0], .bool false]
theorem hereV_eq (a : A) (p : Int) : hereV a p = hereP a.tree.pairs p := rfl
theorem hereP_no {L : List (Int × Int)} {p : Int} (h : ¬ (0 ≤ p ∧ p < L.length)) : hereP L p = .tuple #[.agg #[.int .i64 0, .int .i64 0], .bool false] := by
  unfold hereP
  split
  · rename_i x hx
    have := (List.getElem?_eq_some_iff.1 hx).1
    rw [if_neg (by omega)]
  · rfl
theorem hereP_yes {L : List (Int × Int)} {p : Int} {k x : Int} (h0 : 0 ≤ p) (h : L[p.toNat]? = some (k, x)) : hereP L p = .tuple #[.agg #[.int .i64 k, .int .i64 x], .bool true] := by
  simp [hereP, h, h0]
/-- It is a pair, and whether there is one. -/
theorem hereP_form (L : List (Int × Int)) (p : Int) : ∃ k x b, hereP L p = .tuple #[.agg #[.int .i64 k, .int .i64 x], .bool b] := by
  unfold hereP
  split
  · split
    · exact ⟨_, _, _, rfl⟩
    · exact ⟨_, _, _, rfl⟩
  · exact ⟨_, _, _, rfl⟩
section
variable {w : World} {R lo : Nat} {L : List (Int × Int)} {p : Int}
set_option maxRecDepth 100000 in
set_option maxHeartbeats 8000000 in
theorem rhere_any (h : RW w R lo L p) (hp : -1 ≤ p ∧ p ≤ L.length) (hL : L.length ≤ 100000) :
    Calls Try.prog 38 #[.pointer (some ⟨R, 0, none⟩)] w fun e w' => e = .returned (hereP L p) ∧ Ext w w' := by
  obtain ⟨⟨sv, hb, A, c, rfl, hc, hr⟩, hlo⟩ := h
  have hRl := hb.lt
  have x0 := (Ext.refl w).alloc (.cells #[.int .i64 0, .int .i64 0] 48)
  have c0 := (hb.ext x0).cell 0
  have c1 := (hb.ext x0).cell 1
  by_cases h0 : p < 0
  · rw [hereP_no (by omega)]
    have hd : decide (p < 0) = true := by simpa using h0
    clear hb hr hc hp
    go_enter Try.func38, Try.ntmps38
    go_wp2_with fail
    go_quiet (fail)
    have y0 := x0.drewN nq
    have b0 := (Blk.new w 48 #[.int .i64 0, .int .i64 0]).drewN nq
    generalize World.drewN _ nq = wa at y0 b0
    have p0 := b0.cell 0
    have p1 := b0.cell 1
    have f0 := b0.frozen 0
    have f1 := b0.frozen 1
    have b3 := (b0.set 0 (.int .i64 0)).set 1 (.int .i64 0)
    have r0 := b3.cell 0
    have r1 := b3.cell 1
    have y3 : Ext w ((wa.setCell ⟨w.heap.size, 0, none⟩ (.int .i64 0)).setCell ⟨w.heap.size, 1, none⟩ (.int .i64 0)) := (y0.set (p := ⟨w.heap.size, 0, none⟩) (Nat.le_refl _) _).set (p := ⟨w.heap.size, 1, none⟩) (Nat.le_refl _) _
    clear b0 b3
    go_wp2_with fail
    exact bodyPost_ret (v := .tuple #[.agg #[.int .i64 0, .int .i64 0], .bool false]) (by simp [results, Try.results38, go_sem, r0, r1]) rfl ⟨rfl, y3⟩
  · by_cases h1 : p < L.length
    · have hin : p.toNat < L.length := by omega
      obtain ⟨b, off, rfl, hbb, hcs⟩ := hr (by intro h; rw [h] at hin; simp at hin)
      have hxk : L[p.toNat]? = some L[p.toNat] := List.getElem?_eq_getElem hin
      generalize L[p.toNat] = y at hxk
      obtain ⟨yk, yx⟩ := y
      rw [hereP_yes (by omega) hxk]
      have hce := Cells.elem EP_len hcs hxk
      have k0 := hce 0 _ rfl
      have k1 := hce 1 _ rfl
      obtain ⟨q, rfl⟩ : ∃ q : Nat, p = q := ⟨p.toNat, by omega⟩
      simp only [Int.toNat_natCast] at k0 k1
      have K0 := Lib.hid (fun (W : World) (X : Ext w W) => (X.cell (p := ⟨b, off + q * 2, none⟩) hbb.2.2).trans k0)
      have K1 := Lib.hid (fun (W : World) (X : Ext w W) => (X.cell (p := ⟨b, off + q * 2 + 1, none⟩) hbb.2.2).trans k1)
      have C0 := Lib.hid (fun (W : World) (X : Ext w W) => (X.cell (p := ⟨R, 0, none⟩) hRl).trans (hb.cell 0))
      have C1 := Lib.hid (fun (W : World) (X : Ext w W) => (X.cell (p := ⟨R, 1, none⟩) hRl).trans (hb.cell 1))
      have hd : decide ((q : Int) < 0) = false := by simp
      have hd2 : decide ((L.length : Int) ≤ (q : Int)) = false := by simp; omega
      have hql : q < L.length := by omega
      have hql2 : (q : Int) < (L.length : Int) := by omega
      clear hb hr hc hp hxk hce k0 k1 hcs hbb h0 h1 hin
      go_enter Try.func38, Try.ntmps38
      go_wp2_with fail
      go_quiet (fail)
      have y0 := x0.drewN nq
      have b0 := (Blk.new w 48 #[.int .i64 0, .int .i64 0]).drewN nq
      generalize World.drewN _ nq = wa at y0 b0
      have p0 := b0.cell 0
      have p1 := b0.cell 1
      have f0 := b0.frozen 0
      have f1 := b0.frozen 1
      have c0 := C0.out _ y0
      have c1 := C1.out _ y0
      have k0 := K0.out _ y0
      have k1 := K1.out _ y0
      have B0 := Lib.hid b0
      clear b0
      go_wp2_with fail
      go_region
      have b3 := ((B0.out.set 0 (.int .i64 yk)).set 1 (.int .i64 yx)).drew
      have r0 := b3.cell 0
      have r1 := b3.cell 1
      have y3 : Ext w (((wa.setCell ⟨w.heap.size, 0, none⟩ (.int .i64 yk)).setCell ⟨w.heap.size, 1, none⟩ (.int .i64 yx)).drew) := ((y0.set (p := ⟨w.heap.size, 0, none⟩) (Nat.le_refl _) _).set (p := ⟨w.heap.size, 1, none⟩) (Nat.le_refl _) _).drew
      clear b3
      go_wp2_with fail
      exact bodyPost_ret (v := .tuple #[.agg #[.int .i64 yk, .int .i64 yx], .bool true]) (by simp [results, Try.results38, go_sem, r0, r1]) rfl ⟨rfl, y3⟩
    · obtain rfl : p = L.length := by omega
      rw [hereP_no (by omega)]
      clear hb hr hc hp
      go_enter Try.func38, Try.ntmps38
      go_wp2_with fail
      go_quiet (fail)
      have y0 := x0.drewN nq
      have b0 := (Blk.new w 48 #[.int .i64 0, .int .i64 0]).drewN nq
      generalize World.drewN _ nq = wa at y0 b0
      have p0 := b0.cell 0
      have p1 := b0.cell 1
      have f0 := b0.frozen 0
      have f1 := b0.frozen 1
      have b3 := (b0.set 0 (.int .i64 0)).set 1 (.int .i64 0)
      have r0 := b3.cell 0
      have r1 := b3.cell 1
      have y3 : Ext w ((wa.setCell ⟨w.heap.size, 0, none⟩ (.int .i64 0)).setCell ⟨w.heap.size, 1, none⟩ (.int .i64 0)) := (y0.set (p := ⟨w.heap.size, 0, none⟩) (Nat.le_refl _) _).set (p := ⟨w.heap.size, 1, none⟩) (Nat.le_refl _) _
      clear b0 b3
      go_wp2_with fail
      exact bodyPost_ret (v := .tuple #[.agg #[.int .i64 0, .int .i64 0], .bool false]) (by simp [results, Try.results38, go_sem, r0, r1]) rfl ⟨rfl, y3⟩
end
theorem place_is {P : Nat → Prop} {a : A} {p : Int} {w : World} {B : Nat} (hk : Wks P w B a p) : Calls Try.prog 27 #[.pointer (some ⟨B, 0, none⟩)] w fun e w' => e = .returned (.int .i64 p) ∧ w' = w := place_any hk
set_option maxRecDepth 100000 in
set_option maxHeartbeats 8000000 in
/-- The walk stands where the document's does. -/
theorem stands_any {P : Nat → Prop} {a : A} {p : Int} {w : World} {B R lo : Nat} (hk : Wks P w B a p) (ha : AP P w a) (hm : a.size ≤ 100000) (hr : RW w R lo a.tree.pairs p) :
    Calls Try.prog 36 #[.pointer (some ⟨B, 0, none⟩), .pointer (some ⟨R, 0, none⟩)] w fun e w' => e = .returned (.bool true) ∧ Ext w w' := by
  have hpr := hk.range
  have hlen : a.tree.pairs.length = a.size := by rw [T.pairs_length, A.size_tree]
  have H1 := here_any hk ha hm
  have H2 := Lib.hid (fun (W : World) (X : Ext w W) => rhere_any (hr.ext X) (by rw [hlen]; exact hpr) (by omega))
  have PL := Lib.hid (fun (W : World) (X : Ext w W) => place_any (hk.ext X))
  rw [hereV_eq] at H1
  obtain ⟨yk, yx, yb, hf⟩ := hereP_form a.tree.pairs p
  rw [hf] at H1 H2
  obtain ⟨A, c, c0, c1, ff, hRl⟩ := hr.cells
  have HC := Lib.hid (fun (W : World) (X : Ext w W) => (X.cell (p := ⟨R, 1, none⟩) hRl).trans c1)
  clear hk ha hm hr hpr hlen hf c0 c1 ff
  go_enter Try.func36, Try.ntmps36
  go_wp2_with fail
  refine H1.mono ?_; rintro e w1 ⟨rfl, x1⟩
  go_wp2_with fail
  have b1 := Blk.new w1 48 #[.int .i64 yk, .int .i64 yx]
  refine (H2.out _ (x1.alloc _)).mono ?_; rintro e w2 ⟨rfl, x2⟩
  have b1 := b1.ext x2
  have y2 := (x1.alloc _).trans x2
  go_wp2_with fail
  have b2 := (Blk.new w2 48 #[.int .i64 yk, .int .i64 yx])
  have b1 := b1.alloc (.cells #[.int .i64 yk, .int .i64 yx] 48)
  have y3 := y2.alloc (.cells #[.int .i64 yk, .int .i64 yx] 48)
  have p0 := b1.cell 0
  have p1 := b1.cell 1
  have q0 := b2.cell 0
  have q1 := b2.cell 1
  have r1 := HC.out _ y3
  clear b1 b2
  go_quiet (first | (go_at_call 27; exact Calls.quiet_of_same (PL.out _ (y3.drewN _))))
  go_wp2_with fail
  go_ret
  exact ⟨rfl, y3.drewN _⟩
end Go.Proofs.Ytphpaaaaifpidaa
