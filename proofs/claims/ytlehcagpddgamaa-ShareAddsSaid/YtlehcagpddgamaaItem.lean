/- ITEMS in memory: their cells, slices of them; joineryref20.Same. -/
import Derived.Test.YtlehcagpddgamaaTreapLaw
import Derived.Test.YtlehcagpddgamaaNodeB
namespace Go.Proofs.Ytlehcagpddgamaa
open Go.RowKit

/-- The cells of an item. -/
def Item.enc (x : Item) : List Value := [.int .i64 x.key, .int .i64 x.val, .int .u64 x.tag]
theorem Item.enc_len (x : Item) : x.enc.length = 3 := rfl
theorem info_item : (Try.prog.info? 70).map (fun i => (i.zero, i.size, i.bytes)) = some (some (.agg #[.int .i64 0, .int .i64 0, .int .u64 0]), 3, 24) := by kernel_rfl
theorem itemE : Elem Try.prog 77 70 3 24 Item.enc := by
  obtain ⟨i0, hi, hz0, hz1, hz2⟩ := info_parts info_item
  refine ⟨Try.underlying77, ⟨i0, _, hi, hz0, hz1, hz2, rfl⟩, by omega, Item.enc_len, fun x u hu => ?_⟩
  simp only [Item.enc, List.mem_cons, List.not_mem_nil, or_false] at hu
  rcases hu with rfl | rfl | rfl <;> rfl
theorem neq_item (x y : Item) (w : World) : (binOp .neq 70 (.agg #[.int .i64 x.key, .int .i64 x.val, .int .u64 x.tag]) (.agg #[.int .i64 y.key, .int .i64 y.val, .int .u64 y.tag])).run Try.prog w = .ok (.bool (!decide (x = y))) w := by
  obtain ⟨a, b, c⟩ := x
  obtain ⟨a', b', c'⟩ := y
  go_simp
  (repeat' split) <;> simp [*]
theorem item_cells {w : World} {b off : Nat} {l : List Item} (h : Cells w b off (flat Item.enc l)) {i : Nat} {x : Item} (hx : l[i]? = some x) :
    w.cell? ⟨b, off + i * 3, none⟩ = some (.int .i64 x.key) ∧ w.cell? ⟨b, off + i * 3 + 1, none⟩ = some (.int .i64 x.val) ∧ w.cell? ⟨b, off + i * 3 + 2, none⟩ = some (.int .u64 x.tag) := by
  have h := Cells.elem Item.enc_len h hx
  exact ⟨h 0 _ rfl, h 1 _ rfl, h 2 _ rfl⟩

set_option maxHeartbeats 1000000 in
theorem sameI_any {la lb : List Item} {va vb : Value} {w : World} (ha : Sl Item.enc w va la) (hb : Sl Item.enc w vb lb) (hm : la.length ≤ 9223372036854775807) (hm' : lb.length ≤ 9223372036854775807) :
    Calls Try.prog 84 #[va, vb] w fun e w' => e = .returned (.bool (decide (la = lb))) ∧ Ext w w' := by
  obtain ⟨A, ca, rfl, hca, hra⟩ := ha
  obtain ⟨B, cb, rfl, hcb, hrb⟩ := hb
  by_cases hl : la.length = lb.length
  · have hne : ((la.length : Int) != (lb.length : Int)) = false := by simp [hl]
    have HL := Lib.hid hl
    clear hl
    go_enter Try.func84, Try.ntmps84
    go_wp2_with fail
    go_loopw [5] (fun i wr => ∃ k : Nat, k ≤ la.length ∧ i = .int .i64 k ∧ la.take k = lb.take k ∧ Ext w wr) (fun i _ => la.length - (intOf i).toNat)
    case atStart => exact ⟨0, Nat.zero_le _, rfl, by simp, Ext.refl w⟩
    case round =>
      obtain ⟨k, hk, rfl, htk, hx⟩ := hrel
      have HT := Lib.hid htk
      clear htk
      by_cases hlt : k < la.length
      · have hlt' : k < lb.length := by have := HL.out; omega
        obtain ⟨b, off, rfl, hblt, hcells⟩ := hra (by intro h; rw [h] at hlt; simp at hlt)
        obtain ⟨b', off', rfl, hblt', hcells'⟩ := hrb (by intro h; rw [h] at hlt'; simp at hlt')
        have hxk : la[k]? = some la[k] := List.getElem?_eq_getElem hlt
        have hyk : lb[k]? = some lb[k] := List.getElem?_eq_getElem hlt'
        generalize la[k] = x at hxk
        generalize lb[k] = y at hyk
        obtain ⟨c0, c1, c2⟩ := item_cells (hcells.ext hx hblt) hxk
        obtain ⟨d0, d1, d2⟩ := item_cells (hcells'.ext hx hblt') hyk
        have HX := Lib.hid hxk
        have HY := Lib.hid hyk
        have hn := neq_item x y
        have hlt2 : (k : Int) < (lb.length : Int) := by omega
        clear hxk hyk hcells hcells' hra hrb
        go_wp2_with fail
        go_quiet (fail)
        go_wp2_with fail
        · have hne : (!decide (x = y)) = true := by assumption
          go_ret
          exact ⟨congrArg (fun t => Ending.returned (.bool t)) (same_no HX.out HY.out hne), hx.drewN nq⟩
        · have heq : (!decide (x = y)) = false := by assumption
          exact ⟨⟨k + 1, by omega, by go_num, take_same HT.out HX.out HY.out (by simpa using heq), hx.drewN nq⟩, by simp [intOf]; omega⟩
      · have hge : la.length ≤ k := by omega
        go_wp2_with fail
        go_ret
        exact ⟨congrArg (fun t => Ending.returned (.bool t)) (same_yes HT.out HL.out hge), hx⟩
  · have hne : ((la.length : Int) != (lb.length : Int)) = true := by simp; omega
    have hl' : ¬ (la = lb) := by rintro rfl; exact hl rfl
    have HL := Lib.hid hl'
    clear hl hl'
    go_enter Try.func84, Try.ntmps84
    go_wp2_with fail
    go_ret
    exact ⟨congrArg (fun t => Ending.returned (.bool t)) (decide_eq_false HL.out).symm, Ext.refl w⟩
end Go.Proofs.Ytlehcagpddgamaa
