/- The statements of joinerylaw08: alive, nothing. -/
import Derived.Test.YtlehcagpddgamaaDrawD
import Derived.Deep.RegionHeld3
namespace Go.Proofs.Ytlehcagpddgamaa
open Go.RowKit

section
variable {w : World} {B R D V : Nat} {l m : List Int} {key v : Int}
theorem next_is (h : Dr w B R D V l) (hv : drawV l key = v) (hm : l.tail = m) : Calls Try.prog 56 #[.pointer (some ⟨D, 0, none⟩), .int .i64 key] w fun e w' => e = .returned (.int .u64 v) ∧ Dr w' B R D V m ∧ Chg [R, D] w w' := by
  subst hv hm; exact next_any h key
theorem refNextD_is {Z : Nat} (h : RDr w D Z l) (hv : drawV l key = v) (hm : l.tail = m) : Calls Try.prog 60 #[.pointer (some ⟨D, 0, none⟩), .int .i64 key] w fun e w' => e = .returned (.int .u64 v) ∧ RDr w' D Z m ∧ Chg [D] w w' := by
  subst hv hm; exact refNextD_any h key
theorem left_is {n : Int} (h : Dr w B R D V l) (hn : (l.length : Int) = n) : Calls Try.prog 55 #[.pointer (some ⟨D, 0, none⟩)] w fun e w' => e = .returned (.int .i64 n) ∧ w' = w := by
  subst hn; exact left_at_ h
theorem of_is (hv : ((ofB key).toNat : Int) = v) : Calls Try.prog 50 #[.int .i64 key] w fun e w' => e = .returned (.int .u64 v) ∧ Ext w w' := by
  subst hv; exact of_any key w
theorem next_none_is (hv : ((ofB key).toNat : Int) = v) : Calls Try.prog 56 #[.pointer none, .int .i64 key] w fun e w' => e = .returned (.int .u64 v) ∧ Ext w w' := by
  subst hv; exact next_nil key w
end

set_option maxRecDepth 100000 in
set_option maxHeartbeats 1000000 in
theorem alive08 (w : World) : Calls Try.prog 52 #[] w fun e w' => e = .returned (.bool true) ∧ Ext w w' := by
  have hsl : Sl E64 (w.alloc (.cells #[.int .u64 5, .int .u64 6] 29)) (.slice (some ⟨w.heap.size, 0, none⟩) 2 2) [5, 6] := (Own.lit E64_len w [5, 6] #[.int .u64 5, .int .u64 6] rfl (Nat.le_refl _) (by decide)).sl E64_len (by omega)
  have x0 := (Ext.refl w).alloc (.cells #[.int .u64 5, .int .u64 6] 29)
  generalize hp : ((ofB 0).toNat : Int) = p
  have HP := Lib.hid hp
  clear hp
  go_enter Try.func52, Try.ntmps52
  go_wp2_with fail
  refine (new_draws hsl (by simp)).mono ?_
  rintro e w1 ⟨R, D, V, rfl, x1, d1⟩
  have q := eql_draws (some ⟨D, 0, none⟩)
  have y := x0.trans x1
  clear x1 hsl x0
  have hR : ∀ s ∈ [R, D], w.heap.size ≤ s := fun s hs => by
    have := d1.2
    simp at this hs
    omega
  go_wp2_with fail
  refine (next_is d1 (v := 5) (m := [6]) rfl rfl).mono ?_; rintro e w2 ⟨rfl, d2, g2⟩
  have y := g2.ext y hR
  clear d1 g2
  go_wp2_with fail
  refine (left_is d2 (n := 1) rfl).mono ?_; rintro e w' ⟨rfl, rfl⟩
  go_wp2_with fail
  refine (next_is d2 (v := 6) (m := []) rfl rfl).mono ?_; rintro e w3 ⟨rfl, d3, g3⟩
  have y := g3.ext y hR
  clear d2 g3
  go_wp2_with fail
  refine (next_is d3 (v := p) (m := []) HP.out rfl).mono ?_; rintro e w4 ⟨rfl, d4, g4⟩
  have y := g4.ext y hR
  clear d3 g4
  go_wp2_with fail
  refine (next_is d4 (v := p) (m := []) HP.out rfl).mono ?_; rintro e w5 ⟨rfl, d5, g5⟩
  have y := g5.ext y hR
  clear d4 g5
  go_wp2_with fail
  refine (of_is (v := p) HP.out).mono ?_; rintro e w6 ⟨rfl, x6⟩
  go_wp2_with fail
  go_ret
  exact ⟨rfl, y.trans x6⟩

set_option maxRecDepth 100000 in
set_option maxHeartbeats 4000000 in
theorem nothing_any (key : Int) (w : World) : Calls Try.prog 62 #[.int .i64 key] w fun e w' => e = .returned (.bool true) ∧ Ext w w' := by
  have hsl : Sl EK (w.alloc (.cells #[.int .i64 key, .int .i64 key] 2)) (.slice (some ⟨w.heap.size, 0, none⟩) 2 2) [key, key] := (Own.lit EK_len w [key, key] #[.int .i64 key, .int .i64 key] rfl (Nat.le_refl _) (by simp [maxLen])).sl EK_len (by omega)
  have x0 := (Ext.refl w).alloc (.cells #[.int .i64 key, .int .i64 key] 2)
  have q := eql_draws none
  generalize hp : ((ofB key).toNat : Int) = p
  have HP := Lib.hid hp
  go_enter Try.func62, Try.ntmps62
  go_wp2_with fail
  refine (many_nil hsl (by simp)).mono ?_
  rintro e w1 ⟨v, rfl, x1, o1⟩
  simp only [drawn, drawV, List.tail_nil, List.headD_nil, hp] at o1
  obtain ⟨A, c, rfl, hc, hr⟩ := o1.sl E64_len (by omega)
  obtain ⟨b, off, rfl, hb, hcs⟩ := hr (by simp)
  have c0 : w1.cell? ⟨b, off, none⟩ = some (.int .u64 p) := by simpa using hcs 0 (.int .u64 p) (by simp [flat, E64])
  have hl2 : [p, p].length = 2 := rfl
  rw [hl2]
  rw [hl2] at hc
  have y := x0.trans x1
  clear x0 x1 hcs hr o1 hsl hl2 hp
  go_wp2_with fail
  go_region_held3 (fun w' => w'.cell? ⟨b, off, none⟩ = some (.int .u64 p)) (go_keep)
    (first
      | (go_at_call 56; refine (next_none_is (v := p) HP.out).mono ?_; rintro e w2 ⟨rfl, x2⟩; have y : Ext w w2 := (by first | exact Ext.trans y x2 | exact (Ext.drew y).trans x2); have k2 := x2.cell (p := ⟨b, off, none⟩) hb; have b2 : b < w2.heap.size := Nat.lt_of_lt_of_le hb x2.size)
      | (go_at_call 50; refine (of_is (v := p) HP.out).mono ?_; rintro e w3 ⟨rfl, x3⟩; have y : Ext w w3 := (by first | exact Ext.trans y x3 | exact (Ext.drew y).trans x3); have k3 := x3.cell (p := ⟨b, off, none⟩) b2; have b2 : b < w3.heap.size := Nat.lt_of_lt_of_le b2 x3.size)
      | (go_at_call 55; refine (left_none _).mono ?_; rintro e w' ⟨rfl, rfl⟩)
      | (go_at_call 61; refine (copy_nil _).mono ?_; rintro e w' ⟨rfl, rfl⟩))
  go_wp2_with fail
  go_ret
  exact ⟨rfl, y⟩
end Go.Proofs.Ytlehcagpddgamaa
