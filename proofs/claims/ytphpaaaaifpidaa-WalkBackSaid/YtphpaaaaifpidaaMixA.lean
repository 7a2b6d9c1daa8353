/- Package mix: the table of steps, the iterator over it. -/
import Derived.RangeFuncNested
import Derived.RangeFuncBound
import Derived.RangeFuncCalls
import Derived.RangeFuncLeaves
import Derived.Shelf.Abstract
import Derived.RegionIn
import Derived.BigRegionIn
import Derived.WalkKit
import Derived.OwnWalkIn
import Derived.TacticsInMore
import Derived.LoopNIn
import Derived.LoopIn
import Derived.Test.YtphpaaaaifpidaaBase
import Derived.Test.YtphpaaaaifpidaaBits
import Derived.Test.YtphpaaaaifpidaaNode
namespace Go.Proofs.Ytphpaaaaifpidaa
open Go.RowKit Go.Shelf
attribute [local go_sem] Oper.semAt_some

/-- A word of 64 bits, as a value. -/
def U (x : BitVec 64) : Value := .int .u64 (x.toNat : Int)
/-- The table. -/
def shN : Nat → Nat | 0 => 30 | 1 => 27 | _ => 31
def byB : Nat → BitVec 64 | 0 => c0 | 1 => c1 | _ => 1#64
def stepE (k : Nat) : Value := .agg #[.int .i64 (shN k : Int), U (byB k)]
def tabCells : Array Value := #[.int .i64 30, .int .u64 13787848793156543929, .int .i64 27, .int .u64 10723151780598845931, .int .i64 31, .int .u64 1]
def tabV : Value := .agg tabCells

set_option maxHeartbeats 1000000 in
theorem all_any (w : World) : Calls Try.prog 93 #[] w fun e w' => e = .returned tabV ∧ Ext w w' := by
  go_enter Try.func93, Try.ntmps93
  go_wp2_with fail
  refine bodyPost_ret (v := tabV) (by simp [results, Try.results93, go_sem, tabV, tabCells]) rfl ?_
  exact ⟨rfl, (Ext.refl w).alloc _⟩

set_option maxHeartbeats 1000000 in
theorem steps_any (back : Bool) (w : World) : Calls Try.prog 90 #[.bool back] w fun e w' => ∃ lo hi bb bl, e = .returned (.func (.func 94) #[] #[.pointer (some ⟨bb, 0, none⟩), .pointer (some ⟨bl, 0, none⟩)]) ∧
    Ext w w' ∧ w.heap.size ≤ lo ∧ lo ≤ bb ∧ bb < hi ∧ lo ≤ bl ∧ bl < hi ∧ hi ≤ w'.heap.size ∧ Blk w' bb 4 #[.bool back] ∧ Blk w' bl 117 tabCells := by
  go_enter Try.func90, Try.ntmps90
  go_wp2_with fail
  refine (all_any _).mono ?_
  rintro e w1 ⟨rfl, x1⟩
  have hb := (Blk.new w 4 #[.bool back]).ext x1
  have hx := ((Ext.refl w).alloc (.cells #[.bool back] 4)).trans x1
  have hz := x1.size
  rw [alloc_size] at hz
  unfold tabV tabCells
  go_wp2_with fail
  go_ret
  refine ⟨w.heap.size, w1.heap.size + 1, w.heap.size, w1.heap.size, rfl, hx.alloc _, Nat.le_refl _, Nat.le_refl _, by omega, by omega, by omega, by simp, hb.alloc _, Blk.new w1 _ _⟩

/-- These blocks are as they were. -/
def KpR (lo hi : Nat) (W W' : World) : Prop := ∀ b, lo ≤ b → b < hi → W'.heap[b]? = W.heap[b]?
theorem KpR.refl (lo hi : Nat) (W : World) : KpR lo hi W W := fun _ _ _ => rfl
theorem KpR.trans {lo hi : Nat} {A B C : World} (h : KpR lo hi A B) (k : KpR lo hi B C) : KpR lo hi A C := fun b h1 h2 => (k b h1 h2).trans (h b h1 h2)
theorem KpR.put {lo hi : Nat} (W : World) {l : Nat} (hl : hi ≤ l) (o : Obj) : KpR lo hi W (W.putObj l o) := fun b _ h2 => World.putObj_heap_other (by omega)
theorem KpR.blk {lo hi : Nat} {W W' : World} (h : KpR lo hi W W') {b : Nat} {t : TypeId} {cs : Array Value} (hb : Blk W b t cs) (h1 : lo ≤ b) (h2 : b < hi) : Blk W' b t cs := (h b h1 h2).trans hb
/-- Which step the round k has. -/
def stepAt (back : Bool) (k : Nat) : Nat := if back then 2 - k else k
def came (back : Bool) (k : Nat) : List Nat := (List.range k).map (stepAt back)
theorem step0 : stepE 0 = .agg #[.int .i64 30, .int .u64 13787848793156543929] := rfl
theorem step1 : stepE 1 = .agg #[.int .i64 27, .int .u64 10723151780598845931] := rfl
theorem step2 : stepE 2 = .agg #[.int .i64 31, .int .u64 1] := rfl
theorem at_f (k : Nat) : stepAt false k = k := rfl
theorem at_t (k : Nat) : stepAt true k = 2 - k := rfl
theorem came_succ (back : Bool) (k : Nat) : came back (k + 1) = came back k ++ [stepAt back k] := by simp [came, List.range_succ]
theorem came_length (back : Bool) (k : Nat) : (came back k).length = k := by simp [came]

set_option maxRecDepth 100000 in
set_option maxHeartbeats 4000000 in
theorem steps1_in (F : Fence) (n : Nat) (h7 : F.fn 94) (hro : F.round = none) (hn : 1 ≤ n) (back : Bool) (l lo hi bb bl : Nat) (J Jx : List Nat → World → Prop)
    (hY : ∀ pre x W, J pre W → pre.length < 3 → YieldAt F (n - 1) Try.prog l #[stepE x] W fun e W' =>
      (e = .returned (.bool true) ∧ J (pre ++ [x]) W' ∧ KpR lo hi W W') ∨ (e = .returned (.bool false) ∧ Jx (pre ++ [x]) W'))
    (W : World) (hbb : Blk W bb 4 #[.bool back]) (hbl : Blk W bl 117 tabCells) (h1 : lo ≤ bb) (h2 : bb < hi) (h3 : lo ≤ bl) (h4 : bl < hi) (h0 : J [] W) :
    CallsIn F n Try.prog 94 #[.func (.yield l) #[] #[], .pointer (some ⟨bb, 0, none⟩), .pointer (some ⟨bl, 0, none⟩)] W fun e W' => (∃ v, e = .returned v) ∧
      ((∃ ys, ys = came back 3 ∧ J ys W') ∨ (∃ pre, (∃ k, k ≤ 3 ∧ pre = came back k) ∧ Jx pre W')) := by
  refine callsIn_of_wp Try.func94 rfl h7 ?_ hro
  simp only [Try.ntmps94, List.size_toArray, List.length_cons, List.length_nil, Nat.reduceAdd, Nat.reduceSub, Array.replicate_succ, Array.replicate_zero, List.push_toArray, List.append_toArray, List.nil_append, List.cons_append]
  gi_wp2
  gi_loopw [5] (fun i wr => ∃ k : Nat, k ≤ 3 ∧ i = .int .i64 k ∧ J (came back k) wr ∧ KpR lo hi W wr)
    (fun i _ => 3 - (intOf i).toNat)
  case atStart => exact ⟨0, Nat.zero_le _, rfl, h0, KpR.refl _ _ _⟩
  case round =>
    obtain ⟨k, hk, rfl, hJs, hnx⟩ := hrel
    have hb := (hnx.blk hbb h1 h2).cell 0
    have hL := hnx.blk hbl h3 h4
    have l0 := hL.cell 0
    have l1 := hL.cell 1
    have l2 := hL.cell 2
    have l3 := hL.cell 3
    have l4 := hL.cell 4
    have l5 := hL.cell 5
    by_cases hlt : k < 3
    · obtain ⟨fn, tmps, assign, body, hy, hR⟩ := hY _ (stepAt back k) wr hJs (by rw [came_length]; exact hlt)
      have hk3 : k = 0 ∨ k = 1 ∨ k = 2 := by omega
      have hc : ∀ j, j = k + 1 → came back j = came back k ++ [stepAt back k] := fun j e => by rw [e, came_succ]
      rcases hk3 with rfl | rfl | rfl <;> cases back <;> simp only [at_f, at_t, Nat.sub_zero, Nat.sub_self, Nat.reduceSub, step0, step1, step2] at hy <;> simp only [tabCells] at hb l0 l1 l2 l3 l4 l5
      all_goals
        gi_wp2
        refine hR.mono ?_
        rintro e W3 (⟨rfl, hJ3, hk3⟩ | ⟨rfl, hJx3⟩)
        · gi_wp2
          go_roundw
          case rel => first
            | exact ⟨1, by omega, rfl, by rw [hc 1 rfl]; exact hJ3, hnx.trans hk3⟩
            | exact ⟨2, by omega, rfl, by rw [hc 2 rfl]; exact hJ3, hnx.trans hk3⟩
            | exact ⟨3, by omega, rfl, by rw [hc 3 rfl]; exact hJ3, hnx.trans hk3⟩
          case measure => simp [intOf]
        · gi_wp2
          refine bodyPost_ret (results_none rfl _ _ _) rfl ?_
          exact ⟨⟨_, rfl⟩, .inr ⟨_, ⟨_, hlt, (came_succ _ _).symm⟩, hJx3⟩⟩
    · obtain rfl : k = 3 := by omega
      gi_wp2
      go_end0
      exact ⟨⟨_, rfl⟩, .inl ⟨_, rfl, hJs⟩⟩

theorem steps_stops (F : Fence) (n : Nat) (h7 : F.fn 94) (hro : F.round = none) (hn : 1 ≤ n) (back : Bool) (lo hi bb bl : Nat) (w : World) (hbb : Blk w bb 4 #[.bool back]) (hbl : Blk w bl 117 tabCells) (h1 : lo ≤ bb) (h2 : bb < hi) (h3 : lo ≤ bl) (h4 : bl < hi) :
    SeqStopsK F n Try.prog 94 #[.pointer (some ⟨bb, 0, none⟩), .pointer (some ⟨bl, 0, none⟩)] (fun x : Nat => #[stepE x]) (KpR lo hi) (fun ys => ys = came back 3) (fun pre => ∃ k, k ≤ 3 ∧ pre = came back k) 3 w :=
  fun l J Jx W hW _ _ hY h0 => steps1_in F n h7 hro hn back l lo hi bb bl J Jx hY W (hbb.ext hW) (hbl.ext hW) h1 h2 h3 h4 h0
end Go.Proofs.Ytphpaaaaifpidaa
