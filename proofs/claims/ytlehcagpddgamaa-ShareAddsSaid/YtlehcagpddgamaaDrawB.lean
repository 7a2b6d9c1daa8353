/- Package draw: Next, Many, Copy; the document's draws. -/
import Derived.Test.YtlehcagpddgamaaDraw
namespace Go.Proofs.Ytlehcagpddgamaa
open Go.RowKit

/-- What is drawn, and what is left. -/
def drawV (l : List Int) (key : Int) : Int := l.headD ((ofB key).toNat : Int)
theorem neq_draws (a : Option Addr) : ∀ w : World, (binOp .neq 47 (.pointer a) (.pointer none)).run Try.prog w = .ok (.bool a.isSome) w := by
  intro w
  cases a <;> go_simp
theorem eql_draws (a : Option Addr) : ∀ w : World, (binOp .eql 47 (.pointer a) (.pointer none)).run Try.prog w = .ok (.bool a.isNone) w := by
  intro w
  cases a <;> go_simp

section
variable {w : World} {B R D V : Nat} {l : List Int} (h : Dr w B R D V l) (key : Int)
include h
set_option maxHeartbeats 1000000 in
theorem next_any : Calls Try.prog 56 #[.pointer (some ⟨D, 0, none⟩), .int .i64 key] w fun e w' => e = .returned (.int .u64 (drawV l key)) ∧ Dr w' B R D V l.tail ∧ Chg [R, D] w w' := by
  have hn := next_fn h
  obtain ⟨⟨sv, _, h2, _⟩, _⟩ := h
  have c0 := h2.cell 1
  have q := neq_draws (some ⟨D, 0, none⟩)
  clear h2
  go_enter Try.func56, Try.ntmps56
  go_wp2_with fail
  refine hn.mono ?_
  rintro e w1 ⟨rfl, d1, k1⟩
  cases l with
  | nil =>
    simp only [nextV]
    go_wp2_with fail
    refine (of_any key _).mono ?_
    rintro e w2 ⟨rfl, x2⟩
    unfold U
    go_wp2_with fail
    go_ret
    exact ⟨rfl, d1.ext x2, k1.trans (x2.chg _)⟩
  | cons x l =>
    simp only [nextV]
    go_wp2_with fail
    go_ret
    exact ⟨rfl, d1, k1⟩
end
set_option maxHeartbeats 1000000 in
theorem next_nil (key : Int) (w : World) : Calls Try.prog 56 #[.pointer none, .int .i64 key] w fun e w' => e = .returned (.int .u64 ((ofB key).toNat : Int)) ∧ Ext w w' := by
  have q := neq_draws none
  go_enter Try.func56, Try.ntmps56
  go_wp2_with fail
  refine (of_any key _).mono ?_
  rintro e w2 ⟨rfl, x2⟩
  unfold U
  go_wp2_with fail
  go_ret
  exact ⟨rfl, x2⟩
set_option maxHeartbeats 1000000 in
theorem left_none (w : World) : Calls Try.prog 55 #[.pointer none] w fun e w' => e = .returned (.int .i64 0) ∧ w' = w := by
  have q := eql_draws none
  go_enter Try.func55, Try.ntmps55
  go_wp2_with fail
  go_ret
  exact ⟨rfl, rfl⟩
set_option maxHeartbeats 1000000 in
theorem copy_nil (w : World) : Calls Try.prog 61 #[.pointer none] w fun e w' => e = .returned (.pointer none) ∧ w' = w := by
  have q := eql_draws none
  go_enter Try.func61, Try.ntmps61
  go_wp2_with fail
  go_ret
  exact ⟨rfl, rfl⟩
set_option maxHeartbeats 1000000 in
theorem copy_any {w : World} {B R D V : Nat} {l : List Int} (h : Dr w B R D V l) (hl : l.length ≤ 1000) : Calls Try.prog 61 #[.pointer (some ⟨D, 0, none⟩)] w fun e w' => ∃ R' D' V', e = .returned (.pointer (some ⟨D', 0, none⟩)) ∧ Ext w w' ∧ Dr w' w.heap.size R' D' V' l := by
  have q := eql_draws (some ⟨D, 0, none⟩)
  obtain ⟨⟨sv, _, h2, _, h4⟩, _⟩ := h
  have hn := new_draws h4.sl hl
  have c0 := h2.cell 0
  clear h2 hl
  obtain ⟨A, c, rfl, hc, _⟩ := h4
  clear hc
  go_enter Try.func61, Try.ntmps61
  go_wp2_with fail
  refine hn.mono ?_
  rintro e w1 ⟨R', D', V', rfl, x1, d1⟩
  go_wp2_with fail
  go_ret
  exact ⟨R', D', V', rfl, x1, d1⟩
end Go.Proofs.Ytlehcagpddgamaa
