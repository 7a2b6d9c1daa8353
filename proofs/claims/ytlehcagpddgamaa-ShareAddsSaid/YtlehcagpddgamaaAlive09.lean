/- The examples of joinerylaw09. -/
import Derived.Test.YtlehcagpddgamaaWith
import Derived.LaidEqlPtr
import Derived.Lib.Builder
namespace Go.Proofs.Ytlehcagpddgamaa
open Go.RowKit

theorem info_node : ∃ j, Try.prog.info? 145 = some j ∧ j.size ≠ 0 := by
  have h : (Try.prog.info? 145).map (fun i => (i.zero, i.size, i.bytes)) = some (some (.agg #[.int .i64 0, .int .i64 0, .int .i64 0, .int .u64 0, .int .i64 0, .pointer none, .pointer none]), 7, 56) := by kernel_rfl
  obtain ⟨i0, hi, _, hz, _⟩ := info_parts h
  exact ⟨i0, hi, by omega⟩
/-- A pointer held against itself. -/
theorem eq_self (p : Option Addr) : ∀ w : World, (binOp .eql 26 (.pointer p) (.pointer p)).run Try.prog w = .ok (.bool true) w := by
  intro w
  cases p with
  | none => go_simp
  | some a => obtain ⟨j, hj, _⟩ := info_node; exact run_eql_ptr_same w a Try.underlying26 hj
theorem ne_self (p : Option Addr) : ∀ w : World, (binOp .neq 26 (.pointer p) (.pointer p)).run Try.prog w = .ok (.bool false) w := by
  intro w
  cases p with
  | none => go_simp
  | some a => obtain ⟨j, hj, _⟩ := info_node; exact Lib.run_neq_ptr_same w a Try.underlying26 hj

section
variable {t : T} {v : Value} {w : World} (h : Tr w v t) {n : Int}
include h
theorem size_is (hn : wrap64 (t.size : Int) = n) : Calls Try.prog 40 #[v] w fun e w' => e = .returned (.int .i64 n) ∧ Ext w w' := by subst hn; exact size_any h
theorem sum_is (hn : wrap64 t.sum = n) : Calls Try.prog 41 #[v] w fun e w' => e = .returned (.int .i64 n) ∧ Ext w w' := by subst hn; exact sum_any h
theorem key_is (hn : t.key = n) : Calls Try.prog 112 #[v] w fun e w' => e = .returned (.int .i64 n) ∧ Ext w w' := by subst hn; exact key_any h
theorem val_is (hn : t.val = n) : Calls Try.prog 131 #[v] w fun e w' => e = .returned (.int .i64 n) ∧ Ext w w' := by subst hn; exact val_any h
theorem tag_is (hn : t.tag = n) : Calls Try.prog 132 #[v] w fun e w' => e = .returned (.int .u64 n) ∧ Ext w w' := by subst hn; exact tag_any h
end
theorem nil_tr (w : World) : Tr w (.pointer none) .nil := rfl
theorem At.tr {w : World} {b : Nat} {k x g : Int} {l r : T} {vl vr : Value} (h : At w b k x g l r vl vr) (hl : Tr w vl l) (hr : Tr w vr r) : Tr w (.pointer (some ⟨b, 0, none⟩)) (.node k x g l r) := ⟨b, vl, vr, rfl, h, hl, hr⟩

set_option maxRecDepth 100000 in
set_option maxHeartbeats 4000000 in
theorem alive09 (w : World) : Calls Try.prog 31 #[] w fun e w' => e = .returned (.bool true) ∧ Ext w w' := by
  go_enter Try.func31, Try.ntmps31
  go_wp2_with fail
  refine (new_any (l := .nil) (r := .nil) 5 7 1 (nil_tr w) (nil_tr w)).mono ?_; rintro e w1 ⟨u, rfl, x1, ba, rfl, hba, ata⟩
  have ta := ata.tr (nil_tr w1) (nil_tr w1)
  go_wp2_with fail
  refine (new_any 6 (-9) 2 ta ta).mono ?_; rintro e w2 ⟨u, rfl, x2, bb, rfl, hbb, atb⟩
  have tb := atb.tr (ta.ext x2) (ta.ext x2)
  have y := x1.trans x2
  have ta := ta.ext x2
  clear hba hbb x1 x2 ata
  go_wp2_with fail
  refine (left_nil _).mono ?_; rintro e w' ⟨rfl, rfl⟩
  go_wp2_with fail
  refine (right_nil _).mono ?_; rintro e w' ⟨rfl, rfl⟩
  go_wp2_with fail
  refine (key_is (nil_tr _) (n := 0) rfl).mono ?_; rintro e w3 ⟨rfl, x3⟩
  have y := y.trans x3
  have ta := ta.ext x3
  have tb := tb.ext x3
  have atb := atb.ext x3
  clear x3
  go_wp2_with fail
  refine (val_is (nil_tr _) (n := 0) rfl).mono ?_; rintro e w4 ⟨rfl, x4⟩
  have y := y.trans x4
  have ta := ta.ext x4
  have tb := tb.ext x4
  have atb := atb.ext x4
  clear x4
  go_wp2_with fail
  refine (tag_is (nil_tr _) (n := 0) rfl).mono ?_; rintro e w5 ⟨rfl, x5⟩
  have y := y.trans x5
  have ta := ta.ext x5
  have tb := tb.ext x5
  have atb := atb.ext x5
  clear x5
  go_wp2_with fail
  refine (size_is (nil_tr _) (n := 0) (by simp [T.size, wrap64])).mono ?_; rintro e w6 ⟨rfl, x6⟩
  have y := y.trans x6
  have ta := ta.ext x6
  have tb := tb.ext x6
  have atb := atb.ext x6
  clear x6
  go_wp2_with fail
  refine (sum_is (nil_tr _) (n := 0) (by simp [T.sum, wrap64])).mono ?_; rintro e w7 ⟨rfl, x7⟩
  have y := y.trans x7
  have ta := ta.ext x7
  have tb := tb.ext x7
  have atb := atb.ext x7
  clear x7
  go_wp2_with fail
  refine (with_nil 1 1 _).mono ?_; rintro e w' ⟨rfl, rfl⟩
  go_wp2_with fail
  refine (size_is ta (n := 1) (by simp [T.size, wrap64])).mono ?_; rintro e w8 ⟨rfl, x8⟩
  have y := y.trans x8
  have ta := ta.ext x8
  have tb := tb.ext x8
  have atb := atb.ext x8
  clear x8
  go_wp2_with fail
  refine (sum_is ta (n := 7) (by simp [T.sum, wrap64])).mono ?_; rintro e w9 ⟨rfl, x9⟩
  have y := y.trans x9
  have ta := ta.ext x9
  have tb := tb.ext x9
  have atb := atb.ext x9
  clear x9
  go_wp2_with fail
  refine (size_is tb (n := 3) (by simp [T.size, wrap64])).mono ?_; rintro e w10 ⟨rfl, x10⟩
  have y := y.trans x10
  have ta := ta.ext x10
  have tb := tb.ext x10
  have atb := atb.ext x10
  clear x10
  go_wp2_with fail
  refine (sum_is tb (n := 5) (by simp [T.sum, wrap64])).mono ?_; rintro e w11 ⟨rfl, x11⟩
  have y := y.trans x11
  have ta := ta.ext x11
  have tb := tb.ext x11
  have atb := atb.ext x11
  clear x11
  go_wp2_with fail
  have hs := eq_self (some ⟨ba, 0, none⟩)
  refine (left_at atb).mono ?_; rintro e w' ⟨rfl, rfl⟩
  go_wp2_with fail
  refine (right_at atb).mono ?_; rintro e w' ⟨rfl, rfl⟩
  go_wp2_with fail
  refine (key_is tb (n := 6) rfl).mono ?_; rintro e w12 ⟨rfl, x12⟩
  have y := y.trans x12
  have ta := ta.ext x12
  have tb := tb.ext x12
  have atb := atb.ext x12
  clear x12
  go_wp2_with fail
  go_ret
  exact ⟨rfl, y⟩
end Go.Proofs.Ytlehcagpddgamaa
