/- Numbers, keys and items as they come in. -/
import Derived.Test.YtlehcagpddgamaaFrame
import Derived.Test.YtlehcagpddgamaaItem
import Derived.Test.YtlehcagpddgamaaDrawC
namespace Go.Proofs.Ytlehcagpddgamaa
open Go.RowKit Go.ChangeShapes Go.WideShapes Go.Deep

theorem cells_u64 : Try.prog.cellsOf 29 = 1 := by kernel_rfl
theorem cells_i64 : Try.prog.cellsOf 2 = 1 := by kernel_rfl
section
variable {H : Type} {enc : TypeId × Value → H} {w : World} {base : Nat} {spare : Nat → Bool} {held : Bool}
theorem u64_elem (n : Nat) (cs : List Value) (y : DataW H × List MemPlace) (h : DataW.trod enc Try.prog w base spare held n 29 cs = some y) : ∃ x : Int, cs = E64 x ∧ (Lit.int .u64 x).wf = true := by
  obtain ⟨a, e, _, wf⟩ := DataW.trod_int Try.underlying29 h
  exact ⟨a, e, wf⟩
theorem key_elem (n : Nat) (cs : List Value) (y : DataW H × List MemPlace) (h : DataW.trod enc Try.prog w base spare held n 2 cs = some y) : ∃ x : Int, cs = EK x ∧ (Lit.int .i64 x).wf = true := by
  obtain ⟨a, e, _, wf⟩ := DataW.trod_int Try.underlying2 h
  exact ⟨a, e, wf⟩
variable {r : Reach} {b0 : Nat} {v : Value} {d : DataW H} {p : List MemPlace}
set_option maxRecDepth 100000 in
/-- An argument that is a slice of numbers. -/
theorem u64s_in (hv : Value.okWide Try.prog w r b0 44 v) (h : DataW.Trod enc Try.prog w base spare held 44 v d p) : ∃ l : List Int, Sl E64 w v l ∧ l.length ≤ maxLen ∧ ∀ x ∈ l, (Lit.int .u64 x).wf = true :=
  sl_of_trod E64_len (by omega) (fun x : Int => (Lit.int .u64 x).wf = true) Try.underlying44 cells_u64 u64_elem hv h
set_option maxRecDepth 100000 in
/-- An argument that is a slice of keys. -/
theorem keys_in (hv : Value.okWide Try.prog w r b0 45 v) (h : DataW.Trod enc Try.prog w base spare held 45 v d p) : ∃ l : List Int, Sl EK w v l ∧ l.length ≤ maxLen ∧ ∀ x ∈ l, (Lit.int .i64 x).wf = true :=
  sl_of_trod EK_len (by omega) (fun x : Int => (Lit.int .i64 x).wf = true) Try.underlying45 cells_i64 key_elem hv h
end

structure Item.wf (x : Item) : Prop where
  key : (Lit.int .i64 x.key).wf = true
  val : (Lit.int .i64 x.val).wf = true
  tag : (Lit.int .u64 x.tag).wf = true
theorem cells_item : Try.prog.cellsOf 70 = 3 := by kernel_rfl
section
variable {H : Type} {enc : TypeId × Value → H} {w : World} {base : Nat} {spare : Nat → Bool} {held : Bool}
set_option maxRecDepth 100000 in
theorem item_elem (n : Nat) (cs : List Value) (y : DataW H × List MemPlace)
    (h : DataW.trod enc Try.prog w base spare held n 70 cs = some y) : ∃ x : Item, cs = x.enc ∧ x.wf := by
  obtain ⟨xs, m, rfl, rfl, hl, hlen, hf⟩ := DataW.trod_struct Try.underlying70 h
  rw [cells_item] at hl
  match cs, hl with
  | [c0, c1, c2], _ =>
    have g0 : DataW.trod enc Try.prog w base spare held m 2 (([c0, c1, c2].drop 0).take (Try.prog.cellsOf 2)) = xs[0]? := hf 0 _ rfl
    have g1 : DataW.trod enc Try.prog w base spare held m 2 (([c0, c1, c2].drop 1).take (Try.prog.cellsOf 2)) = xs[1]? := hf 1 _ rfl
    have g2 : DataW.trod enc Try.prog w base spare held m 29 (([c0, c1, c2].drop 2).take (Try.prog.cellsOf 29)) = xs[2]? := hf 2 _ rfl
    have k2 : Try.prog.cellsOf 2 = 1 := by kernel_rfl
    have k29 : Try.prog.cellsOf 29 = 1 := by kernel_rfl
    simp only [k2, k29, List.drop_zero, List.drop_succ_cons, List.take_succ_cons, List.take_zero] at g0 g1 g2
    match xs, hlen with
    | [x0, x1, x2], _ =>
      obtain ⟨a0, e0, _, w0⟩ := DataW.trod_int Try.underlying2 g0
      obtain ⟨a1, e1, _, w1⟩ := DataW.trod_int Try.underlying2 g1
      obtain ⟨a2, e2, _, w2⟩ := DataW.trod_int Try.underlying29 g2
      injection e0 with e0; injection e1 with e1; injection e2 with e2
      subst e0 e1 e2
      exact ⟨⟨a0, a1, a2⟩, rfl, ⟨w0, w1, w2⟩⟩
variable {r : Reach} {b0 : Nat} {v : Value} {d : DataW H} {p : List MemPlace}
set_option maxRecDepth 100000 in
/-- An argument that is a slice of items. -/
theorem items_in (hv : Value.okWide Try.prog w r b0 77 v) (h : DataW.Trod enc Try.prog w base spare held 77 v d p) : ∃ l : List Item, Sl Item.enc w v l ∧ l.length ≤ maxLen ∧ ∀ x ∈ l, x.wf :=
  sl_of_trod Item.enc_len (by omega) Item.wf Try.underlying77 cells_item item_elem hv h
end
end Go.Proofs.Ytlehcagpddgamaa
