/- Rows of nodes by number, as they come in. -/
import Derived.Test.YtlehcagpddgamaaFrameC
namespace Go.Proofs.Ytlehcagpddgamaa
open Go.RowKit Go.ChangeShapes Go.WideShapes Go.Deep

/-- A node of a row: the numbers of its sides. -/
structure NodeR where
  left : Int
  right : Int
def NodeR.enc (x : NodeR) : List Value := [.int .i64 x.left, .int .i64 x.right]
theorem NodeR.enc_len (x : NodeR) : x.enc.length = 2 := rfl
structure NodeR.wf (x : NodeR) : Prop where
  left : (Lit.int .i64 x.left).wf = true
  right : (Lit.int .i64 x.right).wf = true
theorem cells_noder : Try.prog.cellsOf 159 = 2 := by kernel_rfl
section
variable {H : Type} {enc : TypeId × Value → H} {w : World} {base : Nat} {spare : Nat → Bool} {held : Bool}
set_option maxRecDepth 100000 in
theorem noder_elem (n : Nat) (cs : List Value) (y : DataW H × List MemPlace)
    (h : DataW.trod enc Try.prog w base spare held n 159 cs = some y) : ∃ x : NodeR, cs = x.enc ∧ x.wf := by
  obtain ⟨xs, m, rfl, rfl, hl, hlen, hf⟩ := DataW.trod_struct Try.underlying159 h
  rw [cells_noder] at hl
  match cs, hl with
  | [c0, c1], _ =>
    have g0 : DataW.trod enc Try.prog w base spare held m 3 (([c0, c1].drop 0).take (Try.prog.cellsOf 3)) = xs[0]? := hf 0 _ rfl
    have g1 : DataW.trod enc Try.prog w base spare held m 3 (([c0, c1].drop 1).take (Try.prog.cellsOf 3)) = xs[1]? := hf 1 _ rfl
    have k2 : Try.prog.cellsOf 3 = 1 := by kernel_rfl
    simp only [k2, List.drop_zero, List.drop_succ_cons, List.take_succ_cons, List.take_zero] at g0 g1
    match xs, hlen with
    | [x0, x1], _ =>
      obtain ⟨a0, e0, _, w0⟩ := DataW.trod_int Try.underlying3 g0
      obtain ⟨a1, e1, _, w1⟩ := DataW.trod_int Try.underlying3 g1
      injection e0 with e0; injection e1 with e1
      subst e0 e1
      exact ⟨⟨a0, a1⟩, rfl, ⟨w0, w1⟩⟩
variable {r : Reach} {b0 : Nat} {v : Value} {d : DataW H} {p : List MemPlace}
set_option maxRecDepth 100000 in
/-- An argument that is a row of nodes. -/
theorem nodes_in (hv : Value.okWide Try.prog w r b0 59 v) (h : DataW.Trod enc Try.prog w base spare held 59 v d p) : ∃ l : List NodeR, Sl NodeR.enc w v l ∧ l.length ≤ maxLen ∧ ∀ x ∈ l, x.wf :=
  sl_of_trod NodeR.enc_len (by omega) NodeR.wf Try.underlying59 cells_noder noder_elem hv h
end
end Go.Proofs.Ytlehcagpddgamaa
