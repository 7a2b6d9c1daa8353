/- Steps as they come in. -/
import Derived.Test.YtphpaaaaifpidaaFrame
import Derived.Test.YtphpaaaaifpidaaWalkO
namespace Go.Proofs.Ytphpaaaaifpidaa
open Go.RowKit Go.ChangeShapes Go.WideShapes Go.Deep

theorem cells_step : Try.prog.cellsOf 60 = 2 := by kernel_rfl
section
variable {H : Type} {enc : TypeId × Value → H} {w : World} {base : Nat} {spare : Nat → Bool} {held : Bool}
set_option maxRecDepth 100000 in
theorem step_elem (n : Nat) (cs : List Value) (y : DataW H × List MemPlace)
    (h : DataW.trod enc Try.prog w base spare held n 60 cs = some y) : ∃ x : Stp, cs = x.enc ∧ ((Lit.int .u8 x.d).wf = true ∧ (Lit.int .i64 x.n).wf = true) := by
  obtain ⟨xs, m, rfl, rfl, hl, hlen, hf⟩ := DataW.trod_struct Try.underlying60 h
  rw [cells_step] at hl
  match cs, hl with
  | [c0, c1], _ =>
    have g0 : DataW.trod enc Try.prog w base spare held m 5 (([c0, c1].drop 0).take (Try.prog.cellsOf 5)) = xs[0]? := hf 0 _ rfl
    have g1 : DataW.trod enc Try.prog w base spare held m 3 (([c0, c1].drop 1).take (Try.prog.cellsOf 3)) = xs[1]? := hf 1 _ rfl
    have k2 : Try.prog.cellsOf 5 = 1 := by kernel_rfl
    have k29 : Try.prog.cellsOf 3 = 1 := by kernel_rfl
    simp only [k2, k29, List.drop_zero, List.drop_succ_cons, List.take_succ_cons, List.take_zero] at g0 g1
    match xs, hlen with
    | [x0, x1], _ =>
      obtain ⟨a0, e0, _, w0⟩ := DataW.trod_int Try.underlying5 g0
      obtain ⟨a1, e1, _, w1⟩ := DataW.trod_int Try.underlying3 g1
      injection e0 with e0; injection e1 with e1
      subst e0 e1
      exact ⟨⟨a0, a1⟩, rfl, ⟨w0, w1⟩⟩
variable {r : Reach} {b0 : Nat} {v : Value} {d : DataW H} {p : List MemPlace}
set_option maxRecDepth 100000 in
/-- An argument that is a slice of steps. -/
theorem steps_in (hv : Value.okWide Try.prog w r b0 53 v) (h : DataW.Trod enc Try.prog w base spare held 53 v d p) : ∃ l : List Stp, Sl Stp.enc w v l ∧ l.length ≤ maxLen ∧ ∀ x ∈ l, (Lit.int .u8 x.d).wf = true ∧ (Lit.int .i64 x.n).wf = true :=
  sl_of_trod Stp.enc_len (by omega) (fun x : Stp => (Lit.int .u8 x.d).wf = true ∧ (Lit.int .i64 x.n).wf = true) Try.underlying53 cells_step step_elem hv h
end
end Go.Proofs.Ytphpaaaaifpidaa
