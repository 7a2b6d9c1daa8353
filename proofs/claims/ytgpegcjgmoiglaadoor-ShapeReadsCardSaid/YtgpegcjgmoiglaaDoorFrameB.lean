/- Beads as they come in. -/
import Derived.Test.YtgpegcjgmoiglaaDoorFrame
import Derived.Test.YtgpegcjgmoiglaaDoorBead
namespace Go.Proofs.YtgpegcjgmoiglaaDoor
open Go.RowKit Go.ChangeShapes Go.WideShapes Go.Deep

structure Bead.wf (x : Bead) : Prop where
  key : (Lit.int .i64 x.key).wf = true
  val : (Lit.int .i64 x.val).wf = true
  sum : (Lit.int .i64 x.sum).wf = true
  size : (Lit.int .i64 x.size).wf = true
  tag : (Lit.int .u64 x.tag).wf = true

theorem cells_bead : Tryd.prog.cellsOf 44 = 7 := by kernel_rfl
set_option maxRecDepth 100000 in
theorem bead_elem {H : Type} {enc : TypeId × Value → H} {w : World} {base : Nat} {spare : Nat → Bool} {held : Bool} (n : Nat) (cs : List Value) (y : DataW H × List MemPlace)
    (h : DataW.trod enc Tryd.prog w base spare held n 44 cs = some y) : ∃ x : Bead, cs = x.enc ∧ x.wf := by
  obtain ⟨xs, m, rfl, rfl, hl, hlen, hf⟩ := DataW.trod_struct Tryd.underlying44 h
  rw [cells_bead] at hl
  match cs, hl with
  | [c0, c1, c2, c3, c4, c5, c6], _ =>
    have g0 : DataW.trod enc Tryd.prog w base spare held m 2 (([c0, c1, c2, c3, c4, c5, c6].drop 0).take (Tryd.prog.cellsOf 2)) = xs[0]? := hf 0 _ rfl
    have g1 : DataW.trod enc Tryd.prog w base spare held m 2 (([c0, c1, c2, c3, c4, c5, c6].drop 1).take (Tryd.prog.cellsOf 2)) = xs[1]? := hf 1 _ rfl
    have g2 : DataW.trod enc Tryd.prog w base spare held m 2 (([c0, c1, c2, c3, c4, c5, c6].drop 2).take (Tryd.prog.cellsOf 2)) = xs[2]? := hf 2 _ rfl
    have g3 : DataW.trod enc Tryd.prog w base spare held m 3 (([c0, c1, c2, c3, c4, c5, c6].drop 3).take (Tryd.prog.cellsOf 3)) = xs[3]? := hf 3 _ rfl
    have g4 : DataW.trod enc Tryd.prog w base spare held m 42 (([c0, c1, c2, c3, c4, c5, c6].drop 4).take (Tryd.prog.cellsOf 42)) = xs[4]? := hf 4 _ rfl
    have g5 : DataW.trod enc Tryd.prog w base spare held m 4 (([c0, c1, c2, c3, c4, c5, c6].drop 5).take (Tryd.prog.cellsOf 4)) = xs[5]? := hf 5 _ rfl
    have g6 : DataW.trod enc Tryd.prog w base spare held m 4 (([c0, c1, c2, c3, c4, c5, c6].drop 6).take (Tryd.prog.cellsOf 4)) = xs[6]? := hf 6 _ rfl
    have k2 : Tryd.prog.cellsOf 2 = 1 := by kernel_rfl
    have k3 : Tryd.prog.cellsOf 3 = 1 := by kernel_rfl
    have k29 : Tryd.prog.cellsOf 42 = 1 := by kernel_rfl
    have k4 : Tryd.prog.cellsOf 4 = 1 := by kernel_rfl
    simp only [k2, k3, k29, k4, List.drop_zero, List.drop_succ_cons, List.take_succ_cons, List.take_zero] at g0 g1 g2 g3 g4 g5 g6
    match xs, hlen with
    | [x0, x1, x2, x3, x4, x5, x6], _ =>
      obtain ⟨a0, e0, _, w0⟩ := DataW.trod_int Tryd.underlying2 g0
      obtain ⟨a1, e1, _, w1⟩ := DataW.trod_int Tryd.underlying2 g1
      obtain ⟨a2, e2, _, w2⟩ := DataW.trod_int Tryd.underlying2 g2
      obtain ⟨a3, e3, _, w3⟩ := DataW.trod_int Tryd.underlying3 g3
      obtain ⟨a4, e4, _, w4⟩ := DataW.trod_int Tryd.underlying42 g4
      obtain ⟨a5, e5, _⟩ := DataW.trod_bool Tryd.underlying4 g5
      obtain ⟨a6, e6, _⟩ := DataW.trod_bool Tryd.underlying4 g6
      injection e0 with e0; injection e1 with e1; injection e2 with e2; injection e3 with e3; injection e4 with e4; injection e5 with e5; injection e6 with e6
      subst e0 e1 e2 e3 e4 e5 e6
      exact ⟨⟨a0, a1, a2, a3, a4, a5, a6⟩, rfl, ⟨w0, w1, w2, w3, w4⟩⟩
set_option maxRecDepth 100000 in
/-- An argument that is a slice of beads. -/
theorem beads_in {H : Type} {enc : TypeId × Value → H} {w : World} {base : Nat} {spare : Nat → Bool} {held : Bool} {r : Reach} {b0 : Nat} {v : Value} {d : DataW H} {p : List MemPlace}
    (hv : Value.okWide Tryd.prog w r b0 22 v) (h : DataW.Trod enc Tryd.prog w base spare held 22 v d p) : ∃ l : List Bead, Sl Bead.enc w v l ∧ l.length ≤ maxLen ∧ ∀ x ∈ l, x.wf :=
  sl_of_trod Bead.enc_len (by omega) Bead.wf Tryd.underlying22 cells_bead bead_elem hv h
end Go.Proofs.YtgpegcjgmoiglaaDoor
