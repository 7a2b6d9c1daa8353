/- An item as it comes in. -/
import Derived.Test.YtlehcagpddgamaaFrameC
namespace Go.Proofs.Ytlehcagpddgamaa
open Go.RowKit Go.ChangeShapes Go.WideShapes Go.Deep

set_option maxRecDepth 100000 in
theorem item_in {H : Type} {enc : TypeId × Value → H} {w : World} {base : Nat} {spare : Nat → Bool} {held : Bool} {r : Reach} {b0 : Nat} {v : Value} {d : DataW H} {p : List MemPlace}
    (hv : Value.okWide Try.prog w r b0 70 v) (h : DataW.Trod enc Try.prog w base spare held 70 v d p) : ∃ x : Item, v = .agg #[.int .i64 x.key, .int .i64 x.val, .int .u64 x.tag] ∧ x.wf := by
  obtain ⟨cs, rfl, hsz⟩ := okWide_struct Try.underlying70 hv
  obtain ⟨m, hm⟩ := h
  obtain ⟨x, hx, wx⟩ := item_elem m _ _ hm
  refine ⟨x, ?_, wx⟩
  have h2 : cs.toList = x.enc := by simpa [Value.cells] using hx
  obtain ⟨cs⟩ := cs
  rw [show cs = x.enc from h2]
  rfl
end Go.Proofs.Ytlehcagpddgamaa
