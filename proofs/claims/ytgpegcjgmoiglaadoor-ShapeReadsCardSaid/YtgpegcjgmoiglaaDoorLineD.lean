/- shape.Line. -/
import Derived.Test.YtgpegcjgmoiglaaDoorLineW
import Derived.Laws.EntriesVeiled
namespace Go.Proofs.YtgpegcjgmoiglaaDoor
open Go.RowKit Go.Lib
set_option linter.unusedVariables false

theorem LS.start (w : World) :
    LS w ((w.alloc (.cells #[.pointer none, .slice none 0 0] 60)).alloc (.cells #[putF w.heap.size (w.heap.size + 1)] 53)) [] := by
  have b0 := IsBuilderF.of (fresh_isBuilder 60 5 w)
  have x1 := (Ext.refl w).alloc (.cells #[.pointer none, .slice none 0 0] 60)
  have e1 := alloc_size w (.cells #[.pointer none, .slice none 0 0] 60)
  have b2 := Blk.new (w.alloc (.cells #[.pointer none, .slice none 0 0] 60)) 53 #[putF w.heap.size (w.heap.size + 1)]
  rw [e1] at b2
  have x2 := (Ext.refl (w.alloc (.cells #[.pointer none, .slice none 0 0] 60))).alloc (.cells #[putF w.heap.size (w.heap.size + 1)] 53)
  exact ⟨x1.trans x2, IsBuilderF.ext b0 x2, b2⟩
set_option maxRecDepth 100000 in
set_option maxHeartbeats 4000000 in
theorem line_any {t : T} {v : Value} {w : World} (hl : Laid w) (h : Tr w v t) (hr : RngT t) (hs : t.size ≤ 9000000000) :
    Calls Tryd.prog 14 #[v] w fun e w' => e = .returned (.string ⟨(lineT t).toArray⟩) ∧ Ext w w' := by
  have PA := Lib.hid (fun (W : World) (S : LS w W []) => put_any w hl t h hr S (by simp; omega))
  have ST := Lib.hid (LS.start w)
  obtain ⟨p, rfl⟩ := h.ptr
  clear hl h hr hs
  go_enter Tryd.func14, Tryd.ntmps14
  go_wp2_with fail
  refine (PA.out _ ST.out).mono ?_; rintro e w1 ⟨rfl, s1⟩
  rw [List.nil_append] at s1
  go_wp2_with fail
  refine (Tryd.Builder_String_any_k w.heap.size w.heap.size (lineT t) w1 s1.b s1.x.size).mono ?_
  rintro e w2 ⟨rfl, _, x2, _⟩
  have y2 := Below.trans s1.x x2
  go_wp2_with fail
  go_ret
  exact ⟨rfl, y2⟩
end Go.Proofs.YtgpegcjgmoiglaaDoor
