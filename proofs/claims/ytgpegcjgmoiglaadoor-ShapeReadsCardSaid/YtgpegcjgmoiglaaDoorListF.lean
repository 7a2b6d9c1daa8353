/- shape.List. -/
import Derived.Test.YtgpegcjgmoiglaaDoorListD
namespace Go.Proofs.YtgpegcjgmoiglaaDoor
open Go.RowKit
set_option linter.unusedVariables false

theorem LT.start (w : World) :
    LT w ((w.alloc (.cells #[.slice none 0 0] 22)).alloc (.cells #[addF w.heap.size (w.heap.size + 1)] 53)) (.slice none 0 0) [] := by
  have e1 := alloc_size w (.cells #[.slice none 0 0] 22)
  have b2 := Blk.new (w.alloc (.cells #[.slice none 0 0] 22)) 53 #[addF w.heap.size (w.heap.size + 1)]
  rw [e1] at b2
  exact ⟨((Ext.refl w).alloc _).alloc _, (Blk.new w _ _).alloc _, Own.nil_ (enc := Bead.enc) (sz := 7) _ _ _, b2⟩
set_option maxRecDepth 100000 in
set_option maxHeartbeats 4000000 in
theorem list_any {t : T} {v : Value} {w : World} (h : Tr w v t) (hs : t.size ≤ 100000) :
    Calls Tryd.prog 13 #[v] w fun e w' => ∃ vl, e = .returned vl ∧ Own Bead.enc 44 7 w.heap.size w' vl (bOf t) ∧ Ext w w' := by
  have PA := Lib.hid (fun (W : World) (S : LT w W (.slice none 0 0) []) => add_any w t h S (by simp; omega))
  have ST := Lib.hid (LT.start w)
  obtain ⟨p, rfl⟩ := h.ptr
  clear h hs
  go_enter Tryd.func13, Tryd.ntmps13
  go_wp2_with fail
  refine (PA.out _ ST.out).mono ?_; rintro e w1 ⟨v1, rfl, s1⟩
  rw [List.nil_append] at s1
  have c1 := s1.b.cell 0
  have f1 := s1.b.frozen 0
  obtain ⟨A, c, rfl, hc, hr⟩ := s1.o.sl Bead.enc_len (by omega)
  clear hc hr
  have S1 := Lib.hid s1
  clear s1
  go_wp2_with fail
  have b2 := S1.out.b.set 0 (.slice A (bOf t).length c)
  have d0 := b2.cell 0
  have x2 := S1.out.x.set (p := ⟨w.heap.size, 0, none⟩) (Nat.le_refl _) (.slice A (bOf t).length c)
  have o2 : Own Bead.enc 44 7 w.heap.size (w1.setCell ⟨w.heap.size, 0, none⟩ (.slice A (bOf t).length c)) (.slice A (bOf t).length c) (bOf t) := by
    have o := S1.out.o
    refine ⟨o.1, ?_⟩
    rcases o.2 with h2 | ⟨g, cap, cur, hv, hg, hh, r⟩
    · exact .inl h2
    · exact .inr ⟨g, cap, cur, hv, by omega, (Below.heap_setCell w1 ⟨w.heap.size, 0, none⟩ _ g (fun e => by have : g = w.heap.size := e; omega)).trans hh, r⟩
  generalize w1.setCell ⟨w.heap.size, 0, none⟩ (.slice A (bOf t).length c) = w2 at *
  exact bodyPost_ret (v := .slice A (bOf t).length c) (by simp [results, Tryd.results13, go_sem, d0]) rfl ⟨_, rfl, o2, x2⟩
end Go.Proofs.YtgpegcjgmoiglaaDoor
