/- shape.Make. -/
import Derived.Test.YtgpegcjgmoiglaaDoorTake
import Derived.Test.YtgpegcjgmoiglaaDoorReadE
namespace Go.Proofs.YtgpegcjgmoiglaaDoor
open Go.RowKit Go.Lib
set_option linter.unusedVariables false

def OptQ (R : Nat) (r : Option T) (o : Option Value) (w : World) : Prop := (∃ t v, r = some t ∧ o = some v ∧ TrX R w v t) ∨ (r = none ∧ o = none)
set_option maxRecDepth 100000 in
set_option maxHeartbeats 4000000 in
theorem makeIn_any {w0 w : World} {L P : Nat} {l : List Bead} {v : Value} (x : Ext w0 w) (hL : w0.heap.size ≤ L) (hLP : L ≠ P) (hb : Blk w L 22 #[v]) (hp : Blk w P 79 #[takeF L P]) (hs : Sl Bead.enc w0 v l) (hm : l.length ≤ 1000000000) :
    Calls Tryd.prog 48 #[.pointer (some ⟨P, 0, none⟩), .pointer (some ⟨L, 0, none⟩)] w fun e w' => Chg [L] w w' ∧ Outcome (OptQ L (makeT l)) e w' := by
  have TR := Lib.hid (take_any hL hLP 4096 (is := !l.isEmpty) (l := l) (v := v) (iL := 4096) x hb hp hs hm (by omega) rfl)
  have c0 := hb.cell 0
  have cp : w.cell? ⟨P, 0, none⟩ = some (.func (.func 47) #[] #[.pointer (some ⟨L, 0, none⟩), .pointer (some ⟨P, 0, none⟩)]) := hp.cell 0
  have f0 := hb.frozen 0
  have HI := Lib.hid (And.intro hL hLP)
  obtain ⟨A, c, rfl, hc, hr⟩ := hs
  have hie := Lib.hid (show decide (0 < l.length) = !l.isEmpty by cases l <;> simp)
  clear hb hp hm hc hr hL hLP
  go_enter Tryd.func48, Tryd.ntmps48
  go_wp2_with fail
  rw [hie.out]
  refine TR.out.mono ?_; rintro e w1 ⟨cg, p⟩
  cases ec : takeS 4096 (!l.isEmpty) l with
  | none =>
    rw [ec] at p
    subst p
    have hres : Hid (makeT l = none) := Lib.hid (by unfold makeT; rw [ec])
    clear ec
    go_wp2_with fail
    exact ⟨rfl, cg, Or.inr ⟨rfl, Or.inr ⟨hres.out, rfl⟩⟩⟩
  | some y =>
    obtain ⟨t, s⟩ := y
    rw [ec] at p
    obtain ⟨v, v', rfl, ht, kb, kn⟩ := p
    obtain ⟨pa, rfl⟩ := ht.ptr
    have d0 := kb.cell 0
    obtain ⟨A', c', rfl, hc', hr'⟩ := kn
    have HT := Lib.hid (And.intro ht cg)
    clear ht cg c0 f0 cp kb hc' hr'
    cases s with
    | nil =>
      have hres : Hid (makeT l = some t) := Lib.hid (by unfold makeT; rw [ec])
      clear ec
      go_wp2_with fail
      refine (must_ok _).mono ?_; rintro e wz ⟨rfl, rfl⟩
      go_wp2_with fail
      go_ret
      exact ⟨HT.out.2, Or.inl ⟨_, rfl, Or.inl ⟨_, _, hres.out, rfl, HT.out.1⟩⟩⟩
    | cons d s =>
      have hres : Hid (makeT l = none) := Lib.hid (by unfold makeT; rw [ec])
      clear ec
      have hnz : (((d :: s).length : Int) == 0) = false := by simp only [List.length_cons]; rw [beq_eq_false_iff_ne]; omega
      generalize ((d :: s).length) = k at *
      go_wp2_with fail
      refine (must_no _).mono ?_; rintro e wz ⟨rfl, rfl⟩
      go_wp2_with fail
      exact ⟨rfl, HT.out.2, Or.inr ⟨rfl, Or.inr ⟨hres.out, rfl⟩⟩⟩
set_option maxRecDepth 100000 in
set_option maxHeartbeats 4000000 in
theorem makeS_any {w : World} {l : List Bead} {v : Value} (hs : Sl Bead.enc w v l) (hm : l.length ≤ 65536) :
    Calls Tryd.prog 20 #[v] w fun e w' => Ext w w' ∧ MadeR (makeT l) e w' := by
  have hG : ∀ (a b : Addr) (w : World), (callFunc 48 #[.pointer (some a), .pointer (some b)]).run Tryd.prog w = .ok (.enter 48 #[.pointer (some a), .pointer (some b)]) w := fun a b w => by simp [go_sem]
  have hmf : ∀ (fn : Fn) (first cap : Array Value) (w : World), (Instr.makeFunc fn first cap).run Tryd.prog w = .ok (.func fn first cap) w := fun _ _ _ _ => rfl
  have HM := Lib.hid (And.intro hs hm)
  obtain ⟨A, c, rfl, hc, hr⟩ := hs
  have hlt : (l.length : Int) ≤ 65536 := by omega
  clear hc hr hm
  go_enter Tryd.func20, Tryd.ntmps20
  go_wp2_with fail
  have r1 := Blk.new w 22 #[.slice A l.length c]
  have r2 := r1.alloc (.cells #[takeF w.heap.size (w.heap.size + 1)] 79)
  have b2 := Blk.new (w.alloc (.cells #[.slice A l.length c] 22)) 79 #[takeF w.heap.size (w.heap.size + 1)]
  rw [alloc_size] at b2
  have x2 : Ext w ((w.alloc (.cells #[.slice A l.length c] 22)).alloc (.cells #[takeF w.heap.size (w.heap.size + 1)] 79)) := ((Ext.refl w).alloc _).alloc _
  have s2 : w.heap.size + 2 ≤ ((w.alloc (.cells #[.slice A l.length c] 22)).alloc (.cells #[takeF w.heap.size (w.heap.size + 1)] 79)).heap.size := by rw [alloc_size, alloc_size]; omega
  rw [takeF] at *
  generalize ((w.alloc (.cells #[.slice A l.length c] 22)).alloc (.cells #[.func (.func 47) #[] #[.pointer (some ⟨w.heap.size, 0, none⟩), .pointer (some ⟨w.heap.size + 1, 0, none⟩)]] 79)) = w1 at *
  refine (made_any (Q := fun o w' => OptQ w.heap.size (makeT l) o w' ∧ Ext w w') (hG _ _) ?_).mono ?_
  · intro w2 y1 k1 k2
    refine (makeIn_any (x2.trans y1) (Nat.le_refl _) (by omega) (r2.ext y1) (b2.ext y1) HM.out.1 (by have := HM.out.2; omega)).mono ?_
    rintro e w3 ⟨cg, oc⟩
    have xx := Chg.over (x2.trans y1) (Nat.le_refl _) cg
    refine ⟨cg.blk k1 (by simp; omega), cg.blk k2 (by simp; omega), ?_⟩
    rcases oc with ⟨p, h1, h2⟩ | ⟨h1, h2⟩
    · exact Or.inl ⟨p, h1, h2, xx⟩
    · exact Or.inr ⟨h1, h2, xx⟩
  · rintro e w' ⟨v, w3, rfl, rs, k1, k2, cg⟩
    have hS : ∀ s ∈ [w1.heap.size, w1.heap.size + 1], ∃ t cs, Blk w3 s t cs ∧ cs.size ≠ 7 := by
      intro s hs
      simp at hs
      rcases hs with rfl | rfl
      · exact ⟨_, _, k1, by simp⟩
      · exact ⟨_, _, k2, by simp⟩
    have hx : Ext w w3 → Ext w w' := fun x => cg.ext x (by intro s hs; simp at hs; omega)
    clear k1 k2 r1 r2 b2
    rcases rs with ⟨p, rfl, q, xx⟩ | ⟨rfl, q, xx⟩
    · have F := Lib.hid (And.intro (hx xx) (And.intro q (And.intro cg hS)))
      clear hx xx q cg hS
      go_wp2_with fail
      go_ret2
      obtain ⟨f1, f2, f3, f4⟩ := F.out
      rcases f2 with ⟨t, v, g1, g2, g3⟩ | ⟨g1, g2⟩
      · injection g2 with g2
        subst g2
        exact ⟨f1, MadeR.yes g1 (g3.chgN f3 f4)⟩
      · cases g2
    · have F := Lib.hid (And.intro (hx xx) (And.intro q (And.intro cg hS)))
      clear hx xx q cg hS
      go_wp2_with fail
      go_ret2
      obtain ⟨f1, f2, f3, f4⟩ := F.out
      rcases f2 with ⟨t, v, g1, g2, g3⟩ | ⟨g1, g2⟩
      · cases g2
      · exact ⟨f1, MadeR.no g1⟩
end Go.Proofs.YtgpegcjgmoiglaaDoor
