/- shape.Read. -/
import Derived.Test.YtgpegcjgmoiglaaDoorMade
import Derived.Test.YtgpegcjgmoiglaaDoorTakeLaw
namespace Go.Proofs.YtgpegcjgmoiglaaDoor
open Go.RowKit Go.Lib
set_option linter.unusedVariables false

def ReadQ (R : Nat) (l : List UInt8) (o : Option Value) (w : World) : Prop := match readT l with
  | some t => ∃ v, o = some v ∧ TrX R w v t
  | none => o = none
theorem ReadQ.yes {R : Nat} {l : List UInt8} {t : T} {v : Value} {w : World} (h : readT l = some t) (ht : TrX R w v t) : ReadQ R l (some v) w := by unfold ReadQ; rw [h]; exact ⟨v, rfl, ht⟩
theorem ReadQ.no {R : Nat} {l : List UInt8} {w : World} (h : readT l = none) : ReadQ R l none w := by unfold ReadQ; rw [h]
set_option maxRecDepth 100000 in
set_option maxHeartbeats 4000000 in
theorem readIn_any {w0 w : World} {R V : Nat} {l : List UInt8} (hl0 : Laid w0) (x : Ext w0 w) (hR : w0.heap.size ≤ R) (h : Rd w R l 0) (hV : Blk w V 69 #[.pointer (some ⟨R, 0, none⟩)]) (hne : V ≠ R) (hm : l.length ≤ 1000000000) :
    Calls Tryd.prog 42 #[.pointer (some ⟨V, 0, none⟩)] w fun e w' => Chg [R] w w' ∧ Outcome (ReadQ R l) e w' := by
  have TR := Lib.hid (tree_any hl0 4096 x hR (m := 0) h hm (by omega) (by omega) (iL := 4096) rfl)
  have c0 := hV.cell 0
  have f0 := hV.frozen 0
  have HV := Lib.hid hV
  clear h hV hm
  go_enter Tryd.func42, Tryd.ntmps42
  go_wp2_with fail
  refine TR.out.mono ?_; rintro e w1 ⟨cg, p⟩
  cases ec : treeR 4096 l 0 with
  | none =>
    rw [ec] at p
    subst p
    have hres : Hid (readT l = none) := Lib.hid (by unfold readT; rw [ec])
    clear ec
    go_wp2_with fail
    exact ⟨rfl, cg, Or.inr ⟨rfl, ReadQ.no hres.out⟩⟩
  | some y =>
    obtain ⟨t, s, m⟩ := y
    rw [ec] at p
    obtain ⟨v, rfl, ht, rr⟩ := p
    obtain ⟨pa, rfl⟩ := ht.ptr
    have b2 := cg.blk HV.out (by simp; exact hne)
    have c1 := b2.cell 0
    have d0 := rr.cell 0
    have HT := Lib.hid (And.intro ht (And.intro cg b2))
    clear ht cg b2 c0 f0
    cases s with
    | nil =>
      have hres : Hid (readT l = some t) := Lib.hid (by unfold readT; rw [ec])
      clear ec rr
      go_wp2_with fail
      refine (must_ok _).mono ?_; rintro e wz ⟨rfl, rfl⟩
      go_wp2_with fail
      go_ret
      exact ⟨HT.out.2.1, Or.inl ⟨_, rfl, ReadQ.yes hres.out HT.out.1⟩⟩
    | cons d s =>
      have hres : Hid (readT l = none) := Lib.hid (by unfold readT; rw [ec])
      clear ec rr
      go_wp2_with fail
      refine (must_no _).mono ?_; rintro e wz ⟨rfl, rfl⟩
      go_wp2_with fail
      exact ⟨rfl, HT.out.2.1, Or.inr ⟨rfl, ReadQ.no hres.out⟩⟩
/-- A tree, and OK; or nil, and ErrForm. -/
def MadeR (o : Option T) (e : Ending) (w : World) : Prop := ∃ p n, e = .returned (.tuple #[.pointer p, .int .i64 n]) ∧ n = (if o.isSome then 0 else 7) ∧ Tr w (.pointer p) (o.getD .nil)
theorem MadeR.yes {o : Option T} {t : T} {p : Option Addr} {w : World} (h : o = some t) (ht : Tr w (.pointer p) t) : MadeR o (.returned (.tuple #[.pointer p, .int .i64 0])) w := by subst h; exact ⟨p, 0, rfl, rfl, ht⟩
theorem MadeR.no {o : Option T} {w : World} (h : o = none) : MadeR o (.returned (.tuple #[.pointer none, .int .i64 7])) w := by subst h; exact ⟨none, 7, rfl, rfl, rfl⟩
theorem ReadQ.out {R : Nat} {l : List UInt8} {o : Option Value} {w : World} (h : ReadQ R l o w) : (∃ t v, readT l = some t ∧ o = some v ∧ TrX R w v t) ∨ (readT l = none ∧ o = none) := by
  unfold ReadQ at h
  cases e : readT l with
  | none => rw [e] at h; exact Or.inr ⟨rfl, h⟩
  | some t => rw [e] at h; obtain ⟨v, h1, h2⟩ := h; exact Or.inl ⟨t, v, rfl, h1, h2⟩
theorem TrX.chgN {X : Nat} {S : List Nat} {w w' : World} (c : Chg S w w') (hS : ∀ s ∈ S, ∃ t cs, Blk w s t cs ∧ cs.size ≠ 7) {t : T} {v : Value} (h : TrX X w v t) : Tr w' v t := h.tr.chgN c hS
set_option maxRecDepth 100000 in
set_option maxHeartbeats 4000000 in
theorem read_any {w : World} {l : List UInt8} (hl0 : Laid w) (hm : l.length ≤ 1048576) :
    Calls Tryd.prog 17 #[.string ⟨l.toArray⟩] w fun e w' => Ext w w' ∧ MadeR (readT l) e w' := by
  have hG : ∀ (a : Addr) (w : World), (callFunc 42 #[.pointer (some a)]).run Tryd.prog w = .ok (.enter 42 #[.pointer (some a)]) w := fun a w => by simp [go_sem]
  have HM := Lib.hid (And.intro hl0 hm)
  have hmf : ∀ (fn : Fn) (first cap : Array Value) (w : World), (Instr.makeFunc fn first cap).run Tryd.prog w = .ok (.func fn first cap) w := fun _ _ _ _ => rfl
  have hlt : (l.length : Int) ≤ 1048576 := by omega
  go_enter Tryd.func17, Tryd.ntmps17
  go_wp2_with fail
  have r1 : Rd (w.alloc (.cells #[.string ⟨l.toArray⟩, .int .i64 0] 71)) w.heap.size l 0 := Blk.new w _ _
  have r2 : Rd ((w.alloc (.cells #[.string ⟨l.toArray⟩, .int .i64 0] 71)).alloc (.cells #[.pointer (some ⟨w.heap.size, 0, none⟩)] 69)) w.heap.size l 0 := Blk.alloc r1 _
  have b2 := Blk.new (w.alloc (.cells #[.string ⟨l.toArray⟩, .int .i64 0] 71)) 69 #[.pointer (some ⟨w.heap.size, 0, none⟩)]
  rw [alloc_size] at b2
  have x2 : Ext w ((w.alloc (.cells #[.string ⟨l.toArray⟩, .int .i64 0] 71)).alloc (.cells #[.pointer (some ⟨w.heap.size, 0, none⟩)] 69)) := ((Ext.refl w).alloc _).alloc _
  have s2 : w.heap.size + 2 ≤ ((w.alloc (.cells #[.string ⟨l.toArray⟩, .int .i64 0] 71)).alloc (.cells #[.pointer (some ⟨w.heap.size, 0, none⟩)] 69)).heap.size := by rw [alloc_size, alloc_size]; omega
  generalize ((w.alloc (.cells #[.string ⟨l.toArray⟩, .int .i64 0] 71)).alloc (.cells #[.pointer (some ⟨w.heap.size, 0, none⟩)] 69)) = w1 at *
  refine (made_any (Q := fun o w' => ReadQ w.heap.size l o w' ∧ Ext w w') (hG _) ?_).mono ?_
  · intro w2 y1 k1 k2
    refine (readIn_any HM.out.1 (x2.trans y1) (Nat.le_refl _) (Blk.ext r2 y1) (b2.ext y1) (by omega) (by have := HM.out.2; omega)).mono ?_
    rintro e w3 ⟨cg, oc⟩
    have xx := Chg.over (x2.trans y1) (Nat.le_refl _) cg
    refine ⟨cg.blk k1 (by simp; omega), cg.blk k2 (by simp; omega), ?_⟩
    rcases oc with ⟨p, h1, h2⟩ | ⟨h1, h2⟩
    · exact Or.inl ⟨p, h1, h2, xx⟩
    · exact Or.inr ⟨h1, h2, xx⟩
  · rintro e w' ⟨v, w3, rfl, rs, k1, k2, cg⟩
    have hS : ∀ s ∈ [w1.heap.size, w1.heap.size + 1], ∃ t cs, Blk w3 s t cs ∧ cs.size ≠ 7 := by
      intro s hs
      simp at hs
      rcases hs with rfl | rfl
      · exact ⟨_, _, k1, by simp⟩
      · exact ⟨_, _, k2, by simp⟩
    have hx : Ext w w3 → Ext w w' := fun x => cg.ext x (by intro s hs; simp at hs; omega)
    clear k1 k2 r1 r2 b2
    rcases rs with ⟨p, rfl, q, xx⟩ | ⟨rfl, q, xx⟩
    · have F := Lib.hid (And.intro (hx xx) (And.intro q (And.intro cg hS)))
      clear hx xx q cg hS
      go_wp2_with fail
      go_ret2
      obtain ⟨f1, f2, f3, f4⟩ := F.out
      rcases f2.out with ⟨t, v, g1, g2, g3⟩ | ⟨g1, g2⟩
      · injection g2 with g2
        subst g2
        exact ⟨f1, MadeR.yes g1 (g3.chgN f3 f4)⟩
      · cases g2
    · have F := Lib.hid (And.intro (hx xx) (And.intro q (And.intro cg hS)))
      clear hx xx q cg hS
      go_wp2_with fail
      go_ret2
      obtain ⟨f1, f2, f3, f4⟩ := F.out
      rcases f2.out with ⟨t, v, g1, g2, g3⟩ | ⟨g1, g2⟩
      · cases g2
      · exact ⟨f1, MadeR.no g1⟩
end Go.Proofs.YtgpegcjgmoiglaaDoor
