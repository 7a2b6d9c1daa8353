/- Package shape: made: what is thrown is caught. -/
import Derived.Test.YtgpegcjgmoiglaaDoorReadD
import Derived.Defers
import Derived.Recover
import Derived.Laws.EntriesVeiled
namespace Go.Proofs.YtgpegcjgmoiglaaDoor
open Go.RowKit Go.Lib
set_option linter.unusedVariables false

/-- Trees none of whose blocks are among some that are no nodes. -/
theorem Tr.chgN {S : List Nat} {w w' : World} (c : Chg S w w') (hS : ∀ s ∈ S, ∃ t cs, Blk w s t cs ∧ cs.size ≠ 7) : ∀ {t : T} {v : Value}, Tr w v t → Tr w' v t
  | .nil, _, h => h
  | .node .., _, ⟨b, vl, vr, e, ha, hl, hr⟩ => ⟨b, vl, vr, e, c.blk ha (by
      intro hm
      obtain ⟨t, cs, hb, hn⟩ := hS b hm
      unfold At at ha
      unfold Blk at ha hb
      rw [ha] at hb
      injection hb with hb
      injection hb with hb
      rw [← hb] at hn
      exact hn rfl), hl.chgN c hS, hr.chgN c hS⟩
/-- A pointer, or what is thrown. -/
def Outcome (Q : Option Value → World → Prop) (e : Ending) (w : World) : Prop := (∃ p, e = .returned (.pointer p) ∧ Q (some (.pointer p)) w) ∨ (e = .panicked thrown ∧ Q none w)
def Result (Q : Option Value → World → Prop) (v : Value) (w : World) : Prop := (∃ p, v = .tuple #[.pointer p, .int .i64 0] ∧ Q (some (.pointer p)) w) ∨ (v = .tuple #[.pointer none, .int .i64 7] ∧ Q none w)

theorem assert_none : ∀ w : World, (Instr.typeAssert (.iface 88 (.agg #[])) 20 88 false).run Tryd.prog w = .ok (.agg #[]) w := fun _ => by kernel_rfl
set_option maxRecDepth 100000 in
theorem caught (p q : Addr) (x y : Value) (older : List PanicEntry) (w : World) (hc : w.cell? p = some x) (hz : w.frozen? p = false) (hc2 : w.cell? q = some y) (hz2 : w.frozen? q = false) (hne : q ≠ p) :
    CallsD Tryd.prog 55 #[.pointer (some p), .pointer (some q)] (.panicking ({ v := .iface 88 (.agg #[]), recovered := false } :: older)) w fun e u' w' =>
      e = .returned (.tuple #[]) ∧ u' = .panicking ({ v := .iface 88 (.agg #[]), recovered := true } :: older) ∧ w' = (w.setCell p (.pointer none)).setCell q (.int .i64 7) := by
  refine callsD_of_wpS Tryd.func55 rfl fun c₀ cs hu => ?_
  apply wpS_seq
  apply wpS_region
  simp [wpOpsS, go_sem, recoverD, hu, Tryd.ntmps55, Exit.thenS]
  apply wpS_seq
  apply wpS_region
  simp [wpOpsS, go_sem, Exit.thenS]
  refine wpS_cond (t := true) (by simp [Act.eval, Array.replicate]) ?_
  simp only [if_true]
  apply wpS_seq
  apply wpS_region
  simp [wpOpsS, go_sem, Exit.thenS, Array.replicate, assert_none]
  have g2 : (w.setCell p (.pointer none)).cell? q = some y := by rw [World.cell?_setCell_other _ _ _ _ (fun e => hne e.symm)]; exact hc2
  have z2 : (w.setCell p (.pointer none)).frozen? q = false := by rw [World.frozen?_setCell]; exact hz2
  apply wpS_region
  simp [wpOpsS, go_sem, hc, hz, g2, z2, bodyPostS, results, Tryd.results55]
set_option maxRecDepth 100000 in
theorem idle (p q : Addr) (w : World) :
    CallsD Tryd.prog 55 #[.pointer (some p), .pointer (some q)] .returning w fun e u' w' => e = .returned (.tuple #[]) ∧ u' = .returning ∧ w' = w := by
  refine callsD_of_wpS Tryd.func55 rfl fun c₀ cs hu => ?_
  apply wpS_seq
  apply wpS_region
  simp [wpOpsS, go_sem, recoverD, hu, Tryd.ntmps55, Exit.thenS]
  apply wpS_seq
  apply wpS_region
  simp [wpOpsS, go_sem, Exit.thenS]
  refine wpS_cond (t := false) (by simp [Act.eval, Array.replicate]) ?_
  simp only [Bool.false_eq_true, if_false]
  refine wpS_of_wp (wp_skip ?_)
  cases c₀
  simp_all [bodyPostS, results, Tryd.results55]
set_option maxRecDepth 100000 in
set_option maxHeartbeats 2000000 in
theorem made_any {w : World} {G : Nat} {cap : Array Value} {Q : Option Value → World → Prop} (hG : ∀ w : World, (callFunc G cap).run Tryd.prog w = .ok (.enter G cap) w)
    (h : ∀ w1, Ext w w1 → Blk w1 w.heap.size 25 #[.pointer none] → Blk w1 (w.heap.size + 1) 33 #[.int .i64 0] →
      Calls Tryd.prog G cap w1 fun e w2 => Blk w2 w.heap.size 25 #[.pointer none] ∧ Blk w2 (w.heap.size + 1) 33 #[.int .i64 0] ∧ Outcome Q e w2) :
    Calls Tryd.prog 41 #[.func (.func G) #[] cap] w fun e w' => ∃ v w2, e = .returned v ∧ Result Q v w2 ∧ Blk w2 w.heap.size 25 #[.pointer none] ∧ Blk w2 (w.heap.size + 1) 33 #[.int .i64 0] ∧ Chg [w.heap.size, w.heap.size + 1] w2 w' := by
  have b1 := (Blk.new w 25 #[.pointer none]).alloc (.cells #[.int .i64 0] 33)
  have b2 := Blk.new (w.alloc (.cells #[.pointer none] 25)) 33 #[.int .i64 0]
  rw [alloc_size] at b2
  have H := Lib.hid (h _ (((Ext.refl w).alloc _).alloc _) b1 b2)
  clear h b1 b2
  have hmf : ∀ (fn : Fn) (first cap : Array Value) (w : World), (Instr.makeFunc fn first cap).run Tryd.prog w = .ok (.func fn first cap) w := fun _ _ _ _ => rfl
  go_enter_defers Tryd.func41, Tryd.ntmps41
  go_wp2_with fail
  refine H.out.mono ?_
  rintro e w2 ⟨b1, b2, ⟨p, rfl, q⟩ | ⟨rfl, q⟩⟩
  · have g1 := b1.cell 0
    have g2 := b2.cell 0
    have f1 := b1.frozen 0
    have f2 := b2.frozen 0
    have KK := Lib.hid (And.intro b1 (And.intro b2 q))
    clear b1 b2 q
    go_wp2_with fail
    refine leaves_cons (f := 55) (args := #[.pointer (some ⟨w.heap.size, 0, none⟩), .pointer (some ⟨w.heap.size + 1, 0, none⟩)]) (by simp) (by simp [go_sem]) ?_
    refine (idle _ _ _).mono ?_
    rintro e u' w'' ⟨rfl, rfl, rfl⟩
    obtain ⟨b1, b2, q⟩ := KK.out
    have hne : (⟨w.heap.size, 0, none⟩ : Addr) ≠ ⟨w.heap.size + 1, 0, none⟩ := by simp
    have d2 := b2.far (p := ⟨w.heap.size, 0, none⟩) (by simp) (.pointer p)
    have e1 := ((b1.set 0 (.pointer p)).far (p := ⟨w.heap.size + 1, 0, none⟩) (by simp) (.int .i64 0)).cell 0
    have e2 := (d2.set 0 (.int .i64 0)).cell 0
    have hc : Chg [w.heap.size, w.heap.size + 1] w2 ((w2.setCell ⟨w.heap.size, 0, none⟩ (.pointer p)).setCell ⟨w.heap.size + 1, 0, none⟩ (.int .i64 0)) := ((Chg.refl _ _).set (by simp) _).set (by simp) _
    generalize (w2.setCell ⟨w.heap.size, 0, none⟩ (.pointer p)).setCell ⟨w.heap.size + 1, 0, none⟩ (.int .i64 0) = w3 at *
    refine ⟨.tuple #[.pointer p, .int .i64 0], ?_, _, w2, rfl, Or.inl ⟨p, rfl, q⟩, b1, b2, hc⟩
    simp [results, Tryd.results41, go_sem, e1, e2]
  · have g1 := b1.cell 0
    have g2 := b2.cell 0
    have f1 := b1.frozen 0
    have f2 := b2.frozen 0
    have KK := Lib.hid (And.intro b1 (And.intro b2 q))
    clear b1 b2 q
    go_wp2_with fail
    obtain ⟨b1, b2, q⟩ := KK.out
    refine leaves_cons (f := 55) (args := #[.pointer (some ⟨w.heap.size, 0, none⟩), .pointer (some ⟨w.heap.size + 1, 0, none⟩)]) (by simp) (by simp [go_sem]) ?_
    refine (caught _ _ _ _ [] _ (b1.cell 0) (b1.frozen 0) (b2.cell 0) (b2.frozen 0) (by simp)).mono ?_
    rintro e u' w'' ⟨rfl, rfl, rfl⟩
    have d2 := b2.far (p := ⟨w.heap.size, 0, none⟩) (by simp) (.pointer none)
    have e1 := ((b1.set 0 (.pointer none)).far (p := ⟨w.heap.size + 1, 0, none⟩) (by simp) (.int .i64 7)).cell 0
    have e2 := (d2.set 0 (.int .i64 7)).cell 0
    have hc : Chg [w.heap.size, w.heap.size + 1] w2 ((w2.setCell ⟨w.heap.size, 0, none⟩ (.pointer none)).setCell ⟨w.heap.size + 1, 0, none⟩ (.int .i64 7)) := ((Chg.refl _ _).set (by simp) _).set (by simp) _
    generalize (w2.setCell ⟨w.heap.size, 0, none⟩ (.pointer none)).setCell ⟨w.heap.size + 1, 0, none⟩ (.int .i64 7) = w3 at *
    refine ⟨.tuple #[.pointer none, .int .i64 7], ?_, _, w2, rfl, Or.inr ⟨rfl, q⟩, b1, b2, hc⟩
    simp [results, Tryd.results41, go_sem, e1, e2]
end Go.Proofs.YtgpegcjgmoiglaaDoor
