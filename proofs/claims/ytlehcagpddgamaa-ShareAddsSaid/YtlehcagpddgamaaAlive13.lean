/- joinerylaw13: alive. -/
import Derived.Test.YtlehcagpddgamaaShareE
import Derived.Test.YtlehcagpddgamaaMakeS
namespace Go.Proofs.Ytlehcagpddgamaa
open Go.RowKit G

section
variable {f : Nat → G} {g g2 : G} {q q2 : Option Addr} {W : World} {n : Int} {r : Bool} {b : Nat} {L : List Nat}
theorem new1_is (hq : GrS W (.pointer q) g) (hf : byF f g) (hq2 : GrS W (.pointer q2) g2) (hf2 : byF f g2) (hg : g.ids.length ≤ 1000000) (hg2 : g2.ids.length ≤ 1000000) (hn : ((newN g (allG [g2]) : Nat) : Int) = n) :
    Calls Try.prog 66 #[.pointer q, .slice (some ⟨W.heap.size, 0, none⟩) 1 1] (W.alloc (.cells #[.pointer q2] 26)) fun e w' => e = .returned (.int .i64 n) ∧ Ext W w' := by
  subst hn
  have x := (Ext.refl W).alloc (.cells #[.pointer q2] 26)
  exact (newS_any (lit1 W q2 g2) ((Trees.one hq2 hf2).ext x) (hq.ext x) hf (by simp) (ids_one hg2) hg).mono fun e w' h => ⟨h.1, x.trans h.2⟩
theorem tops1_is (hq : GrS W (.pointer q) g) (hq2 : GrS W (.pointer q2) g2) (hf2 : byF f g2) (hg : g.ids.length ≤ 1000000) (hn : (tp (allG [g2]) g [] []).2 = L) :
    Calls Try.prog 69 #[.pointer q, .slice (some ⟨W.heap.size, 0, none⟩) 1 1] (W.alloc (.cells #[.pointer q2] 26)) fun e w' => ∃ A c, e = .returned (.slice A L.length c) ∧ Ext W w' ∧ Sl EB w' (.slice A L.length c) L := by
  subst hn
  have x := (Ext.refl W).alloc (.cells #[.pointer q2] 26)
  exact (topsS_any (lit1 W q2 g2) ((Trees.one hq2 hf2).ext x) (hq.ext x) (by simp) hg).mono fun e w' ⟨A, c, h1, h2, h3⟩ => ⟨A, c, h1, x.trans h2, h3⟩
theorem nodes1_is (hq : GrS W (.pointer q) g) (hf : byF f g) (hn : ((fr g []).length : Int) = n) : Calls Try.prog 67 #[.pointer q] W fun e w' => e = .returned (.int .i64 n) ∧ Ext W w' := by
  subst hn; exact nodesS_any hq hf
theorem in1_is (hq : GrS W (.pointer q) g) (hf : byF f g) (hb : IsB W b) (hn : decide (b ∈ g.ids) = r) : Calls Try.prog 70 #[.pointer q, .pointer (some ⟨b, 0, none⟩)] W fun e w' => e = .returned (.bool r) ∧ Ext W w' := by
  subst hn; exact inS_any hq hf hb
theorem same1_is (hq : GrS W (.pointer q) g) (hf : byF f g) (hq2 : GrS W (.pointer q2) g2) (hf2 : byF f g2) (hg : g.ids.length ≤ 1000000) (hg2 : g2.ids.length ≤ 1000000) (hn : ((fr g []).length : Int) - (newN g (allG [g2]) : Nat) = n) :
    Calls Try.prog 68 #[.pointer q, .pointer q2] W fun e w' => e = .returned (.int .i64 n) ∧ Ext W w' := by
  subst hn; exact sameS_any hq hf hg hq2 hf2 hg2
end
theorem Tr.grs_len {w : World} : ∀ {t : T} {v : Value} {g : G}, Tr w v t → GrS w v g → g.ids.length = t.size
  | .nil, _, .nil, _, _ => rfl
  | .nil, _, .nd _ _ _, h, h' => by
    obtain ⟨k, x, g, tl, tr, vl, vr, hv, _⟩ := h'
    rw [show _ = Value.pointer none from h] at hv; cases hv
  | .node _ _ _ _ _, _, .nil, h, h' => by
    obtain ⟨b, vl, vr, hv, _⟩ := h
    rw [show _ = Value.pointer none from h'] at hv; cases hv
  | .node _ _ _ _ _, _, .nd _ _ _, h, h' => by
    obtain ⟨b, vl, vr, hv, ha, hl, hr⟩ := h
    obtain ⟨k', x', g', tl', tr', vl', vr', hv', ha', hl', hr'⟩ := h'
    rw [hv] at hv'
    injection hv' with e; injection e with e; injection e with e
    subst e
    obtain ⟨rfl, rfl⟩ := ha.sides ha'
    have h1 := Tr.grs_len hl hl'
    have h2 := Tr.grs_len hr hr'
    simp only [ids, List.length_cons, List.length_append, T.size]
    omega
theorem new2_is {f : Nat → G} {g g2 g3 : G} {q q2 q3 : Option Addr} {W : World} {n : Int} (hq : GrS W (.pointer q) g) (hf : byF f g) (hq2 : GrS W (.pointer q2) g2) (hf2 : byF f g2) (hq3 : GrS W (.pointer q3) g3) (hf3 : byF f g3) (hg : g.ids.length ≤ 1000000) (hg2 : g2.ids.length ≤ 1000000) (hg3 : g3.ids.length ≤ 1000000) (hn : ((newN g (allG [g2, g3]) : Nat) : Int) = n) :
    Calls Try.prog 66 #[.pointer q, .slice (some ⟨W.heap.size, 0, none⟩) 2 2] (W.alloc (.cells #[.pointer q2, .pointer q3] 26)) fun e w' => e = .returned (.int .i64 n) ∧ Ext W w' := by
  subst hn
  have x := (Ext.refl W).alloc (.cells #[.pointer q2, .pointer q3] 26)
  have hs : Sl EG (W.alloc (.cells #[.pointer q2, .pointer q3] 26)) (.slice (some ⟨W.heap.size, 0, none⟩) 2 2) [(q2, g2), (q3, g3)] :=
    (Own.lit EG_len W [(q2, g2), (q3, g3)] #[.pointer q2, .pointer q3] rfl (Nat.le_refl _) (by simp [maxLen])).sl EG_len (by omega)
  have ht : Trees f (W.alloc (.cells #[.pointer q2, .pointer q3] 26)) [(q2, g2), (q3, g3)] := fun p hp => by
    simp only [List.mem_cons, List.not_mem_nil, or_false] at hp
    rcases hp with rfl | rfl
    · exact ⟨hq2.ext x, hf2⟩
    · exact ⟨hq3.ext x, hf3⟩
  exact (newS_any hs ht (hq.ext x) hf (by simp) (fun p hp => by
    simp only [List.mem_cons, List.not_mem_nil, or_false] at hp
    rcases hp with rfl | rfl <;> assumption) hg).mono fun e w' h => ⟨h.1, x.trans h.2⟩
theorem alive13_plain {a b : Nat} (h : a ≠ b) : (tp (allG [.nd a .nil .nil]) (.nd b (.nd a .nil .nil) (.nd a .nil .nil)) [] []).2 = [a] ∧ (fr (.nd b (.nd a .nil .nil) (.nd a .nil .nil)) []).length = 2 ∧ newN (.nd b (.nd a .nil .nil) (.nd a .nil .nil)) (allG [.nd a .nil .nil]) = 1 ∧
    decide (a ∈ (G.nd b (.nd a .nil .nil) (.nd a .nil .nil)).ids) = true ∧ decide (b ∈ (G.nd a .nil .nil).ids) = false := by
  have h' : b ≠ a := fun e => h e.symm
  simp [fr, tp, allG, ids, newN, h, h']
set_option maxRecDepth 100000 in
set_option maxHeartbeats 8000000 in
theorem alive13 (w : World) : Calls Try.prog 64 #[] w fun e w' => e = .returned (.bool true) ∧ Ext w w' := by
  go_enter Try.func64, Try.ntmps64
  go_wp2_with fail
  refine (new_any 5 0 0 (nil_tr w) (nil_tr w)).mono ?_; rintro e w1 ⟨u1, rfl, x1, a, rfl, ha, hat⟩
  have ta := hat.tr (nil_tr w1) (nil_tr w1)
  go_wp2_with fail
  refine (new_any 1 0 0 ta ta).mono ?_; rintro e w2 ⟨u2, rfl, x2, b, rfl, hb, hbt⟩
  have hne : a ≠ b := by have := hat.lt; omega
  have hia : IsB w2 a := ⟨_, _, Blk.ext hat x2⟩
  have hib : IsB w2 b := ⟨_, _, hbt⟩
  obtain ⟨f, hf⟩ := GrS.all w2
  have ga : GrS w2 (.pointer (some ⟨a, 0, none⟩)) (.nd a .nil .nil) := ⟨_, _, _, _, _, _, _, rfl, hat.ext x2, rfl, rfl⟩
  have gb : GrS w2 (.pointer (some ⟨b, 0, none⟩)) (.nd b (.nd a .nil .nil) (.nd a .nil .nil)) := ⟨_, _, _, _, _, _, _, rfl, hbt, ga, ga⟩
  have fa := hf ga
  have fb := hf gb
  obtain ⟨p1, p2, p3, p4, p5⟩ := alive13_plain hne
  have z := x1.trans x2
  have TP := Lib.hid (fun (W : World) (X : Ext w2 W) => tops1_is (f := f) (gb.ext X) (ga.ext X) fa (by simp [ids]) p1)
  have ND := Lib.hid (fun (W : World) (X : Ext w2 W) => nodes1_is (f := f) (n := 2) (gb.ext X) fb (by rw [p2]; rfl))
  have NW := Lib.hid (fun (W : World) (X : Ext w2 W) => new1_is (f := f) (n := 1) (gb.ext X) fb (ga.ext X) fa (by simp [ids]) (by simp [ids]) (by rw [p3]; rfl))
  have I1 := Lib.hid (fun (W : World) (X : Ext w2 W) => in1_is (f := f) (gb.ext X) fb (hia.ext X) p4)
  have I2 := Lib.hid (fun (W : World) (X : Ext w2 W) => in1_is (f := f) (ga.ext X) fa (hib.ext X) p5)
  have I3 := Lib.hid (fun (W : World) (X : Ext w2 W) => inS_none (f := f) (gb.ext X) fb)
  have Z := Lib.hid z
  have eqs := eq_self (some ⟨a, 0, none⟩)
  have y := Ext.refl w2
  clear ga gb fa fb hf hia hib hat hbt ta p1 p2 p3 p4 p5 x1 x2 z ha hb
  go_wp2_with fail
  refine (TP.out _ y).mono ?_; rintro e w3 ⟨A, c, rfl, x3, hsl⟩
  have y := y.trans x3
  obtain ⟨A', c', e0, hcc, hrow⟩ := hsl
  injection e0 with e1 e2 e3
  subst e1 e3
  clear e2
  obtain ⟨bb, off, rfl, hbb, hcs⟩ := hrow (by simp)
  have cx := Cells.elem EB_len hcs (i := 0) (x := a) rfl 0 _ rfl
  simp only [Nat.zero_mul, Nat.add_zero] at cx
  have CX := Lib.hid (fun (W : World) (X : Ext w3 W) => (X.cell (p := ⟨bb, off, none⟩) hbb).trans cx)
  have t := Ext.refl w3
  clear x3 hrow hcs hbb cx
  go_wp2_with fail
  refine (ND.out _ y).mono ?_; rintro e w4 ⟨rfl, x4⟩
  have y := y.trans x4
  have t := t.trans x4
  clear x4
  go_wp2_with fail
  refine (NW.out _ y).mono ?_; rintro e w5 ⟨rfl, x5⟩
  have y := y.trans x5
  have t := t.trans x5
  clear x5
  have cx := CX.out _ t
  go_wp2_with fail
  refine (I1.out _ y).mono ?_; rintro e w6 ⟨rfl, x6⟩
  have y := y.trans x6
  clear x6
  go_wp2_with fail
  refine (I2.out _ y).mono ?_; rintro e w7 ⟨rfl, x7⟩
  have y := y.trans x7
  clear x7
  go_wp2_with fail
  refine (I3.out _ y).mono ?_; rintro e w8 ⟨rfl, x8⟩
  have y := y.trans x8
  clear x8
  go_wp2_with fail
  go_ret
  exact ⟨rfl, Z.out.trans y⟩
end Go.Proofs.Ytlehcagpddgamaa
