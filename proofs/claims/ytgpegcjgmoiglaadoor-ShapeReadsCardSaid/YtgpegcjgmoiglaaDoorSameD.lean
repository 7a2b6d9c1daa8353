/- shape.Same: have two trees the same beads? -/
import Derived.Test.YtgpegcjgmoiglaaDoorNode
import Derived.LaidEqlPtr
namespace Go.Proofs.YtgpegcjgmoiglaaDoor
open Go.RowKit
set_option linter.unusedVariables false

theorem tr_eq {w : World} : ∀ {t u : T} {v : Value}, Tr w v t → Tr w v u → t = u
  | .nil, .nil, _, _, _ => rfl
  | .nil, .node .., v, h, k => by
    obtain ⟨b, _, _, e, _⟩ := k
    have h : v = .pointer none := h
    rw [h] at e; simp at e
  | .node .., .nil, v, h, k => by
    obtain ⟨b, _, _, e, _⟩ := h
    have k : v = .pointer none := k
    rw [k] at e; simp at e
  | .node k x g l r, .node k' x' g' l' r', v, h, h' => by
    obtain ⟨b, vl, vr, rfl, ha, hl, hr⟩ := h
    obtain ⟨b', vl', vr', e, ha', hl', hr'⟩ := h'
    simp at e
    subst e
    unfold At Blk at ha ha'
    rw [ha] at ha'
    simp [cellsOf] at ha'
    obtain ⟨rfl, rfl, _, rfl, _, rfl, rfl⟩ := ha'
    rw [tr_eq hl hl', tr_eq hr hr']
theorem info_nd : ∃ j, Tryd.prog.info? 85 = some j ∧ j.size ≠ 0 := by
  have h : (Tryd.prog.info? 85).map (fun i => decide (i.size = 0)) = some false := by kernel_rfl
  obtain ⟨j, hj, h2⟩ := Option.map_eq_some_iff.1 h
  exact ⟨j, hj, by simpa using h2⟩
theorem eq_ptr {w : World} {a b : Nat} {k x g k' x' g' : Int} {l r l' r' : T} {vl vr vl' vr' : Value} (hne : a ≠ b) (ha : At w a k x g l r vl vr) (hb : At w b k' x' g' l' r' vl' vr') :
    (binOp .eql 25 (.pointer (some ⟨a, 0, none⟩)) (.pointer (some ⟨b, 0, none⟩))).run Tryd.prog w = .ok (.bool false) w := by
  obtain ⟨j, hj, hsz⟩ := info_nd
  exact run_eql_ptr_other w Tryd.underlying25 hj hsz (fun e => hne (by injection e)) ha hb
theorem eq_ptr_self (p : Option Addr) : ∀ w : World, (binOp .eql 25 (.pointer p) (.pointer p)).run Tryd.prog w = .ok (.bool true) w := by
  intro w
  cases p with
  | none => go_simp
  | some a => obtain ⟨j, hj, _⟩ := info_nd; exact run_eql_ptr_same w a Tryd.underlying25 hj
section
variable {t : T} {v : Value} {w : World} (h : Tr w v t) {n : Int}
include h
theorem sizeS (hn : wrap64 (t.size : Int) = n) : Calls Tryd.prog 23 #[v] w fun e w' => e = .returned (.int .i64 n) ∧ Ext w w' := by subst hn; exact size_any h
theorem sumS (hn : wrap64 t.sum = n) : Calls Tryd.prog 31 #[v] w fun e w' => e = .returned (.int .i64 n) ∧ Ext w w' := by subst hn; exact sum_any h
theorem keyS (hn : t.key = n) : Calls Tryd.prog 29 #[v] w fun e w' => e = .returned (.int .i64 n) ∧ Ext w w' := by subst hn; exact key_any h
theorem valS (hn : t.val = n) : Calls Tryd.prog 30 #[v] w fun e w' => e = .returned (.int .i64 n) ∧ Ext w w' := by subst hn; exact val_any h
theorem tagS (hn : t.tag = n) : Calls Tryd.prog 32 #[v] w fun e w' => e = .returned (.int .u64 n) ∧ Ext w w' := by subst hn; exact tag_any h
end
set_option maxRecDepth 100000 in
set_option maxHeartbeats 16000000 in
theorem sameT_any (t : T) : ∀ (u : T) {va vb : Value} {w : World}, Tr w va t → Tr w vb u →
    Calls Tryd.prog 16 #[va, vb] w fun e w' => e = .returned (.bool (decide (t = u))) ∧ Ext w w' := by
  induction t with
  | nil =>
    intro u va vb w ha hb
    obtain rfl : va = .pointer none := ha
    obtain ⟨q, rfl⟩ := hb.ptr
    cases u with
    | nil =>
      obtain rfl : q = none := by have : (Value.pointer q) = .pointer none := hb; simpa using this
      go_enter Tryd.func16, Tryd.ntmps16
      go_wp2_with fail
      go_ret
      exact ⟨by simp, Ext.refl _⟩
    | node k x g l r =>
      obtain ⟨b, vl, vr, e, _⟩ := hb
      obtain rfl : q = some ⟨b, 0, none⟩ := by simpa using e
      have qn : ∀ w : World, (binOp .eql 25 (.pointer none) (.pointer (some ⟨b, 0, none⟩))).run Tryd.prog w = .ok (.bool false) w := by
        intro w
        obtain ⟨j, hj, hsz⟩ := info_nd
        have h : ∀ d : Nat, (Op.equalIn (d + 1) 25 (.pointer none) (.pointer (some ⟨b, 0, none⟩))).run Tryd.prog w = .ok false w := fun d => by
          simp [Op.equalIn, run_underlying Tryd.underlying25]
        simp only [binOp]
        simp [Op.equal, Op.maxDepth, h 9999]
      go_enter Tryd.func16, Tryd.ntmps16
      go_wp2_with fail
      go_ret
      exact ⟨by simp, Ext.refl _⟩
  | node k x g a b iha ihb =>
    intro u va vb w ha hb
    obtain ⟨bn, pl, pr, rfl, hat, ta, tb⟩ := ha
    cases u with
    | nil =>
      obtain rfl : vb = .pointer none := hb
      go_enter Tryd.func16, Tryd.ntmps16
      go_wp2_with fail
      go_ret
      exact ⟨by simp, Ext.refl _⟩
    | node k' x' g' a' b' =>
      obtain ⟨bm, ql, qr, rfl, hbt, ua, ub⟩ := hb
      obtain ⟨pl, rfl⟩ := ta.ptr
      obtain ⟨pr, rfl⟩ := tb.ptr
      obtain ⟨ql, rfl⟩ := ua.ptr
      obtain ⟨qr, rfl⟩ := ub.ptr
      have T1 := Lib.hid (show Tr w (.pointer (some ⟨bn, 0, none⟩)) (.node k x g a b) from ⟨bn, _, _, rfl, hat, ta, tb⟩)
      have T2 := Lib.hid (show Tr w (.pointer (some ⟨bm, 0, none⟩)) (.node k' x' g' a' b') from ⟨bm, _, _, rfl, hbt, ua, ub⟩)
      by_cases hbb : bn = bm
      · subst hbb
        have e := tr_eq T1.out T2.out
        rw [decide_eq_true e]
        have q := eq_ptr_self (some ⟨bn, 0, none⟩)
        clear e
        go_enter Tryd.func16, Tryd.ntmps16
        go_wp2_with fail
        go_ret
        exact ⟨rfl, Ext.refl _⟩
      · have q := eq_ptr hbb hat hbt
        have HNE := Lib.hid hbb
        clear hbb
        generalize hD : decide (T.node k x g a b = T.node k' x' g' a' b') = D
        have HD := Lib.hid hD
        clear hD
        have K1 := Lib.hid (fun (W : World) (X : Ext w W) => keyS (n := k) (T1.out.ext X) rfl)
        have K2 := Lib.hid (fun (W : World) (X : Ext w W) => keyS (n := k') (T2.out.ext X) rfl)
        by_cases hk : k = k'
        · subst hk
          have V1 := Lib.hid (fun (W : World) (X : Ext w W) => valS (n := x) (T1.out.ext X) rfl)
          have V2 := Lib.hid (fun (W : World) (X : Ext w W) => valS (n := x') (T2.out.ext X) rfl)
          by_cases hx : x = x'
          · subst hx
            have G1 := Lib.hid (fun (W : World) (X : Ext w W) => tagS (n := g) (T1.out.ext X) rfl)
            have G2 := Lib.hid (fun (W : World) (X : Ext w W) => tagS (n := g') (T2.out.ext X) rfl)
            by_cases hg : g = g'
            · subst hg
              have S1 := fun (W : World) (X : Ext w W) => sizeS (T1.out.ext X) rfl
              have S2 := fun (W : World) (X : Ext w W) => sizeS (T2.out.ext X) rfl
              have M1 := fun (W : World) (X : Ext w W) => sumS (T1.out.ext X) rfl
              have M2 := fun (W : World) (X : Ext w W) => sumS (T2.out.ext X) rfl
              have hs : ∀ (_ : a = a') (_ : b = b'), wrap64 ((T.node k x g a b).size : Int) = wrap64 ((T.node k x g a' b').size : Int) ∧ wrap64 (T.node k x g a b).sum = wrap64 (T.node k x g a' b').sum := fun e1 e2 => by subst e1 e2; exact ⟨rfl, rfl⟩
              generalize wrap64 ((T.node k x g a b).size : Int) = n1 at *
              generalize wrap64 ((T.node k x g a' b').size : Int) = n2 at *
              generalize wrap64 (T.node k x g a b).sum = s1 at *
              generalize wrap64 (T.node k x g a' b').sum = s2 at *
              have S1 := Lib.hid S1
              have S2 := Lib.hid S2
              have M1 := Lib.hid M1
              have M2 := Lib.hid M2
              have HSS := Lib.hid hs
              clear hs
              by_cases hn : n1 = n2
              · subst hn
                by_cases hm : s1 = s2
                · subst hm
                  have IA := Lib.hid (fun (W : World) (X : Ext w W) => iha a' (ta.ext X) (ua.ext X))
                  have IB := Lib.hid (fun (W : World) (X : Ext w W) => ihb b' (tb.ext X) (ub.ext X))
                  have LA := Lib.hid (fun (W : World) (X : Ext w W) => left_at (hat.ext X))
                  have LB := Lib.hid (fun (W : World) (X : Ext w W) => left_at (hbt.ext X))
                  have RA := Lib.hid (fun (W : World) (X : Ext w W) => right_at (hat.ext X))
                  have RB := Lib.hid (fun (W : World) (X : Ext w W) => right_at (hbt.ext X))
                  clear iha ihb hat hbt ta tb ua ub
                  go_enter Tryd.func16, Tryd.ntmps16
                  go_wp2_with fail
                  refine (K1.out _ (Ext.refl w)).mono ?_; rintro e w1 ⟨rfl, y1⟩
                  go_wp2_with fail
                  refine (K2.out _ y1).mono ?_; rintro e w2 ⟨rfl, x2⟩
                  have y2 := y1.trans x2
                  go_wp2_with fail
                  refine (V1.out _ y2).mono ?_; rintro e w3 ⟨rfl, x3⟩
                  have y3 := y2.trans x3
                  go_wp2_with fail
                  refine (V2.out _ y3).mono ?_; rintro e w4 ⟨rfl, x4⟩
                  have y4 := y3.trans x4
                  go_wp2_with fail
                  refine (G1.out _ y4).mono ?_; rintro e w5 ⟨rfl, x5⟩
                  have y5 := y4.trans x5
                  go_wp2_with fail
                  refine (G2.out _ y5).mono ?_; rintro e w6 ⟨rfl, x6⟩
                  have y6 := y5.trans x6
                  go_wp2_with fail
                  refine (S1.out _ y6).mono ?_; rintro e w7 ⟨rfl, x7⟩
                  have y7 := y6.trans x7
                  go_wp2_with fail
                  refine (S2.out _ y7).mono ?_; rintro e w8 ⟨rfl, x8⟩
                  have y8 := y7.trans x8
                  go_wp2_with fail
                  refine (M1.out _ y8).mono ?_; rintro e w9 ⟨rfl, x9⟩
                  have y9 := y8.trans x9
                  go_wp2_with fail
                  refine (M2.out _ y9).mono ?_; rintro e w10 ⟨rfl, x10⟩
                  have y10 := y9.trans x10
                  clear y1 x2 y2 x3 y3 x4 y4 x5 y5 x6 y6 x7 y7 x8 y8 x9 y9 x10 q
                  go_wp2_with fail
                  refine (LA.out _ y10).mono ?_; rintro e w' ⟨rfl, rfl⟩
                  go_wp2_with fail
                  refine (LB.out _ y10).mono ?_; rintro e w' ⟨rfl, rfl⟩
                  go_wp2_with fail
                  refine (IA.out _ y10).mono ?_; rintro e w11 ⟨rfl, x11⟩
                  have y11 := y10.trans x11
                  by_cases haa : a = a'
                  · rw [decide_eq_true haa]
                    have HA := Lib.hid haa
                    clear haa
                    go_wp2_with fail
                    refine (RA.out _ y11).mono ?_; rintro e w' ⟨rfl, rfl⟩
                    go_wp2_with fail
                    refine (RB.out _ y11).mono ?_; rintro e w' ⟨rfl, rfl⟩
                    go_wp2_with fail
                    refine (IB.out _ y11).mono ?_; rintro e w12 ⟨rfl, x12⟩
                    go_wp2_with fail
                    go_ret
                    refine ⟨?_, y11.trans x12⟩
                    rw [← HD.out, HA.out]
                    congr 2
                    simp
                  · rw [decide_eq_false haa]
                    have HA := Lib.hid haa
                    clear haa
                    go_wp2_with fail
                    go_ret
                    refine ⟨?_, y11⟩
                    have hD2 : D = false := by rw [← HD.out, decide_eq_false]; intro e; injection e with _ _ _ e; exact HA.out e
                    subst hD2
                    rfl
                · have hD2 : D = false := by rw [← HD.out, decide_eq_false]; intro e; injection e with _ _ _ e1 e2; exact hm (HSS.out e1 e2).2
                  subst hD2
                  clear iha ihb hat hbt ta tb ua ub
                  go_enter Tryd.func16, Tryd.ntmps16
                  go_wp2_with fail
                  refine (K1.out _ (Ext.refl w)).mono ?_; rintro e w1 ⟨rfl, y1⟩
                  go_wp2_with fail
                  refine (K2.out _ y1).mono ?_; rintro e w2 ⟨rfl, x2⟩
                  have y2 := y1.trans x2
                  go_wp2_with fail
                  refine (V1.out _ y2).mono ?_; rintro e w3 ⟨rfl, x3⟩
                  have y3 := y2.trans x3
                  go_wp2_with fail
                  refine (V2.out _ y3).mono ?_; rintro e w4 ⟨rfl, x4⟩
                  have y4 := y3.trans x4
                  go_wp2_with fail
                  refine (G1.out _ y4).mono ?_; rintro e w5 ⟨rfl, x5⟩
                  have y5 := y4.trans x5
                  go_wp2_with fail
                  refine (G2.out _ y5).mono ?_; rintro e w6 ⟨rfl, x6⟩
                  have y6 := y5.trans x6
                  go_wp2_with fail
                  refine (S1.out _ y6).mono ?_; rintro e w7 ⟨rfl, x7⟩
                  have y7 := y6.trans x7
                  go_wp2_with fail
                  refine (S2.out _ y7).mono ?_; rintro e w8 ⟨rfl, x8⟩
                  have y8 := y7.trans x8
                  go_wp2_with fail
                  refine (M1.out _ y8).mono ?_; rintro e w9 ⟨rfl, x9⟩
                  have y9 := y8.trans x9
                  go_wp2_with fail
                  refine (M2.out _ y9).mono ?_; rintro e w10 ⟨rfl, x10⟩
                  have y10 := y9.trans x10
                  go_wp2_with fail
                  go_ret
                  exact ⟨rfl, y10⟩
              · have hD2 : D = false := by rw [← HD.out, decide_eq_false]; intro e; injection e with _ _ _ e1 e2; exact hn (HSS.out e1 e2).1
                subst hD2
                clear iha ihb hat hbt ta tb ua ub
                go_enter Tryd.func16, Tryd.ntmps16
                go_wp2_with fail
                refine (K1.out _ (Ext.refl w)).mono ?_; rintro e w1 ⟨rfl, y1⟩
                go_wp2_with fail
                refine (K2.out _ y1).mono ?_; rintro e w2 ⟨rfl, x2⟩
                have y2 := y1.trans x2
                go_wp2_with fail
                refine (V1.out _ y2).mono ?_; rintro e w3 ⟨rfl, x3⟩
                have y3 := y2.trans x3
                go_wp2_with fail
                refine (V2.out _ y3).mono ?_; rintro e w4 ⟨rfl, x4⟩
                have y4 := y3.trans x4
                go_wp2_with fail
                refine (G1.out _ y4).mono ?_; rintro e w5 ⟨rfl, x5⟩
                have y5 := y4.trans x5
                go_wp2_with fail
                refine (G2.out _ y5).mono ?_; rintro e w6 ⟨rfl, x6⟩
                have y6 := y5.trans x6
                go_wp2_with fail
                refine (S1.out _ y6).mono ?_; rintro e w7 ⟨rfl, x7⟩
                have y7 := y6.trans x7
                go_wp2_with fail
                refine (S2.out _ y7).mono ?_; rintro e w8 ⟨rfl, x8⟩
                have y8 := y7.trans x8
                go_wp2_with fail
                go_ret
                exact ⟨rfl, y8⟩
            · have hD2 : D = false := by rw [← HD.out, decide_eq_false]; intro e; injection e with _ _ e; exact hg e
              subst hD2
              clear iha ihb hat hbt ta tb ua ub
              go_enter Tryd.func16, Tryd.ntmps16
              go_wp2_with fail
              refine (K1.out _ (Ext.refl w)).mono ?_; rintro e w1 ⟨rfl, y1⟩
              go_wp2_with fail
              refine (K2.out _ y1).mono ?_; rintro e w2 ⟨rfl, x2⟩
              have y2 := y1.trans x2
              go_wp2_with fail
              refine (V1.out _ y2).mono ?_; rintro e w3 ⟨rfl, x3⟩
              have y3 := y2.trans x3
              go_wp2_with fail
              refine (V2.out _ y3).mono ?_; rintro e w4 ⟨rfl, x4⟩
              have y4 := y3.trans x4
              go_wp2_with fail
              refine (G1.out _ y4).mono ?_; rintro e w5 ⟨rfl, x5⟩
              have y5 := y4.trans x5
              go_wp2_with fail
              refine (G2.out _ y5).mono ?_; rintro e w6 ⟨rfl, x6⟩
              have y6 := y5.trans x6
              go_wp2_with fail
              go_ret
              exact ⟨rfl, y6⟩
          · have hD2 : D = false := by rw [← HD.out, decide_eq_false]; intro e; injection e with _ e; exact hx e
            subst hD2
            clear iha ihb hat hbt ta tb ua ub
            go_enter Tryd.func16, Tryd.ntmps16
            go_wp2_with fail
            refine (K1.out _ (Ext.refl w)).mono ?_; rintro e w1 ⟨rfl, y1⟩
            go_wp2_with fail
            refine (K2.out _ y1).mono ?_; rintro e w2 ⟨rfl, x2⟩
            have y2 := y1.trans x2
            go_wp2_with fail
            refine (V1.out _ y2).mono ?_; rintro e w3 ⟨rfl, x3⟩
            have y3 := y2.trans x3
            go_wp2_with fail
            refine (V2.out _ y3).mono ?_; rintro e w4 ⟨rfl, x4⟩
            have y4 := y3.trans x4
            go_wp2_with fail
            go_ret
            exact ⟨rfl, y4⟩
        · have hD2 : D = false := by rw [← HD.out, decide_eq_false]; intro e; injection e with e; exact hk e
          subst hD2
          clear iha ihb hat hbt ta tb ua ub
          go_enter Tryd.func16, Tryd.ntmps16
          go_wp2_with fail
          refine (K1.out _ (Ext.refl w)).mono ?_; rintro e w1 ⟨rfl, y1⟩
          go_wp2_with fail
          refine (K2.out _ y1).mono ?_; rintro e w2 ⟨rfl, x2⟩
          have y2 := y1.trans x2
          go_wp2_with fail
          go_ret
          exact ⟨rfl, y2⟩
end Go.Proofs.YtgpegcjgmoiglaaDoor
