/- Package shape: a reader takes a tree. -/
import Derived.Test.YtgpegcjgmoiglaaDoorReadC
namespace Go.Proofs.YtgpegcjgmoiglaaDoor
open Go.RowKit Go.Lib
set_option linter.unusedVariables false

/-- A pointer to a tree none of whose blocks is X. -/
def TrX (X : Nat) (w : World) : Value → T → Prop
  | v, .nil => v = .pointer none
  | v, .node k x g l r => ∃ b vl vr, v = .pointer (some ⟨b, 0, none⟩) ∧ b ≠ X ∧ At w b k x g l r vl vr ∧ TrX X w vl l ∧ TrX X w vr r
theorem TrX.tr {X : Nat} {w : World} : ∀ {t : T} {v : Value}, TrX X w v t → Tr w v t
  | .nil, _, h => h
  | .node .., _, ⟨b, vl, vr, e, _, ha, hl, hr⟩ => ⟨b, vl, vr, e, ha, hl.tr, hr.tr⟩
theorem TrX.chg {X : Nat} {w w' : World} (c : Chg [X] w w') : ∀ {t : T} {v : Value}, TrX X w v t → TrX X w' v t
  | .nil, _, h => h
  | .node .., _, ⟨b, vl, vr, e, hn, ha, hl, hr⟩ => ⟨b, vl, vr, e, hn, c.blk ha (by simpa using hn), hl.chg c, hr.chg c⟩
theorem TrX.ptr {X : Nat} {w : World} {t : T} {v : Value} (h : TrX X w v t) : ∃ a, v = .pointer a := h.tr.ptr
/-- How reading a tree ends. -/
def EndT (R : Nat) (w : World) (res : Option (T × List UInt8 × Nat)) (e : Ending) (w' : World) : Prop := Chg [R] w w' ∧
  (match res with
    | none => e = .panicked thrown
    | some (t, l', m') => ∃ v, e = .returned v ∧ TrX R w' v t ∧ Rd w' R l' (m' : Int))
theorem EndT.no {R : Nat} {w w' : World} {res : Option (T × List UInt8 × Nat)} (h : res = none) (c : Chg [R] w w') : EndT R w res (.panicked thrown) w' := by subst h; exact ⟨c, rfl⟩
theorem EndT.yes {R : Nat} {w w' : World} {res : Option (T × List UInt8 × Nat)} {t : T} {l' : List UInt8} {m' : Nat} {v : Value} (h : res = some (t, l', m')) (c : Chg [R] w w') (ht : TrX R w' v t) (hr : Rd w' R l' (m' : Int)) : EndT R w res (.returned v) w' := by subst h; exact ⟨c, v, rfl, ht, hr⟩
theorem Rd.count {w : World} {R : Nat} {l : List UInt8} {m m' : Int} (h : Rd w R l m) : Rd (w.setCell ⟨R, 1, none⟩ (.int .i64 m')) R l m' := by
  have := Blk.set h 1 (.int .i64 m')
  unfold Rd
  simpa using this
theorem Rd.chg1 {w : World} {R : Nat} {l : List UInt8} {m : Int} (h : Rd w R l m) (m' : Int) : Chg [R] w (w.setCell ⟨R, 1, none⟩ (.int .i64 m')) := (Chg.refl [R] w).set (p := ⟨R, 1, none⟩) (by simp) _
/-- A byte, with what stays. -/
theorem sign_rd {w : World} {R : Nat} {l : List UInt8} {m : Int} (c : UInt8) {n : Int} (hn : (c.toNat : Int) = n) (h : Rd w R l m) :
    Calls Tryd.prog 56 #[.pointer (some ⟨R, 0, none⟩), .int .u8 n] w fun e w' => Chg [R] w w' ∧
      (match signR c l with
        | none => e = .panicked thrown
        | some l' => e = .returned (.tuple #[]) ∧ Rd w' R l' m) := by
  refine (sign_any c hn h).mono ?_
  intro e w' hp
  cases hs : signR c l with
  | none => rw [hs] at hp; obtain ⟨rfl, rfl⟩ := hp; exact ⟨Chg.refl _ _, rfl⟩
  | some l' => rw [hs] at hp; obtain ⟨rfl, rfl⟩ := hp; exact ⟨h.chg l', rfl, h.cut⟩
theorem signR_len {c : UInt8} {s s1 : List UInt8} (h : signR c s = some s1) : s1.length ≤ s.length := by rw [signR_some h]; simp
theorem numR_len {s s1 : List UInt8} {n : Int} (h : numR s = some (n, s1)) : s1.length ≤ s.length := by rw [(numR_some h).1]; simp
theorem tagR_len {s s1 : List UInt8} {n : Int} (h : tagR s = some (n, s1)) : s1.length ≤ s.length := by rw [(tagR_some h).1]; simp
theorem treeR_len {left : Nat} {s s1 : List UInt8} {m m1 : Nat} {t : T} (h : treeR left s m = some (t, s1, m1)) : s1.length ≤ s.length := by rw [(treeR_some h).1]; simp
theorem treeR_le {left : Nat} {s s1 : List UInt8} {m m1 : Nat} {t : T} (h : treeR left s m = some (t, s1, m1)) (hm : m ≤ 65536) : m1 ≤ 65536 := by
  obtain ⟨_, _, h3, h4, _⟩ := treeR_some h
  cases ht : t.some with
  | true => exact h4 ht
  | false =>
    have : t.size = 0 := by cases t <;> first | rfl | cases ht
    omega
set_option maxRecDepth 100000 in
set_option maxHeartbeats 16000000 in
theorem tree_any {w0 : World} (hl0 : Laid w0) (left : Nat) : ∀ {w : World} {R : Nat} {l : List UInt8} {m : Nat} {iL : Int}, Ext w0 w → w0.heap.size ≤ R → Rd w R l (m : Int) → l.length ≤ 1000000000 → m ≤ 65536 → left ≤ 5000 → (left : Int) = iL →
    Calls Tryd.prog 43 #[.pointer (some ⟨R, 0, none⟩), .int .i64 iL] w (EndT R w (treeR left l m)) := by
  induction left with
  | zero =>
    intro w R l m iL x hR h hm hmm hlf hiL
    have hiL : iL = 0 := by omega
    subst hiL
    have c0 := h.cell 0
    have f0 := h.frozen 0
    generalize hT : treeR 0 l m = res
    cases l with
    | nil =>
      have hres : Hid (res = none) := Lib.hid (by rw [← hT, treeR]; rfl)
      have SG := Lib.hid (sign_rd 40 (n := 40) rfl h)
      clear hT h hiL
      go_enter Tryd.func43, Tryd.ntmps43
      go_wp2_with fail
      refine SG.out.mono ?_; rintro e w1 ⟨k1, rfl⟩
      go_wp2_with fail
      exact ⟨rfl, EndT.no hres.out k1⟩
    | cons d s =>
      have et : (⟨⟨d :: s⟩⟩ : ByteArray).extract 1 (s.length + 1) = ⟨⟨s⟩⟩ := by rw [cut_eq, List.drop_one, List.tail_cons, List.take_of_length_le (by simp)]
      by_cases hd : d = 46
      · subst hd
        have hb := byte_eq 46 46 s
        simp only [decide_true] at hb
        have hb : ∀ (h : 0 < (⟨⟨46 :: s⟩⟩ : ByteArray).size), ((((⟨⟨46 :: s⟩⟩ : ByteArray)[0].toNat : Nat) : Int) == 46) = true := hb
        have hres : Hid (res = some (.nil, s, m)) := Lib.hid (by rw [← hT, treeR]; simp)
        have H1 := Lib.hid (And.intro (h.chg s) (h.cut (l' := s)))
        clear hT h hiL
        go_enter Tryd.func43, Tryd.ntmps43
        go_wp2_with fail
        go_ret
        exact EndT.yes hres.out H1.out.1 rfl H1.out.2
      · have hb := byte_eq 46 d s
        rw [decide_eq_false hd] at hb
        have hb : ∀ (h : 0 < (⟨⟨d :: s⟩⟩ : ByteArray).size), ((((⟨⟨d :: s⟩⟩ : ByteArray)[0].toNat : Nat) : Int) == 46) = false := hb
        rw [treeR, if_neg (by simpa using hd)] at hT
        have HT := Lib.hid hT
        have HI := Lib.hid hmm
        have SG := Lib.hid (sign_rd 40 (n := 40) rfl h)
        clear hT h hiL hd
        go_enter Tryd.func43, Tryd.ntmps43
        go_wp2_with fail
        refine SG.out.mono ?_; rintro e w1 ⟨k1, p1⟩
        clear hb et c0 f0
        cases e1 : signR 40 (d :: s) with
        | none =>
          rw [e1] at p1
          subst p1
          have hres : Hid (res = none) := Lib.hid (by rw [← HT.out, e1])
          clear e1
          go_wp2_with fail
          exact ⟨rfl, EndT.no hres.out k1⟩
        | some s1 =>
          rw [e1] at p1
          obtain ⟨rfl, r1⟩ := p1
          have hres : Hid (res = none) := Lib.hid (by rw [← HT.out, e1])
          clear e1 HT
          have g1 := r1.cell 1
          have fz1 := r1.frozen 1
          have hm9 : (m : Int) ≤ 65536 := by have := HI.out; omega
          have k2 := Lib.hid (k1.trans (r1.chg1 ((m : Int) + 1)))
          go_wp2_with fail
          refine (must_no _).mono ?_; rintro e wz ⟨rfl, rfl⟩
          go_wp2_with fail
          exact ⟨rfl, EndT.no hres.out k2.out⟩
  | succ left ih =>
    intro w R l m iL x hR h hm hmm hlf hiL
    have c0 := h.cell 0
    have f0 := h.frozen 0
    generalize hT : treeR (left + 1) l m = res
    cases l with
    | nil =>
      have hres : Hid (res = none) := Lib.hid (by rw [← hT, treeR]; rfl)
      have SG := Lib.hid (sign_rd 40 (n := 40) rfl h)
      clear hT h hiL
      go_enter Tryd.func43, Tryd.ntmps43
      go_wp2_with fail
      refine SG.out.mono ?_; rintro e w1 ⟨k1, rfl⟩
      go_wp2_with fail
      exact ⟨rfl, EndT.no hres.out k1⟩
    | cons d s =>
      have et : (⟨⟨d :: s⟩⟩ : ByteArray).extract 1 (s.length + 1) = ⟨⟨s⟩⟩ := by rw [cut_eq, List.drop_one, List.tail_cons, List.take_of_length_le (by simp)]
      by_cases hd : d = 46
      · subst hd
        have hb := byte_eq 46 46 s
        simp only [decide_true] at hb
        have hb : ∀ (h : 0 < (⟨⟨46 :: s⟩⟩ : ByteArray).size), ((((⟨⟨46 :: s⟩⟩ : ByteArray)[0].toNat : Nat) : Int) == 46) = true := hb
        have hres : Hid (res = some (.nil, s, m)) := Lib.hid (by rw [← hT, treeR]; simp)
        have H1 := Lib.hid (And.intro (h.chg s) (h.cut (l' := s)))
        clear hT h hiL
        go_enter Tryd.func43, Tryd.ntmps43
        go_wp2_with fail
        go_ret
        exact EndT.yes hres.out H1.out.1 rfl H1.out.2
      · have hb := byte_eq 46 d s
        rw [decide_eq_false hd] at hb
        have hb : ∀ (h : 0 < (⟨⟨d :: s⟩⟩ : ByteArray).size), ((((⟨⟨d :: s⟩⟩ : ByteArray)[0].toNat : Nat) : Int) == 46) = false := hb
        rw [treeR, if_neg (by simpa using hd)] at hT
        have HT := Lib.hid hT
        have HI := Lib.hid (And.intro hiL (And.intro hm (And.intro hmm hlf)))
        have SG := Lib.hid (sign_rd 40 (n := 40) rfl h)
        have HH := Lib.hid h
        clear hT h hiL hd
        go_enter Tryd.func43, Tryd.ntmps43
        go_wp2_with fail
        refine SG.out.mono ?_; rintro e w1 ⟨k1, p1⟩
        clear hb et c0 f0
        cases e1 : signR 40 (d :: s) with
        | none =>
          rw [e1] at p1
          subst p1
          have hres : Hid (res = none) := Lib.hid (by rw [← HT.out, e1])
          clear e1
          go_wp2_with fail
          exact ⟨rfl, EndT.no hres.out k1⟩
        | some s1 =>
          rw [e1] at p1
          obtain ⟨rfl, r1⟩ := p1
          have hT := HT.out
          rw [e1] at hT
          simp only at hT
          have L1 := Lib.hid (signR_len e1)
          clear e1 HT
          have g1 := r1.cell 1
          have fz1 := r1.frozen 1
          have hm9 : (m : Int) ≤ 65536 := by have := HI.out; omega
          have r2 := r1.count (m' := (m : Int) + 1)
          have k2 := k1.trans (r1.chg1 ((m : Int) + 1))
          have hlp : 0 < iL := by have := HI.out; omega
          by_cases hmx : 65536 < m + 1
          · have hres : Hid (res = none) := Lib.hid (by rw [← hT, if_pos hmx])
            have hmy : ¬ (m : Int) + 1 ≤ 65536 := by omega
            have k2 := Lib.hid k2
            clear hT hmx r1 r2
            go_wp2_with fail
            refine (must_not (by simpa using hmy) _).mono ?_; rintro e wz ⟨rfl, rfl⟩
            go_wp2_with fail
            exact ⟨rfl, EndT.no hres.out k2.out⟩
          · rw [if_neg hmx] at hT
            have hmy : (m : Int) + 1 ≤ 65536 := by omega
            have HT := Lib.hid hT
            clear hT hmx r1
            go_wp2_with fail
            --R1
            refine (must_ok _).mono ?_; rintro e wz ⟨rfl, rfl⟩
            have r2 : Rd (w1.setCell ⟨R, 1, none⟩ (.int .i64 ((m : Int) + 1))) R s1 ((m + 1 : Nat) : Int) := by push_cast; exact r2
            have LL : Hid (s1.length ≤ 1000000000) := Lib.hid (by have := L1.out; have := HI.out; omega)
            have ML : Hid (m + 1 ≤ 65536) := Lib.hid (by omega)
            clear g1 fz1 hm9 hmy L1 k1
            have hlq : iL ≤ 5001 := by have := HI.out; omega
            generalize w1.setCell ⟨R, 1, none⟩ (.int .i64 ((m : Int) + 1)) = wA at *
            have st := Lib.hid (And.intro k2 r2)
            clear k2 r2
            go_wp2_with fail
            refine (ih (iL := iL - 1) (Chg.over x hR st.out.1) hR st.out.2 LL.out (by have := HI.out; have := ML.out; omega) (by have := HI.out; omega) (by have := HI.out; omega)).mono ?_; rintro e wB ⟨cg, p⟩
            cases ec : treeR left s1 (m + 1) with
            | none =>
              rw [ec] at p
              subst p
              have hres : Hid (res = none) := Lib.hid (by rw [← HT.out]; simp only [ec])
              clear ec
              go_wp2_with fail
              exact ⟨rfl, EndT.no hres.out (st.out.1.trans cg)⟩
            | some y =>
              obtain ⟨a, s2, m2⟩ := y
              rw [ec] at p
              obtain ⟨va, rfl, ta, rr⟩ := p
              have hT := HT.out
              simp only [ec] at hT
              have HT := Lib.hid hT
              clear hT
              have LL : Hid (s2.length ≤ 1000000000) := Lib.hid (Nat.le_trans (treeR_len ec) LL.out)
              have ML : Hid (m2 ≤ 65536) := Lib.hid (treeR_le ec (by have := HI.out; have := ML.out; omega))
              obtain ⟨pa, rfl⟩ := ta.ptr
              have st := Lib.hid (And.intro (st.out.1.trans cg) rr)
              clear cg rr ec
              go_wp2_with fail
              refine (sign_rd 32 (n := 32) rfl st.out.2).mono ?_; rintro e wC ⟨cg, p⟩
              cases ec : signR 32 s2 with
              | none =>
                rw [ec] at p
                subst p
                have hres : Hid (res = none) := Lib.hid (by rw [← HT.out]; simp only [ec])
                clear ec
                go_wp2_with fail
                exact ⟨rfl, EndT.no hres.out (st.out.1.trans cg)⟩
              | some s3 =>
                rw [ec] at p
                obtain ⟨rfl, rr⟩ := p
                have hT := HT.out
                simp only [ec] at hT
                have HT := Lib.hid hT
                clear hT
                have ta := ta.chg cg
                have LL : Hid (s3.length ≤ 1000000000) := Lib.hid (Nat.le_trans (signR_len ec) LL.out)
                have st := Lib.hid (And.intro (st.out.1.trans cg) rr)
                clear cg rr ec
                go_wp2_with fail
                refine (num_any hl0 (Chg.over x hR st.out.1) hR st.out.2 LL.out).mono ?_; rintro e wD ⟨cg, p⟩
                cases ec : numR s3 with
                | none =>
                  rw [ec] at p
                  subst p
                  have hres : Hid (res = none) := Lib.hid (by rw [← HT.out]; simp only [ec])
                  clear ec
                  go_wp2_with fail
                  exact ⟨rfl, EndT.no hres.out (st.out.1.trans cg)⟩
                | some y =>
                  obtain ⟨k, s4⟩ := y
                  rw [ec] at p
                  obtain ⟨rfl, rr⟩ := p
                  have hT := HT.out
                  simp only [ec] at hT
                  have HT := Lib.hid hT
                  clear hT
                  have ta := ta.chg cg
                  have LL : Hid (s4.length ≤ 1000000000) := Lib.hid (Nat.le_trans (numR_len ec) LL.out)
                  have st := Lib.hid (And.intro (st.out.1.trans cg) rr)
                  clear cg rr ec
                  go_wp2_with fail
                  refine (sign_rd 58 (n := 58) rfl st.out.2).mono ?_; rintro e wE ⟨cg, p⟩
                  cases ec : signR 58 s4 with
                  | none =>
                    rw [ec] at p
                    subst p
                    have hres : Hid (res = none) := Lib.hid (by rw [← HT.out]; simp only [ec])
                    clear ec
                    go_wp2_with fail
                    exact ⟨rfl, EndT.no hres.out (st.out.1.trans cg)⟩
                  | some s5 =>
                    rw [ec] at p
                    obtain ⟨rfl, rr⟩ := p
                    have hT := HT.out
                    simp only [ec] at hT
                    have HT := Lib.hid hT
                    clear hT
                    have ta := ta.chg cg
                    have LL : Hid (s5.length ≤ 1000000000) := Lib.hid (Nat.le_trans (signR_len ec) LL.out)
                    have st := Lib.hid (And.intro (st.out.1.trans cg) rr)
                    clear cg rr ec
                    go_wp2_with fail
                    refine (num_any hl0 (Chg.over x hR st.out.1) hR st.out.2 LL.out).mono ?_; rintro e wF ⟨cg, p⟩
                    cases ec : numR s5 with
                    | none =>
                      rw [ec] at p
                      subst p
                      have hres : Hid (res = none) := Lib.hid (by rw [← HT.out]; simp only [ec])
                      clear ec
                      go_wp2_with fail
                      exact ⟨rfl, EndT.no hres.out (st.out.1.trans cg)⟩
                    | some y =>
                      obtain ⟨xx, s6⟩ := y
                      rw [ec] at p
                      obtain ⟨rfl, rr⟩ := p
                      have hT := HT.out
                      simp only [ec] at hT
                      have HT := Lib.hid hT
                      clear hT
                      have ta := ta.chg cg
                      have LL : Hid (s6.length ≤ 1000000000) := Lib.hid (Nat.le_trans (numR_len ec) LL.out)
                      have st := Lib.hid (And.intro (st.out.1.trans cg) rr)
                      clear cg rr ec
                      go_wp2_with fail
                      refine (tag_rd hl0 (Chg.over x hR st.out.1) hR st.out.2 LL.out).mono ?_; rintro e wG ⟨cg, p⟩
                      cases ec : tagR s6 with
                      | none =>
                        rw [ec] at p
                        subst p
                        have hres : Hid (res = none) := Lib.hid (by rw [← HT.out]; simp only [ec])
                        clear ec
                        go_wp2_with fail
                        exact ⟨rfl, EndT.no hres.out (st.out.1.trans cg)⟩
                      | some y =>
                        obtain ⟨g, s7⟩ := y
                        rw [ec] at p
                        obtain ⟨rfl, rr⟩ := p
                        have hT := HT.out
                        simp only [ec] at hT
                        have HT := Lib.hid hT
                        clear hT
                        have ta := ta.chg cg
                        have LL : Hid (s7.length ≤ 1000000000) := Lib.hid (Nat.le_trans (tagR_len ec) LL.out)
                        have st := Lib.hid (And.intro (st.out.1.trans cg) rr)
                        clear cg rr ec
                        go_wp2_with fail
                        refine (sign_rd 32 (n := 32) rfl st.out.2).mono ?_; rintro e wH ⟨cg, p⟩
                        cases ec : signR 32 s7 with
                        | none =>
                          rw [ec] at p
                          subst p
                          have hres : Hid (res = none) := Lib.hid (by rw [← HT.out]; simp only [ec])
                          clear ec
                          go_wp2_with fail
                          exact ⟨rfl, EndT.no hres.out (st.out.1.trans cg)⟩
                        | some s8 =>
                          rw [ec] at p
                          obtain ⟨rfl, rr⟩ := p
                          have hT := HT.out
                          simp only [ec] at hT
                          have HT := Lib.hid hT
                          clear hT
                          have ta := ta.chg cg
                          have LL : Hid (s8.length ≤ 1000000000) := Lib.hid (Nat.le_trans (signR_len ec) LL.out)
                          have st := Lib.hid (And.intro (st.out.1.trans cg) rr)
                          clear cg rr ec
                          go_wp2_with fail
                          refine (ih (iL := iL - 1) (Chg.over x hR st.out.1) hR st.out.2 LL.out (by have := HI.out; have := ML.out; omega) (by have := HI.out; omega) (by have := HI.out; omega)).mono ?_; rintro e wI ⟨cg, p⟩
                          cases ec : treeR left s8 (m2) with
                          | none =>
                            rw [ec] at p
                            subst p
                            have hres : Hid (res = none) := Lib.hid (by rw [← HT.out]; simp only [ec])
                            clear ec
                            go_wp2_with fail
                            exact ⟨rfl, EndT.no hres.out (st.out.1.trans cg)⟩
                          | some y =>
                            obtain ⟨b, s9, m3⟩ := y
                            rw [ec] at p
                            obtain ⟨vb, rfl, tb, rr⟩ := p
                            have hT := HT.out
                            simp only [ec] at hT
                            have HT := Lib.hid hT
                            clear hT
                            have ta := ta.chg cg
                            have LL : Hid (s9.length ≤ 1000000000) := Lib.hid (Nat.le_trans (treeR_len ec) LL.out)
                            have ML : Hid (m3 ≤ 65536) := Lib.hid (treeR_le ec (by have := HI.out; have := ML.out; omega))
                            obtain ⟨pb, rfl⟩ := tb.ptr
                            have st := Lib.hid (And.intro (st.out.1.trans cg) rr)
                            clear cg rr ec
                            go_wp2_with fail
                            refine (sign_rd 41 (n := 41) rfl st.out.2).mono ?_; rintro e wJ ⟨cg, p⟩
                            cases ec : signR 41 s9 with
                            | none =>
                              rw [ec] at p
                              subst p
                              have hres : Hid (res = none) := Lib.hid (by rw [← HT.out]; simp only [ec])
                              clear ec
                              go_wp2_with fail
                              exact ⟨rfl, EndT.no hres.out (st.out.1.trans cg)⟩
                            | some s10 =>
                              rw [ec] at p
                              obtain ⟨rfl, rr⟩ := p
                              have hT := HT.out
                              simp only [ec] at hT
                              have HT := Lib.hid hT
                              clear hT
                              have ta := ta.chg cg
                              have tb := tb.chg cg
                              have LL : Hid (s10.length ≤ 1000000000) := Lib.hid (Nat.le_trans (signR_len ec) LL.out)
                              have st := Lib.hid (And.intro (st.out.1.trans cg) rr)
                              clear cg rr ec
                              go_wp2_with fail
                              refine (new_any k xx g ta.tr tb.tr).mono ?_; rintro e wK ⟨u, rfl, x4, bn, rfl, hbn, hat⟩
                              go_wp2_with fail
                              go_ret
                              have hRl : R < wJ.heap.size := Blk.lt st.out.2
                              exact EndT.yes HT.out.symm (st.out.1.trans (x4.chg _)) ⟨bn, _, _, rfl, by omega, hat, ta.chg (x4.chg _), tb.chg (x4.chg _)⟩ (Blk.ext st.out.2 x4)
            --E1
end Go.Proofs.YtgpegcjgmoiglaaDoor
