/- The statement WalkBack. -/
import Derived.Test.YtphpaaaaifpidaaWalkQ
import Derived.Test.YtphpaaaaifpidaaFrameB
namespace Go.Proofs.Ytphpaaaaifpidaa
open Go.RowKit
set_option linter.unusedVariables false

theorem long35_is {l : List Bead} {v : Value} {w : World} {b : Bool} (h : Sl Bead.enc w v l) (hm : l.length ≤ maxLen) (hb : (decide (400 < l.length) || !mayL l) = b) :
    Calls Try.prog 7 #[v] w fun e w' => e = .returned (.bool b) ∧ w = w' := by
  subst hb; exact long_any h (by simpa [maxLen] using hm)
theorem short35 {l : List Bead} (h : (decide (400 < l.length) || !mayL l) = false) : l.length ≤ 400 ∧ ∃ t : T, Ser l t ∧ t.size ≤ 400 ∧ t.height ≤ 400 := by
  simp only [Bool.or_eq_false_iff, decide_eq_false_iff_not, Bool.not_eq_false'] at h
  obtain ⟨t, ht⟩ := mayL_ser h.2
  have := ht.length
  have := t.height_le_size
  exact ⟨by omega, t, ht, by omega, by omega⟩
theorem make35 {l : List Bead} {v : Value} {w : World} {t : T} (h : Sl Bead.enc w v l) (hs : Ser l t) (hm : l.length ≤ 400) (hh : t.height ≤ 400) :
    Calls Try.prog 10 #[v] w fun e w' => ∃ a : A, e = .returned (.pointer a.ptr) ∧ Ext w w' ∧ a.tree = t ∧ AP (fun b => b < w'.heap.size) w' a := by
  refine (make_any t h hs (by omega) (by omega)).mono ?_
  rintro e w' ⟨v, rfl, x, tr⟩
  obtain ⟨a, h1, rfl, h3⟩ := AP.of_tr tr
  exact ⟨a, rfl, x, h1, h3⟩
theorem pair_at {a : A} {i : Nat} (h : i < a.size) : ∃ k v : Int, a.tree.pairs[i]? = some (k, v) := by
  have hlen : a.tree.pairs.length = a.size := by rw [T.pairs_length, A.size_tree]
  have h2 : i < a.tree.pairs.length := by omega
  exact ⟨a.tree.pairs[i].1, a.tree.pairs[i].2, List.getElem?_eq_getElem h2⟩
set_option maxRecDepth 100000 in
set_option maxHeartbeats 16000000 in
theorem walkBack_walk {far : Int} {l : List Bead} {v : Value} {w : World} (hl : Sl Bead.enc w v l) (ml : l.length ≤ maxLen) (wfar : (Lit.int .u16 far).wf = true) :
    Calls Try.prog 5 #[v, .int .u16 far] w fun e w' => e = .returned (.bool true) ∧ Ext w w' := by
  have hfar : 0 ≤ far ∧ far ≤ 65535 := by simp [Lit.wf] at wfar; exact wfar
  cases hL : (decide (400 < l.length) || !mayL l) with
  | true =>
    have lg := long35_is hl ml hL
    clear hL hl
    go_enter Try.func5, Try.ntmps5
    go_wp2_with fail
    refine lg.mono ?_; rintro e w' ⟨rfl, rfl⟩
    go_wp2_with fail
    refine (alive35 _).mono ?_; rintro e w1 ⟨rfl, x1⟩
    go_wp2_with fail
    go_ret
    exact ⟨rfl, x1⟩
  | false =>
    obtain ⟨l400, t, sa, asz, ah⟩ := short35 hL
    have lg := long35_is hl ml hL
    have MK := Lib.hid (make35 hl sa l400 ah)
    have RP := Lib.hid (fun (W : World) (X : Ext w W) => refPairs_any t (hl.ext X) sa (by omega) (by omega))
    have H4 := Lib.hid (And.intro asz l400)
    clear hL hl sa ah ml l400 asz
    go_enter Try.func5, Try.ntmps5
    go_wp2_with fail
    refine lg.mono ?_; rintro e w' ⟨rfl, rfl⟩
    go_wp2_with fail
    refine MK.out.mono ?_; rintro e w0 ⟨a, rfl, xw, hat, ha⟩
    have HA := Lib.hid ha
    have HT := Lib.hid hat
    have XW := Lib.hid xw
    have HM : Hid (a.size ≤ 400) := Lib.hid (by have := H4.out.1; rw [← HT.out, A.size_tree] at this; omega)
    have HN : Hid (a.size ≤ 100000) := Lib.hid (by have := HM.out; omega)
    clear ha hat xw
    go_wp2_with fail
    refine (first_any HA.out HN.out).mono ?_; rintro e w1 ⟨B, rfl, n1⟩
    go_wp2_with fail
    refine (RP.out _ (XW.out.trans n1.1)).mono ?_; rintro e w2 ⟨pv, rfl, x2, o2⟩
    rw [← HT.out] at o2
    have S0 := Bk.start n1 x2 o2
    have hlen : a.tree.pairs.length = a.size := by rw [T.pairs_length, A.size_tree]
    obtain ⟨A, c, rfl, hc, hr⟩ := o2.sl EP_len35 (by omega)
    rw [hlen] at S0
    clear n1 x2 o2 hc hr
    have SS := Lib.hid S0
    clear S0
    have q := eql_walk B
    rw [hlen]
    have HL := Lib.hid hlen
    clear hlen
    generalize hN : a.size = N at *
    have HZ := Lib.hid hN
    clear hN
    go_wp2_with fail
    refine (SS.out.prev HA.out (by rw [HZ.out]; exact HN.out) (q := -1) (r := false) (by rw [HZ.out]; simp [moveI]) (by simp)).mono ?_; rintro e w3 ⟨rfl, SA⟩
    have S3 := Lib.hid SA
    clear SA
    clear SS
    go_wp2_with fail
    go_loopw [7] (fun iv wr => ∃ (i : Nat) (P : Nat → Prop), i ≤ N ∧ iv = .int .i64 (i : Int) ∧ Bk w0 wr P B a ((i : Int) - 1) (.slice A N c) []) (fun iv _ => N - (intOf iv).toNat)
    case atStart => exact ⟨0, _, Nat.zero_le _, rfl, S3.out⟩
    case round =>
      clear S3
      obtain ⟨i, P, hi, rfl, hS⟩ := hrel
      have SS := Lib.hid hS
      clear hS
      by_cases hlt : i < N
      · obtain ⟨k, x, hx⟩ := pair_at (a := a) (i := i) (by rw [HZ.out]; exact hlt)
        have HX := Lib.hid hx
        have hlt2 : (i : Int) < (N : Int) := by omega
        have hi8 : i < 400 := by have := HM.out; omega
        clear hx
        go_wp2_with fail
        refine SS.out.place.mono ?_; rintro e w' ⟨rfl, rfl⟩
        go_wp2_with fail
        refine (SS.out.next HA.out (by rw [HZ.out]; exact HN.out) (q := (i : Int)) (r := true) (by rw [HZ.out]; simp only [moveI, if_true]; rw [if_pos (by omega)]; omega) (by rw [HZ.out]; simp; omega)).mono ?_; rintro e w4 ⟨rfl, SA⟩
        have S4 := Lib.hid SA
        clear SA
        clear SS
        go_wp2_with fail
        refine (S4.out.here HA.out (by rw [HZ.out]; exact HN.out) (v := .tuple #[.agg #[.int .i64 k, .int .i64 x], .bool true]) (by rw [hereP_yes (by omega) (by simpa using HX.out)])).mono ?_; rintro e w5 ⟨rfl, x5⟩
        go_wp2_with fail
        obtain ⟨P5, S5⟩ := S4.out.lay x5 k x
        obtain ⟨b, off, rfl, c0, c1⟩ := S5.row HX.out
        obtain ⟨d0, d1⟩ := S5.cells (.head _)
        have S6 := Lib.hid S5.drop
        clear S4 x5 S5
        generalize w5.alloc (.cells #[.int .i64 k, .int .i64 x] 48) = w6 at *
        generalize w5.heap.size = bx at *
        go_quiet (fail)
        go_wp2_with fail
        exact ⟨⟨i + 1, P5, by omega, by go_num, by have := S6.out.ext ((Ext.refl w6).drewN nq); rwa [show ((i + 1 : Nat) : Int) - 1 = (i : Int) from by omega]⟩, by simp only [intOf]; omega⟩
      · obtain rfl : N = i := by omega
        clear hi hlt
        have hN8 : N ≤ 400 := HM.out
        have HZ2 : Hid (a.size ≤ 100000) := Lib.hid (by rw [HZ.out]; exact HN.out)
        go_wp2_with fail
        refine (SS.out.next HA.out HZ2.out (q := (N : Int)) (r := false) (by rw [HZ.out]; simp only [moveI, if_true]; rw [if_pos (by omega)]; omega) (by rw [HZ.out]; simp)).mono ?_; rintro e w7 ⟨rfl, SA⟩
        have S7 := Lib.hid SA
        clear SA
        clear SS
        go_wp2_with fail
        refine (S7.out.next HA.out HZ2.out (q := (N : Int)) (r := false) (by rw [HZ.out]; simp [moveI]) (by rw [HZ.out]; simp)).mono ?_; rintro e w8 ⟨rfl, SA⟩
        have S8 := Lib.hid SA
        clear SA
        clear S7
        go_wp2_with fail
        refine S8.out.place.mono ?_; rintro e w' ⟨rfl, rfl⟩
        obtain ⟨k, hk, hk0, hk1⟩ : ∃ k : Int, far.tmod ((N : Int) + 1) = k ∧ 0 ≤ k ∧ k ≤ N := by
          refine ⟨_, rfl, ?_, ?_⟩
          · rw [Int.tmod_eq_emod_of_nonneg hfar.1]; exact Int.emod_nonneg _ (by omega)
          · rw [Int.tmod_eq_emod_of_nonneg hfar.1]; have := Int.emod_lt_of_pos far (show (0 : Int) < (N : Int) + 1 from by omega); omega
        have h0 : ¬ ((N : Int) + 1 = 0) := by omega
        obtain ⟨f0, f1⟩ := hfar
        go_wp2_with fail
        refine (S8.out.go HA.out HZ2.out (q := (N : Int) - k) (by simp only [InR]; omega) (by rw [HZ.out]; unfold clampI; rw [if_neg (by omega), if_neg (by omega)]; omega)).mono ?_; rintro e w9 ⟨rfl, SA⟩
        have S9 := Lib.hid SA
        clear SA
        clear S8
        go_wp2_with fail
        refine S9.out.place.mono ?_; rintro e w' ⟨rfl, rfl⟩
        go_wp2_with fail
        by_cases hk2 : k = 0
        · subst hk2
          have SB := S9.out
          rw [Int.sub_zero] at SB
          clear S9
          have S9 := Lib.hid SB
          clear SB
          refine (S9.out.here HA.out HZ2.out (v := .tuple #[.agg #[.int .i64 0, .int .i64 0], .bool false]) (by rw [hereP_no (by rw [HL.out]; omega)])).mono ?_; rintro e wa ⟨rfl, xa⟩
          go_wp2_with fail
          obtain ⟨P1, SA⟩ := S9.out.lay xa 0 0
          have S10 := Lib.hid SA
          clear S9 xa SA
          generalize wa.alloc (.cells #[.int .i64 0, .int .i64 0] 48) = wb at *
          generalize wa.heap.size = bx at *
          refine (S10.out.next HA.out HZ2.out rfl rfl).mono ?_; rintro e wc ⟨rfl, SA⟩
          have S11 := Lib.hid SA
          clear SA
          clear S10
          generalize moveI a.size true (N : Int) = p1 at *
          go_wp2_with fail
          refine (S11.out.prev HA.out HZ2.out rfl rfl).mono ?_; rintro e wd ⟨rfl, SA⟩
          have S12 := Lib.hid SA
          clear SA
          clear S11
          generalize moveI a.size false p1 = p2 at *
          go_wp2_with fail
          obtain ⟨k2, v2, e2⟩ := hereP_is a.tree.pairs p2
          generalize decide (0 ≤ p2 ∧ p2 < (a.tree.pairs.length : Int)) = b2 at e2
          have e2 := Lib.hid e2
          refine (S12.out.here HA.out HZ2.out e2.out).mono ?_; rintro e we ⟨rfl, xe⟩
          go_wp2_with fail
          obtain ⟨P2, SA⟩ := S12.out.lay xe k2 v2
          have S13 := Lib.hid SA
          clear S12 xe e2 SA
          generalize we.alloc (.cells #[.int .i64 k2, .int .i64 v2] 48) = wf at *
          generalize we.heap.size = by2 at *
          refine (S13.out.prev HA.out HZ2.out rfl rfl).mono ?_; rintro e wg ⟨rfl, SA⟩
          have S14 := Lib.hid SA
          clear SA
          clear S13
          generalize moveI a.size false p2 = p3 at *
          go_wp2_with fail
          refine (S14.out.next HA.out HZ2.out rfl rfl).mono ?_; rintro e wh ⟨rfl, SA⟩
          have S15 := Lib.hid SA
          clear SA
          clear S14
          generalize moveI a.size true p3 = p4 at *
          go_wp2_with fail
          obtain ⟨k3, v3, e3⟩ := hereP_is a.tree.pairs p4
          generalize decide (0 ≤ p4 ∧ p4 < (a.tree.pairs.length : Int)) = b3 at e3
          have e3 := Lib.hid e3
          refine (S15.out.here HA.out HZ2.out e3.out).mono ?_; rintro e wi ⟨rfl, xi⟩
          go_wp2_with fail
          obtain ⟨P3, S16⟩ := S15.out.lay xi k3 v3
          have X16 := Lib.hid (XW.out.trans S16.x)
          clear S15 xi e3 S16
          generalize wi.alloc (.cells #[.int .i64 k3, .int .i64 v3] 48) = wj at *
          refine (alive35 _).mono ?_; rintro e wk ⟨rfl, xk⟩
          go_wp2_with fail
          go_ret
          exact ⟨rfl, X16.out.trans xk⟩
        · obtain ⟨i, hi0⟩ : ∃ i : Nat, (N : Int) - k = (i : Int) := ⟨((N : Int) - k).toNat, by omega⟩
          have SB := S9.out
          rw [hi0] at SB
          clear S9
          have S9 := Lib.hid SB
          clear SB
          have hiN : i < N := by omega
          obtain ⟨k1, v1, hx⟩ := pair_at (a := a) (i := i) (by rw [HZ.out]; exact hiN)
          have HV : Hid (hereP a.tree.pairs (i : Int) = .tuple #[.agg #[.int .i64 k1, .int .i64 v1], .bool true]) := Lib.hid (hereP_yes (by omega) (by simpa using hx))
          have M1 : Hid (moveI a.size true (i : Int) = (i : Int) + 1) := Lib.hid (by rw [HZ.out]; simp only [moveI, if_true]; rw [if_pos (by omega)])
          have M2 : Hid (moveI a.size false ((i : Int) + 1) = (i : Int)) := Lib.hid (by simp only [moveI, Bool.false_eq_true, if_false]; rw [if_pos (by omega)]; omega)
          have M3 : Hid (moveI a.size false (i : Int) = (i : Int) - 1) := Lib.hid (by simp only [moveI, Bool.false_eq_true, if_false]; rw [if_pos (by omega)])
          have M4 : Hid (moveI a.size true ((i : Int) - 1) = (i : Int)) := Lib.hid (by rw [HZ.out]; simp only [moveI, if_true]; rw [if_pos (by omega)]; omega)
          clear hx hiN hi0 hk hk0 hk1 hk2 h0 hN8 f0 f1
          refine (S9.out.here HA.out HZ2.out HV.out).mono ?_; rintro e wa ⟨rfl, xa⟩
          go_wp2_with fail
          obtain ⟨P1, SA⟩ := S9.out.lay xa k1 v1
          have S10 := Lib.hid SA
          clear S9 xa SA
          generalize wa.alloc (.cells #[.int .i64 k1, .int .i64 v1] 48) = wb at *
          generalize wa.heap.size = bx at *
          refine (S10.out.next HA.out HZ2.out M1.out rfl).mono ?_; rintro e wc ⟨rfl, SA⟩
          have S11 := Lib.hid SA
          clear SA
          clear S10
          go_wp2_with fail
          refine (S11.out.prev HA.out HZ2.out M2.out rfl).mono ?_; rintro e wd ⟨rfl, SA⟩
          have S12 := Lib.hid SA
          clear SA
          clear S11
          go_wp2_with fail
          refine (S12.out.here HA.out HZ2.out HV.out).mono ?_; rintro e we ⟨rfl, xe⟩
          obtain ⟨P2, SA⟩ := S12.out.lay xe k1 v1
          obtain ⟨c0, c1⟩ := SA.cells (.tail _ (.head _))
          obtain ⟨d0, d1⟩ := SA.cells (.head _)
          have S13 := Lib.hid SA
          clear S12 xe SA
          go_wp2_with fail
          generalize we.alloc (.cells #[.int .i64 k1, .int .i64 v1] 48) = wf at *
          generalize we.heap.size = by2 at *
          clear c0 c1 d0 d1
          refine (S13.out.prev HA.out HZ2.out M3.out rfl).mono ?_; rintro e wg ⟨rfl, SA⟩
          have S14 := Lib.hid SA
          clear SA
          clear S13
          go_wp2_with fail
          refine (S14.out.next HA.out HZ2.out M4.out rfl).mono ?_; rintro e wh ⟨rfl, SA⟩
          have S15 := Lib.hid SA
          clear SA
          clear S14
          go_wp2_with fail
          refine (S15.out.here HA.out HZ2.out HV.out).mono ?_; rintro e wi ⟨rfl, xi⟩
          obtain ⟨P3, S16⟩ := S15.out.lay xi k1 v1
          obtain ⟨c0, c1⟩ := S16.cells (.tail _ (.tail _ (.head _)))
          obtain ⟨d0, d1⟩ := S16.cells (.head _)
          have X16 := Lib.hid (XW.out.trans S16.x)
          clear S15 xi S16
          go_wp2_with fail
          clear c0 c1 d0 d1
          generalize wi.alloc (.cells #[.int .i64 k1, .int .i64 v1] 48) = wj at *
          refine (alive35 _).mono ?_; rintro e wk ⟨rfl, xk⟩
          go_wp2_with fail
          go_ret
          exact ⟨rfl, X16.out.trans xk⟩
end Go.Proofs.Ytphpaaaaifpidaa
