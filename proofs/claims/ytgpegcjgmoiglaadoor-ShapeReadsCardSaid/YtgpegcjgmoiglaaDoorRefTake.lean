/- joineryref11.take: the document's reader. -/
import Derived.Test.YtgpegcjgmoiglaaDoorRefWord
import Derived.Test.YtgpegcjgmoiglaaDoorNodeB
import Derived.Deep.RegionHeld3
namespace Go.Proofs.YtgpegcjgmoiglaaDoor
open Go.RowKit Go.Lib
set_option linter.unusedVariables false

/-- How taking ends. -/
def EndW (w : World) (res : Option (W × List UInt8)) (e : Ending) (w' : World) : Prop := Ext w w' ∧
  (match res with
    | none => e = .returned (.tuple #[.slice none 0 0, .string ⟨#[]⟩, .bool false])
    | some (q, s1) => ∃ v t, e = .returned (.tuple #[v, .string ⟨⟨s1⟩⟩, .bool true]) ∧ Fit q t ∧ Own Bead.enc 44 7 w.heap.size w' v (bOf t))
theorem EndW.no {w w' : World} {res : Option (W × List UInt8)} (h : res = none) (x : Ext w w') : EndW w res (.returned (.tuple #[.slice none 0 0, .string ⟨#[]⟩, .bool false])) w' := by subst h; exact ⟨x, rfl⟩
theorem EndW.yes {w w' : World} {res : Option (W × List UInt8)} {q : W} {s1 : List UInt8} {v : Value} {t : T} (h : res = some (q, s1)) (x : Ext w w') (hf : Fit q t) (ho : Own Bead.enc 44 7 w.heap.size w' v (bOf t)) :
    EndW w res (.returned (.tuple #[v, .string ⟨⟨s1⟩⟩, .bool true])) w' := by subst h; exact ⟨x, v, t, rfl, hf, ho⟩
theorem Own.beadsR {w : World} {v : Value} {l : List Bead} {e base : Nat} (h : Own Bead.enc e 7 base w v l) : Sl Bead.enc w v l := h.sl Bead.enc_len (by omega)
theorem cut1 (d : UInt8) (s : List UInt8) : (⟨⟨d :: s⟩⟩ : ByteArray).extract 1 (s.length + 1) = ⟨⟨s⟩⟩ := by rw [cut_eq, List.drop_one, List.tail_cons, List.take_of_length_le (by simp)]
theorem str_cut1 (d : UInt8) (s : List UInt8) : ∀ W : World, (Instr.slice 9 (.string ⟨⟨d :: s⟩⟩) (some (.int .i64 1)) none none).run Tryd.prog W = .ok (.string ⟨⟨s⟩⟩) W := by
  intro W
  have h : (1 : Int) ≤ (s.length : Int) + 1 := by omega
  have e := cut1 d s
  have hz : (⟨⟨d :: s⟩⟩ : ByteArray).size = s.length + 1 := rfl
  generalize (⟨⟨d :: s⟩⟩ : ByteArray) = B at *
  simp [Instr.slice, run_underlying Tryd.underlying9, Instr.sliceBounds, run_sliceBound, hz, h, e]
theorem cutw (d : UInt8) (s : List UInt8) : (⟨⟨d :: s⟩⟩ : ByteArray).extract (1 + (wordL s).length) (s.length + 1) = ⟨⟨restL s⟩⟩ := by
  rw [cut_eq]
  have h : (d :: s).drop (1 + (wordL s).length) = restL s := by
    rw [Nat.add_comm, List.drop_succ_cons]
    have h := List.drop_left (l₁ := wordL s) (l₂ := restL s)
    rwa [word_rest] at h
  rw [h, List.take_of_length_le (by have := word_rest_len s; omega)]
set_option maxRecDepth 100000 in
set_option maxHeartbeats 16000000 in
theorem takeR_any {w0 : World} (hl0 : Laid w0) (left : Nat) : ∀ {w : World} {s : List UInt8} {iL : Int}, Ext w0 w → s.length ≤ 5000 → left ≤ 5000 → (left : Int) = iL →
    Calls Tryd.prog 45 #[.string ⟨⟨s⟩⟩, .int .i64 iL] w (EndW w (takeW left s)) := by
  have L0 := Lib.hid hl0
  clear hl0
  induction left with
  --R1
  | zero =>
    intro w s iL x hm hlf hiL
    have hiL : iL = 0 := by omega
    subst hiL
    clear x hm hlf
    cases s with
    | nil =>
      go_enter Tryd.func45, Tryd.ntmps45
      go_wp2_with fail
      go_ret3
      exact EndW.no rfl (Ext.refl _)
    | cons d s =>
      by_cases hd : d = 46
      · subst hd
        have hb : ∀ (h : 0 < (⟨⟨46 :: s⟩⟩ : ByteArray).size), ((((⟨⟨46 :: s⟩⟩ : ByteArray)[0].toNat : Nat) : Int) == 46) = true := by have hb := byte_eq 46 46 s; simp only [decide_true] at hb; exact hb
        have et := cut1 46 s
        go_enter Tryd.func45, Tryd.ntmps45
        go_wp2_with fail
        go_region
        go_wp2_with fail
        go_ret3
        exact EndW.yes (t := .nil) (q := .nil) rfl ((Ext.refl _).drew) trivial (Own.nil_ _ _ _)
      · by_cases h4 : d = 40
        · subst h4
          have hb6 : ∀ (h : 0 < (⟨⟨40 :: s⟩⟩ : ByteArray).size), ((((⟨⟨40 :: s⟩⟩ : ByteArray)[0].toNat : Nat) : Int) == 46) = false := by have hb := byte_eq 46 40 s; rw [decide_eq_false (by decide)] at hb; exact hb
          have hb4 : ∀ (h : 0 < (⟨⟨40 :: s⟩⟩ : ByteArray).size), ((((⟨⟨40 :: s⟩⟩ : ByteArray)[0].toNat : Nat) : Int) != 40) = false := by have hb := byte_ne 40 40 s; simp only [decide_true, Bool.not_true] at hb; exact hb
          go_enter Tryd.func45, Tryd.ntmps45
          go_wp2_with fail
          go_ret3
          exact EndW.no rfl (Ext.refl _)
        · have HD := Lib.hid (And.intro hd h4)
          have hb6 : ∀ (h : 0 < (⟨⟨d :: s⟩⟩ : ByteArray).size), ((((⟨⟨d :: s⟩⟩ : ByteArray)[0].toNat : Nat) : Int) == 46) = false := by have hb := byte_eq 46 d s; rw [decide_eq_false hd] at hb; exact hb
          have hb4 : ∀ (h : 0 < (⟨⟨d :: s⟩⟩ : ByteArray).size), ((((⟨⟨d :: s⟩⟩ : ByteArray)[0].toNat : Nat) : Int) != 40) = true := by have hb := byte_ne 40 d s; rw [decide_eq_false h4] at hb; exact hb
          clear hd h4
          go_enter Tryd.func45, Tryd.ntmps45
          go_wp2_with fail
          go_ret3
          exact EndW.no (takeW_zero HD.out.1 _) (Ext.refl _)
  | succ left ih =>
    intro w s iL x hm hlf hiL
    have HI := Lib.hid (And.intro x (And.intro hm (And.intro hlf hiL)))
    have hz0 : (iL == 0) = false := by rw [beq_eq_false_iff_ne]; omega
    have hi9 : iL ≤ 5001 := by omega
    have hi1 : 1 ≤ iL := by omega
    clear x hm hlf hiL
    cases s with
    | nil =>
      go_enter Tryd.func45, Tryd.ntmps45
      go_wp2_with fail
      go_ret3
      exact EndW.no rfl (Ext.refl _)
    | cons d s =>
      by_cases hd : d = 46
      · subst hd
        have hb : ∀ (h : 0 < (⟨⟨46 :: s⟩⟩ : ByteArray).size), ((((⟨⟨46 :: s⟩⟩ : ByteArray)[0].toNat : Nat) : Int) == 46) = true := by have hb := byte_eq 46 46 s; simp only [decide_true] at hb; exact hb
        have et := cut1 46 s
        go_enter Tryd.func45, Tryd.ntmps45
        go_wp2_with fail
        go_region
        go_wp2_with fail
        go_ret3
        exact EndW.yes (t := .nil) (q := .nil) rfl ((Ext.refl _).drew) trivial (Own.nil_ _ _ _)
      · by_cases h4 : d = 40
        · subst h4
          have hb6 : ∀ (h : 0 < (⟨⟨40 :: s⟩⟩ : ByteArray).size), ((((⟨⟨40 :: s⟩⟩ : ByteArray)[0].toNat : Nat) : Int) == 46) = false := by have hb := byte_eq 46 40 s; rw [decide_eq_false (by decide)] at hb; exact hb
          have hb4 : ∀ (h : 0 < (⟨⟨40 :: s⟩⟩ : ByteArray).size), ((((⟨⟨40 :: s⟩⟩ : ByteArray)[0].toNat : Nat) : Int) != 40) = false := by have hb := byte_ne 40 40 s; simp only [decide_true, Bool.not_true] at hb; exact hb
          have et := cut1 40 s
          have HS := Lib.hid (show s.length ≤ 5000 by have := HI.out.2.1; simp at this; omega)
          go_enter Tryd.func45, Tryd.ntmps45
          go_wp2_with fail
          clear hb6 hb4 et hz0
          refine (ih (HI.out.1) HS.out (by have := HI.out; omega) (by have := HI.out; omega)).mono ?_; rintro e w1 ⟨y, p⟩
          cases ec : takeW left s with
          | none =>
            rw [ec] at p
            subst p
            have EA := Lib.hid ec
            clear ec
            have RS : Hid (takeW (left + 1) (40 :: s) = none) := Lib.hid ((takeW_succ (by decide) _ _).trans (bodyW_n1 EA.out))
            go_wp2_with fail
            go_ret3
            exact EndW.no RS.out y
          | some q =>
            obtain ⟨qa, s2⟩ := q
            rw [ec] at p
            obtain ⟨va, ta, rfl, fa, oa⟩ := p
            have EA := Lib.hid ec
            have ZA := Lib.hid (takeW_size ec fa)
            have ST := Lib.hid (And.intro y (And.intro fa oa))
            clear ec y fa oa
            cases s2 with
            | nil =>
              have RS : Hid (takeW (left + 1) (40 :: s) = none) := Lib.hid ((takeW_succ (by decide) _ _).trans (bodyW_n2 EA.out (signR_nil _)))
              go_wp2_with fail
              go_ret3
              exact EndW.no RS.out ST.out.1
            | cons d s3 =>
              by_cases hd : d = 32
              · subst hd
                have hb : ∀ (h : 0 < (⟨⟨32 :: s3⟩⟩ : ByteArray).size), ((((⟨⟨32 :: s3⟩⟩ : ByteArray)[0].toNat : Nat) : Int) != 32) = false := by have hb := byte_ne 32 32 s3; simp only [decide_true, Bool.not_true] at hb; exact hb
                have et := cut1 32 s3
                have ew3 := cutw 32 s3
                have hwl : ((wordL s3).length : Int) ≤ (s3.length : Int) := by have := word_rest_len s3; omega
                have hl9 : (s3.length : Int) ≤ 5000 := by have := ZA.out.1; have := HS.out; simp at *; omega
                have L3 := Lib.hid (show s3.length ≤ 5000 by omega)
                go_wp2_with fail
                refine (refWord_any (l := s3) (by have := L3.out; omega)).mono ?_; rintro e wz ⟨rfl, rfl⟩
                cases er : restL s3 with
                | nil =>
                  rw [er] at ew3
                  have E3 := Lib.hid er
                  clear er
                  have RS : Hid (takeW (left + 1) (40 :: s) = none) := Lib.hid ((takeW_succ (by decide) _ _).trans (bodyW_n3 EA.out (by rw [E3.out]; exact signR_nil _)))
                  go_wp2_with fail
                  go_ret3
                  exact EndW.no RS.out ST.out.1
                | cons d s5 =>
                  by_cases hd : d = 58
                  · subst hd
                    rw [er] at ew3
                    have E3 := Lib.hid er
                    clear er
                    have hb8 : ∀ (h : 0 < (⟨⟨58 :: s5⟩⟩ : ByteArray).size), ((((⟨⟨58 :: s5⟩⟩ : ByteArray)[0].toNat : Nat) : Int) != 58) = false := by have hb := byte_ne 58 58 s5; simp only [decide_true, Bool.not_true] at hb; exact hb
                    have h5 : s5.length + 1 ≤ s3.length := by have h1 := word_rest_len s3; rw [E3.out] at h1; simp at h1; omega
                    have L5 := Lib.hid (show s5.length ≤ 5000 by have := L3.out; omega)
                    clear h5
                    have et5 := cut1 58 s5
                    go_wp2_with fail
                    refine (refWord_any (l := s5) (by have := L5.out; omega)).mono ?_; rintro e wz ⟨rfl, rfl⟩
                    have ew5 := cutw 58 s5
                    have hwl5 : ((wordL s5).length : Int) ≤ (s5.length : Int) := by have := word_rest_len s5; omega
                    have hl95 : (s5.length : Int) ≤ 5000 := by have := L5.out; omega
                    cases er : restL s5 with
                    | nil =>
                      rw [er] at ew5
                      have E5 := Lib.hid er
                      clear er
                      have RS : Hid (takeW (left + 1) (40 :: s) = none) := Lib.hid ((takeW_succ (by decide) _ _).trans (bodyW_n4 EA.out E3.out (by rw [E5.out, gW_nil]; exact signR_nil _)))
                      go_wp2_with fail
                      go_ret3
                      exact EndW.no RS.out ST.out.1
                    | cons d s7 =>
                      have h7 : s7.length + 1 ≤ s5.length := by have h1 := word_rest_len s5; rw [er] at h1; simp at h1; omega
                      have L7 := Lib.hid (show s7.length ≤ 5000 by have := L5.out; omega)
                      clear h7
                      rw [er] at ew5
                      have E5 := Lib.hid er
                      clear er
                      by_cases hd : d = 35
                      · subst hd
                        have hbt : ∀ (h : 0 < (⟨⟨35 :: s7⟩⟩ : ByteArray).size), ((((⟨⟨35 :: s7⟩⟩ : ByteArray)[0].toNat : Nat) : Int) == 35) = true := by have hb := byte_eq 35 35 s7; simp only [decide_true] at hb; exact hb
                        have et7 := cut1 35 s7
                        go_wp2_with fail
                        refine (refWord_any (l := s7) (by have := L7.out; omega)).mono ?_; rintro e wz ⟨rfl, rfl⟩
                        have ew7 := cutw 35 s7
                        have hwl7 : ((wordL s7).length : Int) ≤ (s7.length : Int) := by have := word_rest_len s7; omega
                        have hl97 : (s7.length : Int) ≤ 5000 := by have := L7.out; omega
                        cases er : restL s7 with
                        | nil =>
                          rw [er] at ew7
                          have E7 := Lib.hid er
                          clear er
                          have RS : Hid (takeW (left + 1) (40 :: s) = none) := Lib.hid ((takeW_succ (by decide) _ _).trans (bodyW_n4 EA.out E3.out (by rw [E5.out, gW_yes, E7.out]; exact signR_nil _)))
                          go_wp2_with fail
                          go_ret3
                          exact EndW.no RS.out ST.out.1
                        | cons d s8 =>
                          have h8 : s8.length + 1 ≤ s7.length := by have h1 := word_rest_len s7; rw [er] at h1; simp at h1; omega
                          have L8 := Lib.hid (show s8.length ≤ 5000 by have := L7.out; omega)
                          rw [er] at ew7
                          have E7 := Lib.hid er
                          clear er h8
                          by_cases hd : d = 32
                          · subst hd
                            have EG : Hid (gW (restL s5) = (wordL s7, 32 :: s8)) := Lib.hid (by rw [E5.out, gW_yes, E7.out])
                            have hb32 : ∀ (h : 0 < (⟨⟨32 :: s8⟩⟩ : ByteArray).size), ((((⟨⟨32 :: s8⟩⟩ : ByteArray)[0].toNat : Nat) : Int) != 32) = false := by have hb := byte_ne 32 32 s8; simp only [decide_true, Bool.not_true] at hb; exact hb
                            have et8 := cut1 32 s8
                            go_wp2_with fail
                            refine (ih (HI.out.1.trans ST.out.1) L8.out (by have := HI.out; omega) (by have := HI.out; omega)).mono ?_; rintro e w2 ⟨y2, p2⟩
                            cases ec : takeW left s8 with
                            | none =>
                              rw [ec] at p2
                              subst p2
                              have EB := Lib.hid ec
                              have Y2 := Lib.hid (ST.out.1.trans y2)
                              clear ec y2
                              have RS : Hid (takeW (left + 1) (40 :: s) = none) := Lib.hid ((takeW_succ (by decide) _ _).trans (bodyW_n5 EA.out E3.out EG.out EB.out))
                              go_wp2_with fail
                              go_ret3
                              exact EndW.no RS.out Y2.out
                            | some q =>
                              obtain ⟨qb, s9⟩ := q
                              rw [ec] at p2
                              obtain ⟨vb, tb, rfl, fb, ob⟩ := p2
                              have EB := Lib.hid ec
                              have ZB := Lib.hid (takeW_size ec fb)
                              have S2 := Lib.hid (And.intro (ST.out.1.trans y2) (And.intro y2 (And.intro fb ob)))
                              clear ec y2 fb ob
                              cases s9 with
                              | nil =>
                                have RS : Hid (takeW (left + 1) (40 :: s) = none) := Lib.hid ((takeW_succ (by decide) _ _).trans (bodyW_n6 EA.out E3.out EG.out EB.out (signR_nil _)))
                                go_wp2_with fail
                                go_ret3
                                exact EndW.no RS.out S2.out.1
                              | cons d s10 =>
                                by_cases hd : d = 41
                                · subst hd
                                  have hb9 : ∀ (h : 0 < (⟨⟨41 :: s10⟩⟩ : ByteArray).size), ((((⟨⟨41 :: s10⟩⟩ : ByteArray)[0].toNat : Nat) : Int) != 41) = false := by have hb := byte_ne 41 41 s10; simp only [decide_true, Bool.not_true] at hb; exact hb
                                  have et10 := str_cut1 41 s10
                                  go_wp2_with fail
                                  refine (parseI_num (wordL s3) (by have := word_rest_len s3; have := L3.out; omega) (L0.out.ext (HI.out.1.trans S2.out.1))).mono ?_; rintro e w3 ⟨nk, vk, rfl, fk, x3⟩
                                  have Y3 := S2.out.1.trans x3
                                  go_wp2_with fail
                                  refine (parseI_num (wordL s5) (by have := word_rest_len s5; have := L5.out; omega) (L0.out.ext (HI.out.1.trans Y3))).mono ?_; rintro e w4 ⟨nx, vx, rfl, fx, x4⟩
                                  have Y4 := Y3.trans x4
                                  go_wp2_with fail
                                  refine (parseU_num (wordL s7) (by have := word_rest_len s7; have := L7.out; omega) (L0.out.ext (HI.out.1.trans Y4))).mono ?_; rintro e w5 ⟨ng, vg, rfl, fg, x5⟩
                                  have FF := Lib.hid (And.intro (Y4.trans x5) (And.intro (show Ext w2 w5 from (x3.trans x4).trans x5) (And.intro fk (And.intro fx fg))))
                                  clear x3 x4 x5 Y3 Y4 fk fx fg
                                  go_wp2_with fail
                                  have OA := Lib.hid ((ST.out.2.2.ext (S2.out.2.1.trans FF.out.2.1)).beadsR)
                                  have OB := Lib.hid ((S2.out.2.2.2.ext FF.out.2.1).beadsR)
                                  have SZ : Hid (ta.size ≤ 5000 ∧ tb.size ≤ 5000) := Lib.hid (by have h1 := ZA.out.1; have h2 := ZB.out.1; have h3 := HS.out; have h4 := L8.out; constructor <;> omega)
                                  go_region_held3 (fun _ => True) (trivial)
                                    (first
                                      | (go_at_call 62; refine (nodeB_any nk nx ng (OA.out.ext ((Ext.refl w5).drew)) (ofT_ser _ ta) (OB.out.ext ((Ext.refl w5).drew)) (ofT_ser _ tb) (by have := SZ.out; have := ta.height_le_size; omega) (by have := SZ.out; have := tb.height_le_size; omega) (by have := SZ.out; rw [bOf_length]; omega) (by have := SZ.out; rw [bOf_length]; omega)).mono ?_; rintro e w6 ⟨v6, rfl, x6, o6⟩)
                                      | fail)
                                  go_wp2_with fail
                                  go_ret3
                                  exact EndW.yes (t := .node nk nx ng ta tb) ((takeW_succ (by decide) _ _).trans (bodyW_yes EA.out E3.out EG.out EB.out)) (FF.out.1.trans ((Ext.refl w5).drew.trans x6)) ⟨FF.out.2.2.1, FF.out.2.2.2.1, FF.out.2.2.2.2, ST.out.2.1, S2.out.2.2.1⟩ (Own.mono o6 (FF.out.1.trans (Ext.refl w5).drew).size)
                                · have HD := Lib.hid hd
                                  have hb : ∀ (h : 0 < (⟨⟨d :: s10⟩⟩ : ByteArray).size), ((((⟨⟨d :: s10⟩⟩ : ByteArray)[0].toNat : Nat) : Int) != 41) = true := by have hb := byte_ne 41 d s10; rw [decide_eq_false hd] at hb; exact hb
                                  clear hd
                                  have RS : Hid (takeW (left + 1) (40 :: s) = none) := Lib.hid ((takeW_succ (by decide) _ _).trans (bodyW_n6 EA.out E3.out EG.out EB.out (signR_ne HD.out _)))
                                  go_wp2_with fail
                                  go_ret3
                                  exact EndW.no RS.out S2.out.1
                          · have HD := Lib.hid hd
                            have hb32 : ∀ (h : 0 < (⟨⟨d :: s8⟩⟩ : ByteArray).size), ((((⟨⟨d :: s8⟩⟩ : ByteArray)[0].toNat : Nat) : Int) != 32) = true := by have hb := byte_ne 32 d s8; rw [decide_eq_false hd] at hb; exact hb
                            clear hd
                            have RS : Hid (takeW (left + 1) (40 :: s) = none) := Lib.hid ((takeW_succ (by decide) _ _).trans (bodyW_n4 EA.out E3.out (by rw [E5.out, gW_yes, E7.out]; exact signR_ne HD.out _)))
                            go_wp2_with fail
                            go_ret3
                            exact EndW.no RS.out ST.out.1
                      · by_cases hd2 : d = 32
                        · subst hd2
                          have EG : Hid (gW (restL s5) = ([48], 32 :: s7)) := Lib.hid (by rw [E5.out]; exact gW_no (by decide) _)
                          have L8 := Lib.hid L7.out
                          have hbt : ∀ (h : 0 < (⟨⟨32 :: s7⟩⟩ : ByteArray).size), ((((⟨⟨32 :: s7⟩⟩ : ByteArray)[0].toNat : Nat) : Int) == 35) = false := by have hb := byte_eq 35 32 s7; rw [decide_eq_false (by decide)] at hb; exact hb
                          have hb32 : ∀ (h : 0 < (⟨⟨32 :: s7⟩⟩ : ByteArray).size), ((((⟨⟨32 :: s7⟩⟩ : ByteArray)[0].toNat : Nat) : Int) != 32) = false := by have hb := byte_ne 32 32 s7; simp only [decide_true, Bool.not_true] at hb; exact hb
                          have et8 := cut1 32 s7
                          go_wp2_with fail
                          refine (ih (HI.out.1.trans ST.out.1) L8.out (by have := HI.out; omega) (by have := HI.out; omega)).mono ?_; rintro e w2 ⟨y2, p2⟩
                          cases ec : takeW left s7 with
                          | none =>
                            rw [ec] at p2
                            subst p2
                            have EB := Lib.hid ec
                            have Y2 := Lib.hid (ST.out.1.trans y2)
                            clear ec y2
                            have RS : Hid (takeW (left + 1) (40 :: s) = none) := Lib.hid ((takeW_succ (by decide) _ _).trans (bodyW_n5 EA.out E3.out EG.out EB.out))
                            go_wp2_with fail
                            go_ret3
                            exact EndW.no RS.out Y2.out
                          | some q =>
                            obtain ⟨qb, s9⟩ := q
                            rw [ec] at p2
                            obtain ⟨vb, tb, rfl, fb, ob⟩ := p2
                            have EB := Lib.hid ec
                            have ZB := Lib.hid (takeW_size ec fb)
                            have S2 := Lib.hid (And.intro (ST.out.1.trans y2) (And.intro y2 (And.intro fb ob)))
                            clear ec y2 fb ob
                            cases s9 with
                            | nil =>
                              have RS : Hid (takeW (left + 1) (40 :: s) = none) := Lib.hid ((takeW_succ (by decide) _ _).trans (bodyW_n6 EA.out E3.out EG.out EB.out (signR_nil _)))
                              go_wp2_with fail
                              go_ret3
                              exact EndW.no RS.out S2.out.1
                            | cons d s10 =>
                              by_cases hd : d = 41
                              · subst hd
                                have hb9 : ∀ (h : 0 < (⟨⟨41 :: s10⟩⟩ : ByteArray).size), ((((⟨⟨41 :: s10⟩⟩ : ByteArray)[0].toNat : Nat) : Int) != 41) = false := by have hb := byte_ne 41 41 s10; simp only [decide_true, Bool.not_true] at hb; exact hb
                                have et10 := str_cut1 41 s10
                                go_wp2_with fail
                                refine (parseI_num (wordL s3) (by have := word_rest_len s3; have := L3.out; omega) (L0.out.ext (HI.out.1.trans S2.out.1))).mono ?_; rintro e w3 ⟨nk, vk, rfl, fk, x3⟩
                                have Y3 := S2.out.1.trans x3
                                go_wp2_with fail
                                refine (parseI_num (wordL s5) (by have := word_rest_len s5; have := L5.out; omega) (L0.out.ext (HI.out.1.trans Y3))).mono ?_; rintro e w4 ⟨nx, vx, rfl, fx, x4⟩
                                have Y4 := Y3.trans x4
                                go_wp2_with fail
                                refine (parseU_num [48] (by decide) (L0.out.ext (HI.out.1.trans Y4))).mono ?_; rintro e w5 ⟨ng, vg, rfl, fg, x5⟩
                                have FF := Lib.hid (And.intro (Y4.trans x5) (And.intro (show Ext w2 w5 from (x3.trans x4).trans x5) (And.intro fk (And.intro fx fg))))
                                clear x3 x4 x5 Y3 Y4 fk fx fg
                                go_wp2_with fail
                                have OA := Lib.hid ((ST.out.2.2.ext (S2.out.2.1.trans FF.out.2.1)).beadsR)
                                have OB := Lib.hid ((S2.out.2.2.2.ext FF.out.2.1).beadsR)
                                have SZ : Hid (ta.size ≤ 5000 ∧ tb.size ≤ 5000) := Lib.hid (by have h1 := ZA.out.1; have h2 := ZB.out.1; have h3 := HS.out; have h4 := L8.out; constructor <;> omega)
                                go_region_held3 (fun _ => True) (trivial)
                                  (first
                                    | (go_at_call 62; refine (nodeB_any nk nx ng (OA.out.ext ((Ext.refl w5).drew)) (ofT_ser _ ta) (OB.out.ext ((Ext.refl w5).drew)) (ofT_ser _ tb) (by have := SZ.out; have := ta.height_le_size; omega) (by have := SZ.out; have := tb.height_le_size; omega) (by have := SZ.out; rw [bOf_length]; omega) (by have := SZ.out; rw [bOf_length]; omega)).mono ?_; rintro e w6 ⟨v6, rfl, x6, o6⟩)
                                    | fail)
                                go_wp2_with fail
                                go_ret3
                                exact EndW.yes (t := .node nk nx ng ta tb) ((takeW_succ (by decide) _ _).trans (bodyW_yes EA.out E3.out EG.out EB.out)) (FF.out.1.trans ((Ext.refl w5).drew.trans x6)) ⟨FF.out.2.2.1, FF.out.2.2.2.1, FF.out.2.2.2.2, ST.out.2.1, S2.out.2.2.1⟩ (Own.mono o6 (FF.out.1.trans (Ext.refl w5).drew).size)
                              · have HD := Lib.hid hd
                                have hb : ∀ (h : 0 < (⟨⟨d :: s10⟩⟩ : ByteArray).size), ((((⟨⟨d :: s10⟩⟩ : ByteArray)[0].toNat : Nat) : Int) != 41) = true := by have hb := byte_ne 41 d s10; rw [decide_eq_false hd] at hb; exact hb
                                clear hd
                                have RS : Hid (takeW (left + 1) (40 :: s) = none) := Lib.hid ((takeW_succ (by decide) _ _).trans (bodyW_n6 EA.out E3.out EG.out EB.out (signR_ne HD.out _)))
                                go_wp2_with fail
                                go_ret3
                                exact EndW.no RS.out S2.out.1
                        · have HD := Lib.hid (And.intro hd hd2)
                          have hbt : ∀ (h : 0 < (⟨⟨d :: s7⟩⟩ : ByteArray).size), ((((⟨⟨d :: s7⟩⟩ : ByteArray)[0].toNat : Nat) : Int) == 35) = false := by have hb := byte_eq 35 d s7; rw [decide_eq_false hd] at hb; exact hb
                          have hb32 : ∀ (h : 0 < (⟨⟨d :: s7⟩⟩ : ByteArray).size), ((((⟨⟨d :: s7⟩⟩ : ByteArray)[0].toNat : Nat) : Int) != 32) = true := by have hb := byte_ne 32 d s7; rw [decide_eq_false hd2] at hb; exact hb
                          clear hd hd2
                          have RS : Hid (takeW (left + 1) (40 :: s) = none) := Lib.hid ((takeW_succ (by decide) _ _).trans (bodyW_n4 EA.out E3.out (by rw [E5.out, gW_no HD.out.1]; exact signR_ne HD.out.2 _)))
                          go_wp2_with fail
                          go_ret3
                          exact EndW.no RS.out ST.out.1
                  · have HD := Lib.hid hd
                    have hb : ∀ (h : 0 < (⟨⟨d :: s5⟩⟩ : ByteArray).size), ((((⟨⟨d :: s5⟩⟩ : ByteArray)[0].toNat : Nat) : Int) != 58) = true := by have hb := byte_ne 58 d s5; rw [decide_eq_false hd] at hb; exact hb
                    clear hd
                    rw [er] at ew3
                    have E3 := Lib.hid er
                    clear er
                    have RS : Hid (takeW (left + 1) (40 :: s) = none) := Lib.hid ((takeW_succ (by decide) _ _).trans (bodyW_n3 EA.out (by rw [E3.out]; exact signR_ne HD.out _)))
                    go_wp2_with fail
                    go_ret3
                    exact EndW.no RS.out ST.out.1
              · have HD := Lib.hid hd
                have hb : ∀ (h : 0 < (⟨⟨d :: s3⟩⟩ : ByteArray).size), ((((⟨⟨d :: s3⟩⟩ : ByteArray)[0].toNat : Nat) : Int) != 32) = true := by have hb := byte_ne 32 d s3; rw [decide_eq_false hd] at hb; exact hb
                clear hd
                have RS : Hid (takeW (left + 1) (40 :: s) = none) := Lib.hid ((takeW_succ (by decide) _ _).trans (bodyW_n2 EA.out (signR_ne HD.out _)))
                go_wp2_with fail
                go_ret3
                exact EndW.no RS.out ST.out.1
        · have HD := Lib.hid (And.intro hd h4)
          have hb6 : ∀ (h : 0 < (⟨⟨d :: s⟩⟩ : ByteArray).size), ((((⟨⟨d :: s⟩⟩ : ByteArray)[0].toNat : Nat) : Int) == 46) = false := by have hb := byte_eq 46 d s; rw [decide_eq_false hd] at hb; exact hb
          have hb4 : ∀ (h : 0 < (⟨⟨d :: s⟩⟩ : ByteArray).size), ((((⟨⟨d :: s⟩⟩ : ByteArray)[0].toNat : Nat) : Int) != 40) = true := by have hb := byte_ne 40 d s; rw [decide_eq_false h4] at hb; exact hb
          clear hd h4
          go_enter Tryd.func45, Tryd.ntmps45
          go_wp2_with fail
          go_ret3
          exact EndW.no ((takeW_succ HD.out.1 _ _).trans (bodyW_n0 (signR_ne HD.out.2 _))) (Ext.refl _)
end Go.Proofs.YtgpegcjgmoiglaaDoor
