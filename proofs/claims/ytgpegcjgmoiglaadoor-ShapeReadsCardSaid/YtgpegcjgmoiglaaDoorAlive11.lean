/- joinerylaw11.alive: the chapter's examples. -/
import Derived.Test.YtgpegcjgmoiglaaDoorReadE
import Derived.Test.YtgpegcjgmoiglaaDoorListF
import Derived.Test.YtgpegcjgmoiglaaDoorLineD
import Derived.Test.YtgpegcjgmoiglaaDoorSameD
namespace Go.Proofs.YtgpegcjgmoiglaaDoor
open Go.RowKit Go.Lib
set_option linter.unusedVariables false

def t5 : T := .node 5 (-7) 3 .nil .nil
theorem line5 : lineT t5 = [40, 46, 32, 53, 58, 45, 55, 35, 51, 32, 46, 41] := by
  have e5 : decDigits 5 = [53] := by rw [decDigits]; rfl
  have e7 : decDigits 7 = [55] := by rw [decDigits]; rfl
  have e3 : decDigits 3 = [51] := by rw [decDigits]; rfl
  have i5 : itoa 5 = [53] := by unfold itoa; rw [if_neg (by decide)]; exact e5
  have i7 : itoa (-7) = [45, 55] := by unfold itoa; rw [if_pos (by decide)]; show 45 :: decDigits 7 = _; rw [e7]
  have g3 : tagL 3 = [35, 51] := by unfold tagL; rw [if_neg (by decide)]; show 35 :: decDigits 3 = _; rw [e3]
  simp [t5, lineT, midL, i5, i7, g3]
theorem rng5 : RngT t5 := ⟨by unfold I64; omega, by unfold I64; omega, by omega, trivial, trivial⟩
theorem read5 : readT [40, 46, 32, 53, 58, 45, 55, 35, 51, 32, 46, 41] = some t5 := by rw [← line5]; exact readT_of (by decide) (by decide) rng5
theorem read05 : readT [40, 46, 32, 48, 53, 58, 55, 32, 46, 41] = none := by
  cases h : readT [40, 46, 32, 48, 53, 58, 55, 32, 46, 41] with
  | none => rfl
  | some t =>
    exfalso
    obtain ⟨h1, _, _, hr⟩ := readT_some h
    cases t with
    | nil => simp [lineT] at h1
    | node k x g a b =>
      obtain ⟨hk, _⟩ := hr
      cases a with
      | node k' x' g' a' b' => simp [lineT] at h1
      | nil =>
        simp only [lineT, midL, List.cons_append, List.nil_append, List.append_assoc, List.cons.injEq, true_and] at h1
        have hn := numR_of hk (c := 58) (s := itoa x ++ (tagL g ++ 32 :: (lineT b ++ [41]))) rfl
        rw [← h1] at hn
        unfold numR at hn
        have hw : wordL [48, 53, 58, 55, 32, 46, 41] = [48, 53] := by decide
        have hp : parseIntB 64 [48, 53] = .ok 5 := by rw [parseIntB_64]; decide
        have e5 : itoa 5 = [53] := by unfold itoa; rw [if_neg (by decide)]; show decDigits 5 = _; rw [decDigits]; rfl
        rw [hw, hp] at hn
        simp [e5] at hn
theorem line5_any {v : Value} {w : World} (hl : Laid w) (h : Tr w v t5) :
    Calls Tryd.prog 14 #[v] w fun e w' => e = .returned (.string ⟨#[40, 46, 32, 53, 58, 45, 55, 35, 51, 32, 46, 41]⟩) ∧ Ext w w' := by
  have := line_any hl h rng5 (by decide)
  rwa [line5] at this
theorem line0_any {w : World} (hl : Laid w) :
    Calls Tryd.prog 14 #[.pointer none] w fun e w' => e = .returned (.string ⟨#[46]⟩) ∧ Ext w w' := line_any (t := .nil) hl rfl trivial (by decide)
theorem same_yes_any {t : T} {va vb : Value} {w : World} (ha : Tr w va t) (hb : Tr w vb t) : Calls Tryd.prog 16 #[va, vb] w fun e w' => e = .returned (.bool true) ∧ Ext w w' := by
  have := sameT_any t t ha hb
  rwa [decide_eq_true rfl] at this
theorem MadeR.some_ {t : T} {e : Ending} {w : World} (h : MadeR (some t) e w) : ∃ p, e = .returned (.tuple #[.pointer p, .int .i64 0]) ∧ Tr w (.pointer p) t := by
  obtain ⟨p, n, rfl, rfl, ht⟩ := h
  exact ⟨p, rfl, ht⟩
theorem MadeR.none_ {e : Ending} {w : World} (h : MadeR none e w) : e = .returned (.tuple #[.pointer none, .int .i64 7]) := by
  obtain ⟨p, n, rfl, rfl, ht⟩ := h
  rw [show Value.pointer p = .pointer none from ht]; rfl
theorem read5_any {w : World} (hl : Laid w) :
    Calls Tryd.prog 17 #[.string ⟨#[40, 46, 32, 53, 58, 45, 55, 35, 51, 32, 46, 41]⟩] w fun e w' => ∃ p, e = .returned (.tuple #[.pointer p, .int .i64 0]) ∧ Tr w' (.pointer p) t5 ∧ Ext w w' := by
  refine (read_any (l := [40, 46, 32, 53, 58, 45, 55, 35, 51, 32, 46, 41]) hl (by decide)).mono ?_
  rintro e w' ⟨x, h⟩
  rw [read5] at h
  obtain ⟨p, rfl, ht⟩ := h.some_
  exact ⟨p, rfl, ht, x⟩
theorem read05_any {w : World} (hl : Laid w) :
    Calls Tryd.prog 17 #[.string ⟨#[40, 46, 32, 48, 53, 58, 55, 32, 46, 41]⟩] w fun e w' => e = .returned (.tuple #[.pointer none, .int .i64 7]) ∧ Ext w w' := by
  refine (read_any (l := [40, 46, 32, 48, 53, 58, 55, 32, 46, 41]) hl (by decide)).mono ?_
  rintro e w' ⟨x, h⟩
  rw [read05] at h
  exact ⟨h.none_, x⟩
set_option maxRecDepth 100000 in
set_option maxHeartbeats 4000000 in
theorem alive11_any {w : World} (hl : Laid w) : Calls Tryd.prog 9 #[] w fun e w' => e = .returned (.bool true) ∧ Ext w w' := by
  have L0 := Lib.hid hl
  clear hl
  go_enter Tryd.func9, Tryd.ntmps9
  go_wp2_with fail
  refine (new_any (l := .nil) (r := .nil) 5 (-7) 3 rfl rfl).mono ?_; rintro e w1 ⟨u, rfl, x1, bn, rfl, hbn, hat⟩
  have ta : Tr w1 (.pointer (some ⟨bn, 0, none⟩)) t5 := ⟨bn, _, _, rfl, hat, rfl, rfl⟩
  clear hat hbn
  go_wp2_with fail
  refine (read5_any (L0.out.ext x1)).mono ?_; rintro e w2 ⟨p, rfl, tb, x2⟩
  have y2 := x1.trans x2
  have ta := ta.ext x2
  clear x1 x2
  go_wp2_with fail
  refine (read05_any (L0.out.ext y2)).mono ?_; rintro e w3 ⟨rfl, x3⟩
  have y3 := y2.trans x3
  have ta := ta.ext x3
  have tb := tb.ext x3
  clear x3 y2
  go_wp2_with fail
  refine (line5_any (L0.out.ext y3) ta).mono ?_; rintro e w4 ⟨rfl, x4⟩
  have y4 := y3.trans x4
  have ta := ta.ext x4
  have tb := tb.ext x4
  clear x4 y3
  go_wp2_with fail
  refine (same_yes_any ta tb).mono ?_; rintro e w5 ⟨rfl, x5⟩
  have y5 := y4.trans x5
  have ta := ta.ext x5
  clear x5 y4 tb
  go_wp2_with fail
  refine (list_any ta (by decide)).mono ?_; rintro e w6 ⟨vl, rfl, o6, x6⟩
  have y6 := y5.trans x6
  obtain ⟨A, c, rfl, hc, hr⟩ := o6.sl Bead.enc_len (by omega)
  have hlen : (bOf t5).length = 1 := rfl
  rw [hlen]
  clear x6 y5 o6 hc hr hlen ta
  go_wp2_with fail
  refine (line0_any (L0.out.ext y6)).mono ?_; rintro e w7 ⟨rfl, x7⟩
  have y7 := y6.trans x7
  clear x7 y6
  go_wp2_with fail
  go_ret
  exact ⟨rfl, y7⟩
end Go.Proofs.YtgpegcjgmoiglaaDoor
