/- The walk of joinerylaw11.ShapeDeep. -/
import Derived.Test.YtgpegcjgmoiglaaDoorAlive11
import Derived.Test.YtgpegcjgmoiglaaDoorMakeD
import Derived.Test.YtgpegcjgmoiglaaDoorChain
import Derived.Test.YtgpegcjgmoiglaaDoorHeight
import Derived.Test.YtgpegcjgmoiglaaDoorShort
import Derived.Test.YtgpegcjgmoiglaaDoorRefLine
namespace Go.Proofs.YtgpegcjgmoiglaaDoor
open Go.RowKit Go.Lib
set_option linter.unusedVariables false

theorem deep_yes (left : Bool) : makeT (chainL 4096 left 4096) = some (chainT left 4096) := makeT_of (chain_ser left 4096) (by rw [chainT_height]; exact Nat.le_refl _)
theorem deep_no (left : Bool) : makeT (chainL 4097 left 4097) = none := by
  cases e : makeT (chainL 4097 left 4097) with
  | none => rfl
  | some u =>
    obtain ⟨h1, h2⟩ := makeT_some e
    obtain rfl := ser_one h1 (chain_ser left 4097)
    rw [chainT_height] at h2
    omega
theorem deep_read (left : Bool) : readT (lineT (chainT left 4096)) = some (chainT left 4096) := readT_of (by rw [chainT_height]; exact Nat.le_refl _) (by rw [chainT_size]; omega) (chainT_rng left 4096)
theorem deep_line (left : Bool) : lineT (.node 0 0 0 (chainT left 4096) .nil) = 40 :: (lineT (chainT left 4096) ++ [32, 48, 58, 48, 32, 46, 41]) := by
  have i0 : itoa 0 = [48] := by unfold itoa; rw [if_neg (by decide)]; show decDigits 0 = _; rw [decDigits]; rfl
  have g0 : tagL 0 = [] := rfl
  simp [lineT, midL, i0, g0]
theorem deep_over (left : Bool) : readT (40 :: (lineT (chainT left 4096) ++ [32, 48, 58, 48, 32, 46, 41])) = none := by
  rw [← deep_line]
  cases e : readT (lineT (.node 0 0 0 (chainT left 4096) .nil)) with
  | none => rfl
  | some u =>
    obtain ⟨h1, h2, h3, h4⟩ := readT_some e
    have a := treeR_of (t := .node 0 0 0 (chainT left 4096) .nil) (left := 5000) (m := 0) [] (by simp only [T.height, chainT_height]; omega) (by simp only [T.size, chainT_size]; omega) ⟨by unfold I64; omega, by unfold I64; omega, by omega, chainT_rng left 4096, trivial⟩
    have b := treeR_of (t := u) (left := 5000) (m := 0) [] (by omega) (by omega) h4
    rw [← h1, a] at b
    injection b with b
    injection b with b
    rw [← b] at h2
    simp only [T.height, chainT_height] at h2
    omega
theorem MadeR.out {o : Option T} {e : Ending} {w : World} (h : MadeR o e w) : ∃ p, e = .returned (.tuple #[.pointer p, .int .i64 (numO o)]) ∧ Tr w (.pointer p) (o.getD .nil) := by
  obtain ⟨p, n, rfl, rfl, ht⟩ := h
  exact ⟨p, rfl, ht⟩
set_option maxRecDepth 100000 in
set_option maxHeartbeats 8000000 in
theorem shapeDeep_walk (left : Bool) {w : World} (hl : Laid w) :
    Calls Tryd.prog 7 #[.bool left] w fun e w' => e = .returned (.bool true) ∧ Ext w w' := by
  have L0 := Lib.hid hl
  clear hl
  have C1 := Lib.hid (fun (W : World) => chain_any (w := W) 4096 (iN := 4096) left rfl (by omega))
  have C2 := Lib.hid (fun (W : World) => chain_any (w := W) 4097 (iN := 4097) left rfl (by omega))
  have hlen : (lineT (chainT left 4096)).length ≤ 80 * 4096 + 1 := by have := lineT_len (chainT_rng left 4096); rwa [chainT_size] at this
  obtain ⟨S, hS⟩ : ∃ S : ByteArray, S = ⟨(lineT (chainT left 4096)).toArray⟩ := ⟨_, rfl⟩
  have LN := Lib.hid (fun (W : World) (v : Value) (X : Ext w W) (h : Tr W v (chainT left 4096)) => line_any (L0.out.ext X) h (chainT_rng left 4096) (by rw [chainT_size]; omega))
  have R1 := Lib.hid (fun (W : World) (X : Ext w W) => read_any (w := W) (l := lineT (chainT left 4096)) (L0.out.ext X) (by omega))
  have R2 := Lib.hid (fun (W : World) (X : Ext w W) => read_any (w := W) (l := 40 :: (lineT (chainT left 4096) ++ [32, 48, 58, 48, 32, 46, 41])) (L0.out.ext X) (by simp only [List.length_cons, List.length_append, List.length_nil]; omega))
  rw [deep_read] at R1
  rw [deep_over] at R2
  have hcat : (⟨(40 :: (lineT (chainT left 4096) ++ [32, 48, 58, 48, 32, 46, 41])).toArray⟩ : ByteArray) = ⟨#[40]⟩ ++ S ++ ⟨#[32, 48, 58, 48, 32, 46, 41]⟩ := by
    rw [hS]
    exact (bytes_is (by simp)).symm
  rw [hcat] at R2
  rw [← hS] at R1
  simp only [← hS] at LN
  have hz : S.size ≤ 400000 := by rw [hS]; show (lineT (chainT left 4096)).toArray.size ≤ _; simp; omega
  have M1 := Lib.hid (fun (W : World) (v : Value) (h : Sl Bead.enc W v (chainL 4096 left 4096)) => makeS_any h (by rw [chainL_length]; omega))
  have M2 := Lib.hid (fun (W : World) (v : Value) (h : Sl Bead.enc W v (chainL 4097 left 4097)) => makeS_any h (by rw [chainL_length]; omega))
  rw [deep_yes] at M1
  rw [deep_no] at M2
  have hsz : wrap64 ((chainT left 4096).size : Int) = 4096 := by rw [chainT_size]; unfold wrap64; omega
  have HZ := Lib.hid hsz
  generalize chainT left 4096 = t at *
  generalize chainL 4096 left 4096 = l1 at *
  generalize chainL 4097 left 4097 = l2 at *
  have n1 : ¬ 9223372036854775807 < 1 + S.size := by omega
  have n2 : ¬ 9223372036854775807 < 1 + S.size + 7 := by omega
  clear hS hcat hlen hsz hz
  go_enter Tryd.func7, Tryd.ntmps7
  go_wp2_with fail
  refine (C1.out _).mono ?_; rintro e w1 ⟨v1, rfl, o1, x1⟩
  go_wp2_with fail
  refine (M1.out _ _ o1.beads).mono ?_; rintro e w2 ⟨x2, mr⟩
  obtain ⟨pa, rfl, ta⟩ := mr.some_
  have y2 := x1.trans x2
  clear x1 x2 o1 mr
  go_wp2_with fail
  refine (C2.out _).mono ?_; rintro e w3 ⟨v3, rfl, o3, x3⟩
  go_wp2_with fail
  refine (M2.out _ _ o3.beads).mono ?_; rintro e w4 ⟨x4, mr⟩
  have e4 := mr.none_
  subst e4
  have y4 := (y2.trans x3).trans x4
  have ta := (ta.ext x3).ext x4
  clear x3 x4 o3 mr y2
  go_wp2_with fail
  refine (LN.out _ _ y4 ta).mono ?_; rintro e w5 ⟨rfl, x5⟩
  have y5 := y4.trans x5
  have ta := ta.ext x5
  clear x5 y4
  go_wp2_with fail
  refine (R1.out _ y5).mono ?_; rintro e w6 ⟨x6, mr⟩
  obtain ⟨pt, rfl, tt⟩ := mr.some_
  have y6 := y5.trans x6
  have ta := ta.ext x6
  clear x6 y5 mr
  go_wp2_with fail
  refine (R2.out _ y6).mono ?_; rintro e w7 ⟨x7, mr⟩
  have e7 := mr.none_
  subst e7
  have y7 := y6.trans x7
  have ta := ta.ext x7
  have tt := tt.ext x7
  clear x7 y6 mr
  go_wp2_with fail
  refine (sizeS ta HZ.out).mono ?_; rintro e w8 ⟨rfl, x8⟩
  have y8 := y7.trans x8
  have tt := tt.ext x8
  clear x8 y7 ta
  go_wp2_with fail
  refine (sizeS tt HZ.out).mono ?_; rintro e w9 ⟨rfl, x9⟩
  have y9 := y8.trans x9
  clear x9 y8 tt
  go_wp2_with fail
  refine (alive11_any (L0.out.ext y9)).mono ?_; rintro e w10 ⟨rfl, x10⟩
  go_wp2_with fail
  go_ret
  exact ⟨rfl, y9.trans x10⟩
end Go.Proofs.YtgpegcjgmoiglaaDoor
