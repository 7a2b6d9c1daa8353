/- Contracts of joineryref09: May, Parts, Sum, Of, Node; of joinerylaw09: Long. -/
import Derived.Test.YtgpegcjgmoiglaaDoorBead
import Derived.BigRegion
namespace Go.Proofs.YtgpegcjgmoiglaaDoor
open Go.RowKit

theorem bool_or (a b : Bool) : (if a = true then true else b) = (a || b) := by cases a <;> simp

set_option maxHeartbeats 1000000 in
theorem may_any {l : List Bead} {v : Value} {w : World} (h : Sl Bead.enc w v l) (hm : l.length ≤ 1000000) :
    Calls Tryd.prog 24 #[v] w fun e w' => e = .returned (.bool (mayL l)) ∧ w = w' := by
  obtain ⟨A, c, rfl, hc, hr⟩ := h
  by_cases h0 : l = []
  · subst h0
    go_enter Tryd.func24, Tryd.ntmps24
    go_wp2_with fail
    go_ret
    exact ⟨rfl, rfl⟩
  · have hl : l.length ≠ 0 := fun e => h0 (List.eq_nil_of_length_eq_zero e)
    have hz : ((l.length : Int) == 0) = false := by simp; exact h0
    have h1 := ends_any hr hc hm 5001 0 0 0 0 rfl rfl rfl (by omega)
    have hv : mayL l = (endI (endsS 5001 l) == (l.length : Int)) := by
      unfold mayL
      have : (l == []) = false := by simpa using h0
      rw [this, Bool.false_or]
      cases endsS 5001 l with
      | none => simp [endI]
      | some n => rw [Bool.eq_iff_iff]; simp [endI]; omega
    have HV := Lib.hid hv
    have H1 := Lib.hid h1
    clear h1 hv h0 hl
    go_enter Tryd.func24, Tryd.ntmps24
    go_wp2_with fail
    refine (H1.out).mono ?_; rintro e w' ⟨rfl, rfl⟩
    rw [List.drop_zero]
    go_wp2_with fail
    go_ret
    exact ⟨congrArg (fun t => Ending.returned (.bool t)) HV.out.symm, rfl⟩

set_option maxHeartbeats 1000000 in
theorem long_any {l : List Bead} {v : Value} {w : World} (h : Sl Bead.enc w v l) (hm : l.length ≤ 9223372036854775807) :
    Calls Tryd.prog 8 #[v] w fun e w' => e = .returned (.bool (decide (400 < l.length) || !mayL l)) ∧ w = w' := by
  have h' := h
  obtain ⟨A, c, rfl, hc, hr⟩ := h
  by_cases h0 : 400 < l.length
  · go_enter Tryd.func8, Tryd.ntmps8
    go_wp2_with fail
    go_ret
    exact ⟨by simp, rfl⟩
  · have hlong := h0
    have hz : decide ((400 : Int) < (l.length : Int)) = false := by simp; omega
    go_enter Tryd.func8, Tryd.ntmps8
    go_wp2_with fail
    refine (may_any h' (by omega)).mono ?_; rintro e w' ⟨rfl, rfl⟩
    go_wp2_with fail
    go_ret
    exact ⟨by simp [hlong], rfl⟩

theorem info_bead : (Tryd.prog.info? 44).map (fun i => (i.zero, i.size, i.bytes)) = some (some (.agg #[.int .i64 0, .int .i64 0, .int .i64 0, .int .i64 0, .int .u64 0, .bool false, .bool false]), 7, 48) := by kernel_rfl

set_option maxHeartbeats 1000000 in
theorem parts_any {l la lb : List Bead} {y : Bead} {v : Value} {w : World} (h : Sl Bead.enc w v l) (hl : l = y :: (la ++ lb)) (hm : l.length ≤ 1000000)
    (hy : y.left = true → endsS 5001 (la ++ lb) = some la.length) (hn : y.left = false → la = []) :
    Calls Tryd.prog 26 #[v] w fun e w' => ∃ va vb, e = .returned (.tuple #[.agg #[.int .i64 y.key, .int .i64 y.val, .int .i64 y.sum, .int .i64 y.size, .int .u64 y.tag, .bool y.left, .bool y.right], va, vb]) ∧ Sl Bead.enc w va la ∧ Sl Bead.enc w vb lb ∧ Ext w w' := by
  obtain ⟨A, c, rfl, hc, hr⟩ := h
  have hlen : l.length = 1 + la.length + lb.length := by rw [hl]; simp; omega
  have h1 := fun (W : World) (x : Ext w W) => ends_any (hr.ext x) hc hm 5001 1 0 1 0 rfl rfl rfl (by omega)
  have hr1 := hr.cut Bead.enc_len 1 hc
  have hr2 := hr.cut Bead.enc_len (1 + la.length) hc
  have e1 : (l.drop 1).take la.length = la := by rw [hl]; simp
  have e2 : l.drop (1 + la.length) = lb := by rw [hl, Nat.add_comm]; simp
  have e3 : l.drop 1 = la ++ lb := by rw [hl]; simp
  have hr1 := hr1.take la.length
  rw [e1] at hr1
  rw [e2] at hr2
  rw [e3] at h1
  obtain ⟨i0, hi0, hz0, hz1, hz2⟩ := info_parts info_bead
  have hne : l ≠ [] := by rw [hl]; simp
  obtain ⟨b, off, rfl, hblt, hcells⟩ := hr hne
  have h0 : l[0]? = some y := by rw [hl]; rfl
  obtain ⟨c0, c1, c2, c3, c4, c5, c6⟩ := bead_cells hcells h0
  simp only [Nat.zero_mul, Nat.add_zero] at c0 c1 c2 c3 c4 c5 c6
  have hpos : (0 : Int) < (l.length : Int) := by omega
  have HLEN := Lib.hid hlen
  have hge : 1 + la.length ≤ l.length := by omega
  clear e1 e2 e3 hl hne hcells h0 hr hlen
  by_cases hL : y.left = true
  · have hs1 := run_cut_lh (P := Tryd.prog) Tryd.underlying22 hi0 hz1 (some ⟨b, off, none⟩) (n := l.length) (c := c) 1 (1 + la.length) 1 (1 + la.length) rfl (by omega) (by omega) (by omega)
    have hs2 := run_cut_l (P := Tryd.prog) Tryd.underlying22 hi0 hz1 (some ⟨b, off, none⟩) (n := l.length) (c := c) (1 + la.length) (1 + la.length) (by omega) (by omega)
    generalize cutA 7 (some ⟨b, off, none⟩) c 1 = A1 at hs1 hr1
    generalize cutA 7 (some ⟨b, off, none⟩) c (1 + la.length) = A2 at hs2 hr2
    rw [Nat.add_sub_cancel_left] at hs1
    have e5 : l.length - (1 + la.length) = lb.length := by have := HLEN.out; omega
    rw [e5] at hs2
    clear e5
    rw [hy hL] at h1
    simp only [endI] at h1
    have H1 := Lib.hid h1
    clear h1
    go_enter Tryd.func26, Tryd.ntmps26
    go_wp2_with fail
    refine (H1.out _ ((Ext.refl w).alloc _)).mono ?_; rintro e w' ⟨rfl, rfl⟩
    go_wp2_with fail
    go_region
    go_wp2_with fail
    exact bodyPost_ret (v := .tuple #[.agg #[.int .i64 y.key, .int .i64 y.val, .int .i64 y.sum, .int .i64 y.size, .int .u64 y.tag, .bool y.left, .bool y.right], .slice A1 la.length (c - 1), .slice A2 lb.length (c - (1 + la.length))]) (by simp [results, Tryd.results26, go_sem, hL]) rfl
      ⟨_, _, rfl, ⟨A1, _, rfl, by omega, hr1⟩, ⟨A2, _, rfl, by have := HLEN.out; omega, hr2⟩, ((Ext.refl w).alloc _).drew⟩
  · have hL' : y.left = false := by simpa using hL
    obtain rfl := hn hL'
    rw [List.length_nil, Nat.add_zero] at hr2
    have hs1 := run_cut_lh (P := Tryd.prog) Tryd.underlying22 hi0 hz1 (some ⟨b, off, none⟩) (n := l.length) (c := c) 1 1 1 1 rfl rfl (by omega) (by omega)
    have hs2 := run_cut_l (P := Tryd.prog) Tryd.underlying22 hi0 hz1 (some ⟨b, off, none⟩) (n := l.length) (c := c) 1 1 rfl (by omega)
    generalize cutA 7 (some ⟨b, off, none⟩) c 1 = A1 at hs1 hs2 hr1 hr2
    have e5 : l.length - 1 = lb.length := by have := HLEN.out; simp at this; omega
    rw [e5] at hs2
    clear e5 h1 hL hy hn
    go_enter Tryd.func26, Tryd.ntmps26
    go_wp2_with fail
    go_region
    go_wp2_with fail
    exact bodyPost_ret (v := .tuple #[.agg #[.int .i64 y.key, .int .i64 y.val, .int .i64 y.sum, .int .i64 y.size, .int .u64 y.tag, .bool y.left, .bool y.right], .slice A1 0 (c - 1), .slice A1 lb.length (c - 1)]) (by simp [results, Tryd.results26, go_sem, hL']) rfl
      ⟨_, _, rfl, ⟨A1, _, rfl, by simp, hr1⟩, ⟨A1, _, rfl, by have := HLEN.out; simp at this; omega, hr2⟩, ((Ext.refl w).alloc _).drew⟩
end Go.Proofs.YtgpegcjgmoiglaaDoor
