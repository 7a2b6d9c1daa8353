/- Contracts of joineryref09.Height, joineryref11: deep, May, Make. -/
import Derived.Test.YtgpegcjgmoiglaaDoorTakeLaw
import Derived.Test.YtgpegcjgmoiglaaDoorOf
import Derived.Deep.RegionHeld3
namespace Go.Proofs.YtgpegcjgmoiglaaDoor
open Go.RowKit
set_option linter.unusedVariables false

/-- Beads are those of one tree. -/
theorem ser_one : ∀ {t u : T} {l : List Bead}, Ser l t → Ser l u → t = u := by
  have key : ∀ (t u : T) (la lb ra rb : List Bead), t.some = u.some → Ser la t → Ser lb u → la ++ ra = lb ++ rb → t = u ∧ la = lb := by
    intro t
    induction t with
    | nil =>
      intro u la lb ra rb hs ha hb h
      cases u with
      | nil => exact ⟨rfl, (show la = [] from ha).trans (show lb = [] from hb).symm⟩
      | node => cases hs
    | node k x g a b iha ihb =>
      intro u la lb ra rb hs ha hb h
      cases u with
      | nil => cases hs
      | node k' x' g' a' b' =>
        obtain ⟨y, l1, l2, rfl, h1, h2, h3, h4, h5, s1, s2⟩ := ha
        obtain ⟨y', l1', l2', rfl, h1', h2', h3', h4', h5', s1', s2'⟩ := hb
        simp only [List.cons_append, List.append_assoc, List.cons.injEq] at h
        obtain ⟨rfl, h⟩ := h
        obtain ⟨rfl, rfl⟩ := iha a' l1 l1' (l2 ++ ra) (l2' ++ rb) (h4.symm.trans h4') s1 s1' h
        have h := List.append_cancel_left h
        obtain ⟨rfl, rfl⟩ := ihb b' l2 l2' ra rb (h5.symm.trans h5') s2 s2' h
        exact ⟨by rw [← h1, ← h2, ← h3, h1', h2', h3'], rfl⟩
  intro t u l ht hu
  have hs : t.some = u.some := by
    have h1 := ht.nil_iff
    have h2 := hu.nil_iff
    cases t <;> cases u <;> simp_all [T.some]
  exact (key t u l l [] [] hs ht hu rfl).1
theorem mayL_tree {l : List Bead} (h : mayL l = true) : ∃ t, Ser l t ∧ t.height ≤ 5001 := by
  unfold mayL at h
  simp only [Bool.or_eq_true, beq_iff_eq] at h
  rcases h with rfl | h
  · exact ⟨.nil, rfl, Nat.zero_le _⟩
  · obtain ⟨t, _, hh, ht⟩ := endsS_ser h
    exact ⟨t, by rwa [List.take_length] at ht, hh⟩
set_option maxRecDepth 100000 in
set_option maxHeartbeats 4000000 in
theorem height_any (t : T) : ∀ {l : List Bead} {v : Value} {w : World}, Sl Bead.enc w v l → Ser l t → t.height ≤ 5001 → l.length ≤ 1000000 →
    Calls Tryd.prog 74 #[v] w fun e w' => e = .returned (.int .i64 t.height) ∧ Ext w w' := by
  induction t with
  | nil =>
    intro l v w h hs _ _
    obtain rfl : l = [] := hs
    obtain ⟨A, c, rfl, hc, hr⟩ := h
    go_enter Tryd.func74, Tryd.ntmps74
    go_wp2_with fail
    go_ret
    exact ⟨rfl, Ext.refl w⟩
  | node k x g a b iha ihb =>
    intro l v w h hs hh hm
    obtain ⟨y, la, lb, hl, rfl, rfl, rfl, e4, e5, sa, sb, p1, p2⟩ := ser_parts hs hh
    have hlen : 0 < l.length := by rw [hl]; simp
    have hla : la.length ≤ 1000000 := by rw [hl] at hm; simp at hm; omega
    have hlb : lb.length ≤ 1000000 := by rw [hl] at hm; simp at hm; omega
    simp only [T.height] at hh
    have hp := fun (W : World) (X : Ext w W) => parts_any (h.ext X) hl hm p1 p2
    have hz : ((l.length : Int) == 0) = false := by simp; intro h; rw [h] at hlen; simp at hlen
    obtain ⟨A, c, rfl, hc, hr⟩ := h
    have HP := Lib.hid hp
    have HH := Lib.hid hh
    have IA := Lib.hid (fun (v : Value) (W : World) (ha : Sl Bead.enc W v la) => iha ha sa (by omega) hla)
    have IB := Lib.hid (fun (v : Value) (W : World) (hb : Sl Bead.enc W v lb) => ihb hb sb (by omega) hlb)
    clear hp hl p1 p2 e4 e5 hs hh iha ihb
    go_enter Tryd.func74, Tryd.ntmps74
    go_wp2_with fail
    refine (HP.out _ (Ext.refl w)).mono ?_; rintro e w1 ⟨va, vb, rfl, ha, hb, x1⟩
    go_wp2_with fail
    refine (IA.out _ _ (ha.ext (x1.alloc _))).mono ?_; rintro e w2 ⟨rfl, x2⟩
    go_wp2_with fail
    refine (IB.out _ _ (hb.ext ((x1.alloc _).trans x2))).mono ?_; rintro e w3 ⟨rfl, x3⟩
    go_wp2_with fail
    all_goals
      go_ret
      refine ⟨congrArg (fun z => Ending.returned (.int .i64 z)) ?_, ((x1.alloc _).trans x2).trans x3⟩
      have := HH.out
      simp only [T.height]
      unfold wrap64
      omega
/-- May beads be those of a tree, not too deep? -/
def mayD (l : List Bead) : Bool := (makeT l).isSome
theorem mayD_of {l : List Bead} {t : T} (h : Ser l t) : mayD l = decide (t.height ≤ 4096) := by
  unfold mayD
  cases e : makeT l with
  | none =>
    by_cases hh : t.height ≤ 4096
    · rw [makeT_of h hh] at e; cases e
    · simp [hh]
  | some u =>
    obtain ⟨h1, h2⟩ := makeT_some e
    obtain rfl := ser_one h h1
    simp [h2]
theorem mayD_no {l : List Bead} (h : mayL l = false) : mayD l = false := by
  unfold mayD
  cases e : makeT l with
  | none => rfl
  | some u =>
    obtain ⟨h1, h2⟩ := makeT_some e
    rw [mayL_of h1 (by omega)] at h
    cases h
set_option maxRecDepth 100000 in
set_option maxHeartbeats 4000000 in
theorem mayR_any {l : List Bead} {v : Value} {w : World} (h : Sl Bead.enc w v l) (hm : l.length ≤ 1000000) :
    Calls Tryd.prog 49 #[v] w fun e w' => e = .returned (.bool (mayD l)) ∧ Ext w w' := by
  have hM := may_any h hm
  cases hL : mayL l with
  | false =>
    rw [hL] at hM
    have HD := Lib.hid (mayD_no hL)
    clear hL
    go_enter Tryd.func49, Tryd.ntmps49
    go_wp2_with fail
    refine hM.mono ?_; rintro e w1 ⟨rfl, rfl⟩
    go_wp2_with fail
    go_ret
    exact ⟨by rw [HD.out]; rfl, Ext.refl _⟩
  | true =>
    rw [hL] at hM
    obtain ⟨t, ht, hht⟩ := mayL_tree hL
    have HH := Lib.hid (height_any t h ht hht hm)
    have HD := Lib.hid (mayD_of ht)
    clear hL
    go_enter Tryd.func49, Tryd.ntmps49
    go_wp2_with fail
    refine hM.mono ?_; rintro e w1 ⟨rfl, rfl⟩
    go_wp2_with (go_at_call 64; go_in)
    refine HH.out.mono ?_; rintro e w2 ⟨rfl, x2⟩
    go_wp2_with fail
    go_ret
    exact ⟨by rw [HD.out, show decide ((t.height : Int) ≤ 4096) = decide (t.height ≤ 4096) from by rw [Bool.eq_iff_iff]; simp; omega]; rfl, x2⟩
/-- What the document's Make answers. -/
def numO (o : Option T) : Int := if o.isSome then 0 else 7
set_option maxRecDepth 100000 in
set_option maxHeartbeats 4000000 in
theorem refMake_any {l : List Bead} {v : Value} {w : World} (h : Sl Bead.enc w v l) (hm : l.length ≤ 65536) :
    Calls Tryd.prog 21 #[v] w fun e w' => ∃ vl, e = .returned (.tuple #[vl, .int .i64 (numO (makeT l))]) ∧ Own Bead.enc 44 7 w.heap.size w' vl (bOf ((makeT l).getD .nil)) ∧ Ext w w' := by
  have HM := Lib.hid (mayR_any h (by omega))
  have HS := Lib.hid h
  obtain ⟨A, c, rfl, hc, hr⟩ := h
  have hlt : (l.length : Int) ≤ 65536 := by omega
  cases e : makeT l with
  | none =>
    have E := Lib.hid (show mayD l = false by unfold mayD; rw [e]; rfl)
    rw [E.out] at HM
    clear e hc hr
    go_enter Tryd.func21, Tryd.ntmps21
    go_wp2_with fail
    refine HM.out.mono ?_; rintro e w1 ⟨rfl, x1⟩
    go_wp2_with fail
    go_ret2
    exact ⟨_, rfl, Own.nil_ _ _ _, x1⟩
  | some t =>
    have E := Lib.hid (show mayD l = true by unfold mayD; rw [e]; rfl)
    rw [E.out] at HM
    obtain ⟨ht, hht⟩ := makeT_some e
    clear e hc hr
    go_enter Tryd.func21, Tryd.ntmps21
    go_wp2_with fail
    refine HM.out.mono ?_; rintro e w1 ⟨rfl, x1⟩
    go_wp2_with fail
    refine (of_beads t (HS.out.ext x1) ht (by omega) (by omega)).mono ?_; rintro e w2 ⟨vl, rfl, x2, o2⟩
    go_wp2_with fail
    go_ret2
    exact ⟨vl, rfl, Own.mono o2 x1.size, x1.trans x2⟩
end Go.Proofs.YtgpegcjgmoiglaaDoor
