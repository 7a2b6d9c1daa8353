/- Package sound: Ahead; joinerylaw12's alive. -/
import Derived.Test.YtlehcagpddgamaaSoundC
namespace Go.Proofs.Ytlehcagpddgamaa
open Go.RowKit
set_option linter.unusedVariables false

theorem check_is {o : Nat} (h1 : 1 ≤ o) (h2 : o ≤ 7) {t : T} {v : Value} {w : World} {i m e' : Int} (hi : (o : Int) = i) (ht : Tr w v t) (hk : KeysR t) (hs : t.size ≤ 1000000) (hm : (chkA o t : Int) = m) (he : chkE o t = e') :
    Calls Try.prog 106 #[.int .u8 i, v] w fun e w' => e = .returned (.tuple #[.int .i64 m, .int .i64 e']) ∧ Ext w w' := by
  subst hi hm he; exact check_any h1 h2 ht hk hs
theorem last_key : ∀ t : T, t.lastT.key = t.last
  | .nil => rfl
  | .node k _ _ l .nil => rfl
  | .node k x g l (.node k' x' g' a b) => last_key (.node k' x' g' a b)
theorem first_key : ∀ t : T, t.firstT.key = t.first
  | .nil => rfl
  | .node k _ _ .nil r => rfl
  | .node k x g (.node k' x' g' a b) r => first_key (.node k' x' g' a b)
theorem last_in : ∀ {t : T}, KeysR t → InR t.last
  | .nil, _ => by simp [InR, T.last]
  | .node k _ _ l .nil, h => h.1
  | .node k x g l (.node k' x' g' a b), h => last_in (t := .node k' x' g' a b) h.2.2
theorem first_in : ∀ {t : T}, KeysR t → InR t.first
  | .nil, _ => by simp [InR, T.first]
  | .node k _ _ .nil r, h => h.1
  | .node k x g (.node k' x' g' a b) r, h => first_in (t := .node k' x' g' a b) h.2.1
set_option maxRecDepth 100000 in
set_option maxHeartbeats 4000000 in
theorem ahead_any {o : Nat} (h1 : 1 ≤ o) (h2 : o ≤ 7) {a b : T} {va vb : Value} {w : World} (ha : Tr w va a) (hb : Tr w vb b) (ka : KeysR a) (kb : KeysR b) (sa : a.size ≤ 1000000) (sb : b.size ≤ 1000000) :
    Calls Try.prog 109 #[.int .u8 (o : Int), va, vb] w fun e w' => e = .returned (.bool (aheadT o a b)) ∧ Ext w w' := by
  obtain ⟨pa, rfl⟩ := ha.ptr
  obtain ⟨pb, rfl⟩ := hb.ptr
  obtain ⟨ma, hma⟩ : ∃ ma : Int, (chkA o a : Int) = ma := ⟨_, rfl⟩
  obtain ⟨mb, hmb⟩ : ∃ mb : Int, (chkA o b : Int) = mb := ⟨_, rfl⟩
  by_cases ra : Rise o a.keys
  · have ea : chkE o a = 0 := by unfold chkE; rw [if_pos ra]
    have CA := Lib.hid (check_is (w := w) h1 h2 rfl ha ka sa hma ea)
    by_cases rb : Rise o b.keys
    · have eb : chkE o b = 0 := by unfold chkE; rw [if_pos rb]
      have CB := Lib.hid (fun (W : World) (X : Ext w W) => check_is h1 h2 rfl (hb.ext X) kb sb hmb eb)
      cases sA : a.some with
      | false =>
        rw [ahead_nil ra rb (.inl sA)]
        obtain rfl := (ptr_some ha).2 sA
        clear ra rb sA ha hb ka kb hma hmb ea eb
        go_enter Try.func109, Try.ntmps109
        go_wp2_with fail
        refine CA.out.mono ?_; rintro e w1 ⟨rfl, x1⟩
        go_wp2_with fail
        refine (CB.out _ x1).mono ?_; rintro e w2 ⟨rfl, x2⟩
        go_wp2_with fail
        go_ret
        exact ⟨rfl, x1.trans x2⟩
      | true =>
        cases sB : b.some with
        | false =>
          rw [ahead_nil ra rb (.inr sB)]
          obtain rfl := (ptr_some hb).2 sB
          obtain ⟨qa, rfl⟩ := (ptr_some ha).1 sA
          clear ra rb sA sB ha hb ka kb hma hmb ea eb
          go_enter Try.func109, Try.ntmps109
          go_wp2_with fail
          refine CA.out.mono ?_; rintro e w1 ⟨rfl, x1⟩
          go_wp2_with fail
          refine (CB.out _ x1).mono ?_; rintro e w2 ⟨rfl, x2⟩
          go_wp2_with fail
          go_ret
          exact ⟨rfl, x1.trans x2⟩
        | true =>
          rw [ahead_cmp ra rb sA sB]
          obtain ⟨qb, rfl⟩ := (ptr_some hb).1 sB
          obtain ⟨qa, rfl⟩ := (ptr_some ha).1 sA
          have CP := Lib.hid (fun (W : World) => compareK h1 h2 (last_in ka) (first_in kb) W)
          have EA := Lib.hid (fun (W : World) (X : Ext w W) => endR_any (ha.ext X))
          have EB := Lib.hid (fun (W : World) (X : Ext w W) => endL_any (hb.ext X))
          have LK := Lib.hid (And.intro (last_key a) (first_key b))
          generalize cmpK o a.last b.first = cc at *
          have y := Ext.refl w
          clear ra rb sA sB ha hb ka kb hma hmb ea eb
          go_enter Try.func109, Try.ntmps109
          go_wp2_with fail
          refine CA.out.mono ?_; rintro e w1 ⟨rfl, x1⟩
          have y := y.trans x1
          go_wp2_with fail
          refine (CB.out _ x1).mono ?_; rintro e w2 ⟨rfl, x2⟩
          have y := y.trans x2
          clear x1 x2
          go_wp2_with fail
          refine (EA.out _ y).mono ?_; rintro e w' ⟨p1, rfl, t1, rfl⟩
          have K1 := key_any t1
          rw [LK.out.1] at K1
          go_wp2_with fail
          refine K1.mono ?_; rintro e w3 ⟨rfl, x3⟩
          have y := y.trans x3
          go_wp2_with fail
          refine (EB.out _ y).mono ?_; rintro e w' ⟨p2, rfl, t2, rfl⟩
          have K2 := key_any t2
          rw [LK.out.2] at K2
          go_wp2_with fail
          refine K2.mono ?_; rintro e w4 ⟨rfl, x4⟩
          have y := y.trans x4
          clear K1 K2 t1 t2 x3 x4
          go_wp2_with fail
          refine (CP.out _).mono ?_; rintro e w5 ⟨rfl, x5⟩
          go_wp2_with fail
          go_ret
          exact ⟨rfl, y.trans x5⟩
    · have eb : chkE o b = 120 := by unfold chkE; rw [if_neg rb]
      have CB := Lib.hid (fun (W : World) (X : Ext w W) => check_is h1 h2 rfl (hb.ext X) kb sb hmb eb)
      rw [ahead_no (fun h => rb h.2)]
      clear ra rb ha hb ka kb hma hmb ea eb
      go_enter Try.func109, Try.ntmps109
      go_wp2_with fail
      refine CA.out.mono ?_; rintro e w1 ⟨rfl, x1⟩
      go_wp2_with fail
      refine (CB.out _ x1).mono ?_; rintro e w2 ⟨rfl, x2⟩
      go_wp2_with fail
      go_ret
      exact ⟨rfl, x1.trans x2⟩
  · have ea : chkE o a = 120 := by unfold chkE; rw [if_neg ra]
    have CA := Lib.hid (check_is (w := w) h1 h2 rfl ha ka sa hma ea)
    have CB := Lib.hid (fun (W : World) (X : Ext w W) => check_is h1 h2 rfl (hb.ext X) kb sb hmb rfl)
    rw [ahead_no (fun h => ra h.1)]
    generalize chkE o b = eb at *
    clear ra ha hb ka kb hma hmb ea
    go_enter Try.func109, Try.ntmps109
    go_wp2_with fail
    refine CA.out.mono ?_; rintro e w1 ⟨rfl, x1⟩
    go_wp2_with fail
    refine (CB.out _ x1).mono ?_; rintro e w2 ⟨rfl, x2⟩
    go_wp2_with fail
    go_ret
    exact ⟨rfl, x1.trans x2⟩
set_option maxRecDepth 100000 in
set_option maxHeartbeats 4000000 in
theorem alive12 (w : World) : Calls Try.prog 105 #[] w fun e w' => e = .returned (.bool true) ∧ Ext w w' := by
  go_enter Try.func105, Try.ntmps105
  go_wp2_with fail
  refine (new_any 3 0 0 (nil_tr12 w) (nil_tr12 w)).mono ?_; rintro e w1 ⟨u1, rfl, x1, a, rfl, ha, hat⟩
  have ta := at_tr hat (nil_tr12 w1) (nil_tr12 w1)
  go_wp2_with fail
  refine (new_any 2 0 0 ta (nil_tr12 w1)).mono ?_; rintro e w2 ⟨u2, rfl, x2, b, rfl, hb, hbt⟩
  have tb := at_tr hbt (ta.ext x2) (nil_tr12 w2)
  have kk : KeysR (.node 2 0 0 (.node 3 0 0 .nil .nil) .nil) := by simp [KeysR, InR]
  have C1 := Lib.hid (fun (W : World) (X : Ext w2 W) => check_is (o := 1) (m := 1) (e' := 120) (by decide) (by decide) rfl (tb.ext X) kk (by decide) (by decide) (by decide))
  have C2 := Lib.hid (fun (W : World) (X : Ext w2 W) => check_is (o := 2) (m := 2) (e' := 0) (by decide) (by decide) rfl (tb.ext X) kk (by decide) (by decide) (by decide))
  have C3 := Lib.hid (fun (W : World) (X : Ext w2 W) => check_bad (o := 0) (v := .pointer (some ⟨b, 0, none⟩)) (w := W) (by decide))
  have EX := Lib.hid (fun (W : World) (X : Ext w2 W) => exact_any _ (tb.ext X))
  have Z := Lib.hid (x1.trans x2)
  have y := Ext.refl w2
  clear x1 x2 ta tb kk hat hbt ha hb
  go_wp2_with fail
  refine (C1.out _ y).mono ?_; rintro e w3 ⟨rfl, x3⟩
  have y := y.trans x3
  go_wp2_with fail
  refine (C2.out _ y).mono ?_; rintro e w4 ⟨rfl, x4⟩
  have y := y.trans x4
  go_wp2_with fail
  refine (C3.out _ y).mono ?_; rintro e w5 ⟨rfl, x5⟩
  have y := y.trans x5
  clear x3 x4 x5
  go_wp2_with fail
  refine (EX.out _ y).mono ?_; rintro e w6 ⟨rfl, x6⟩
  go_wp2_with fail
  go_ret
  exact ⟨rfl, Z.out.trans (y.trans x6)⟩
end Go.Proofs.Ytlehcagpddgamaa
