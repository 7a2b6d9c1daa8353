/- The statement SoundTells. -/
import Derived.Test.YtlehcagpddgamaaRef12D
namespace Go.Proofs.Ytlehcagpddgamaa
open Go.RowKit
set_option linter.unusedVariables false

set_option maxRecDepth 100000 in
set_option maxHeartbeats 4000000 in
theorem ahead_bad {o : Int} {va vb : Value} {w : World} (h : ¬ (1 ≤ o ∧ o ≤ 7)) : Calls Try.prog 109 #[.int .u8 o, va, vb] w fun e w' => e = .returned (.bool false) ∧ Ext w w' := by
  have CA := Lib.hid (fun (V : Value) (W : World) => check_bad (v := V) (w := W) h)
  clear h
  go_enter Try.func109, Try.ntmps109
  go_wp2_with fail
  refine (CA.out _ _).mono ?_; rintro e w1 ⟨rfl, x1⟩
  go_wp2_with fail
  refine (CA.out _ _).mono ?_; rintro e w2 ⟨rfl, x2⟩
  go_wp2_with fail
  go_ret
  exact ⟨rfl, x1.trans x2⟩
set_option maxRecDepth 100000 in
set_option maxHeartbeats 8000000 in
theorem soundTells_bad {o : Int} {l m : List Bead} {v u : Value} {w : World} (h : ¬ (1 ≤ o ∧ o ≤ 7)) (hl : Sl Bead.enc w v l) (hm : Sl Bead.enc w u m) (ml : l.length ≤ maxLen) (mm : m.length ≤ maxLen)
    (hL : (decide (400 < l.length) || !mayL l) = false) (hM : (decide (400 < m.length) || !mayL m) = false) (kl : ∀ x ∈ l, InR x.key) (km : ∀ x ∈ m, InR x.key) :
    Calls Try.prog 25 #[.int .u8 o, v, u] w fun e w' => e = .returned (.bool true) ∧ Ext w w' := by
  have lg := long12_is hl ml hL
  have mg := long12_is hm mm hM
  obtain ⟨l400, a, sa, asz, ah⟩ := short12 hL
  obtain ⟨m400, b, sb, bsz, bh⟩ := short12 hM
  have ka := ser_keys sa kl
  have kb := ser_keys sb km
  have MA := Lib.hid (fun (W : World) (X : Ext w W) => make_any a (hl.ext X) sa (by omega) (by omega))
  have MB := Lib.hid (fun (W : World) (X : Ext w W) => make_any b (hm.ext X) sb (by omega) (by omega))
  have CT := Lib.hid (fun (W : World) (V : Value) (X : Tr W V a) => check_bad (v := V) (w := W) h)
  have RC := Lib.hid (fun (W : World) (X : Ext w W) => refCheck_bad (v := v) (w := W) h)
  have AT := Lib.hid (fun (W : World) (V U : Value) (X : Tr W V a) (Y : Tr W U b) => ahead_bad (va := V) (vb := U) (w := W) h)
  have RA := Lib.hid (fun (W : World) (X : Ext w W) => refAhead_bad (va := v) (vb := u) (w := W) h)
  have EX := Lib.hid (fun (W : World) (V : Value) (X : Tr W V a) => exact_any a X)
  obtain ⟨A, c, rfl, hc, hr⟩ := hl
  obtain ⟨A2, c2, rfl, hc2, hr2⟩ := hm
  clear hL hM hr hr2 sa sb ah bh kl km ml mm ka kb asz bsz h
  go_enter Try.func25, Try.ntmps25
  go_wp2_with fail
  refine lg.mono ?_; rintro e w' ⟨rfl, rfl⟩
  go_wp2_with fail
  refine mg.mono ?_; rintro e w' ⟨rfl, rfl⟩
  go_wp2_with fail
  refine (MA.out _ (Ext.refl w)).mono ?_; rintro e w1 ⟨ta, rfl, x1, ha⟩
  go_wp2_with fail
  refine (MB.out _ x1).mono ?_; rintro e w2 ⟨tb, rfl, x2, hb⟩
  have ha := ha.ext x2
  have y := x1.trans x2
  go_wp2_with fail
  refine (CT.out _ _ ha).mono ?_; rintro e w3 ⟨rfl, x3⟩
  have ha := ha.ext x3
  have hb := hb.ext x3
  have y := y.trans x3
  go_wp2_with fail
  refine (RC.out _ y).mono ?_; rintro e w4 ⟨rfl, x4⟩
  have ha := ha.ext x4
  have hb := hb.ext x4
  have y := y.trans x4
  clear x1 x2 x3 x4
  go_wp2_with fail
  refine (EX.out _ _ ha).mono ?_; rintro e w5 ⟨rfl, x5⟩
  have ha := ha.ext x5
  have hb := hb.ext x5
  have y := y.trans x5
  go_wp2_with fail
  refine (AT.out _ _ _ ha hb).mono ?_; rintro e w6 ⟨rfl, x6⟩
  have y := y.trans x6
  go_wp2_with fail
  refine (RA.out _ y).mono ?_; rintro e w7 ⟨rfl, x7⟩
  have y := y.trans x7
  clear x5 x6 x7
  go_wp2_with fail
  refine (alive12 _).mono ?_; rintro e w8 ⟨rfl, x8⟩
  go_wp2_with fail
  go_ret
  exact ⟨rfl, y.trans x8⟩
set_option maxRecDepth 100000 in
set_option maxHeartbeats 8000000 in
theorem soundTells_core {o : Nat} {l m : List Bead} {v u : Value} {w : World} (h1 : 1 ≤ o) (h2 : o ≤ 7) (hl : Sl Bead.enc w v l) (hm : Sl Bead.enc w u m) (ml : l.length ≤ maxLen) (mm : m.length ≤ maxLen)
    (hL : (decide (400 < l.length) || !mayL l) = false) (hM : (decide (400 < m.length) || !mayL m) = false) (kl : ∀ x ∈ l, InR x.key) (km : ∀ x ∈ m, InR x.key) :
    Calls Try.prog 25 #[.int .u8 (o : Int), v, u] w fun e w' => e = .returned (.bool true) ∧ Ext w w' := by
  have lg := long12_is hl ml hL
  have mg := long12_is hm mm hM
  obtain ⟨l400, a, sa, asz, ah⟩ := short12 hL
  obtain ⟨m400, b, sb, bsz, bh⟩ := short12 hM
  have ka := ser_keys sa kl
  have kb := ser_keys sb km
  have MA := Lib.hid (fun (W : World) (X : Ext w W) => make_any a (hl.ext X) sa (by omega) (by omega))
  have MB := Lib.hid (fun (W : World) (X : Ext w W) => make_any b (hm.ext X) sb (by omega) (by omega))
  have CT := Lib.hid (fun (W : World) (V : Value) (X : Tr W V a) => check_any h1 h2 X ka (by omega))
  have RC := Lib.hid (fun (W : World) (X : Ext w W) => refCheck_any h1 h2 (hl.ext X) sa (by omega) (by omega) ka)
  have AT := Lib.hid (fun (W : World) (V U : Value) (X : Tr W V a) (Y : Tr W U b) => ahead_any h1 h2 X Y ka kb (by omega) (by omega))
  have RA := Lib.hid (fun (W : World) (X : Ext w W) => refAhead_any h1 h2 (hl.ext X) (hm.ext X) sa sb (by omega) (by omega) (by omega) (by omega) ka kb)
  generalize ((chkA o a : Nat) : Int) = n at *
  generalize chkE o a = m9 at *
  generalize aheadT o a b = q at *
  have EX := Lib.hid (fun (W : World) (V : Value) (X : Tr W V a) => exact_any a X)
  obtain ⟨A, c, rfl, hc, hr⟩ := hl
  obtain ⟨A2, c2, rfl, hc2, hr2⟩ := hm
  clear hL hM hr hr2 sa sb ah bh kl km ml mm ka kb asz bsz h1 h2
  go_enter Try.func25, Try.ntmps25
  go_wp2_with fail
  refine lg.mono ?_; rintro e w' ⟨rfl, rfl⟩
  go_wp2_with fail
  refine mg.mono ?_; rintro e w' ⟨rfl, rfl⟩
  go_wp2_with fail
  refine (MA.out _ (Ext.refl w)).mono ?_; rintro e w1 ⟨ta, rfl, x1, ha⟩
  go_wp2_with fail
  refine (MB.out _ x1).mono ?_; rintro e w2 ⟨tb, rfl, x2, hb⟩
  have ha := ha.ext x2
  have y := x1.trans x2
  go_wp2_with fail
  refine (CT.out _ _ ha).mono ?_; rintro e w3 ⟨rfl, x3⟩
  have ha := ha.ext x3
  have hb := hb.ext x3
  have y := y.trans x3
  go_wp2_with fail
  refine (RC.out _ y).mono ?_; rintro e w4 ⟨rfl, x4⟩
  have ha := ha.ext x4
  have hb := hb.ext x4
  have y := y.trans x4
  clear x1 x2 x3 x4
  go_wp2_with fail
  refine (EX.out _ _ ha).mono ?_; rintro e w5 ⟨rfl, x5⟩
  have ha := ha.ext x5
  have hb := hb.ext x5
  have y := y.trans x5
  go_wp2_with fail
  refine (AT.out _ _ _ ha hb).mono ?_; rintro e w6 ⟨rfl, x6⟩
  have y := y.trans x6
  go_wp2_with fail
  refine (RA.out _ y).mono ?_; rintro e w7 ⟨rfl, x7⟩
  have y := y.trans x7
  clear x5 x6 x7
  go_wp2_with fail
  refine (alive12 _).mono ?_; rintro e w8 ⟨rfl, x8⟩
  go_wp2_with fail
  go_ret
  exact ⟨rfl, y.trans x8⟩
set_option maxRecDepth 100000 in
set_option maxHeartbeats 4000000 in
theorem soundTells_walk {o : Int} {l m : List Bead} {v u : Value} {w : World} (hl : Sl Bead.enc w v l) (hm : Sl Bead.enc w u m) (ml : l.length ≤ maxLen) (mm : m.length ≤ maxLen) (kl : ∀ x ∈ l, x.wf) (km : ∀ x ∈ m, x.wf) (wo : (Lit.int .u8 o).wf = true) :
    Calls Try.prog 25 #[.int .u8 o, v, u] w fun e w' => e = .returned (.bool true) ∧ Ext w w' := by
  have ho : 0 ≤ o ∧ o ≤ 255 := by simp [Lit.wf] at wo; exact wo
  cases hL : (decide (400 < l.length) || !mayL l) with
  | true =>
    have lg := long12_is hl ml hL
    clear hL hl hm
    go_enter Try.func25, Try.ntmps25
    go_wp2_with fail
    refine lg.mono ?_; rintro e w' ⟨rfl, rfl⟩
    go_wp2_with fail
    refine (alive12 _).mono ?_; rintro e w1 ⟨rfl, x1⟩
    go_wp2_with fail
    go_ret
    exact ⟨rfl, x1⟩
  | false =>
    cases hM : (decide (400 < m.length) || !mayL m) with
    | true =>
      have lg := long12_is hl ml hL
      have mg := long12_is hm mm hM
      clear hL hM hl hm
      go_enter Try.func25, Try.ntmps25
      go_wp2_with fail
      refine lg.mono ?_; rintro e w' ⟨rfl, rfl⟩
      go_wp2_with fail
      refine mg.mono ?_; rintro e w' ⟨rfl, rfl⟩
      go_wp2_with fail
      refine (alive12 _).mono ?_; rintro e w1 ⟨rfl, x1⟩
      go_wp2_with fail
      go_ret
      exact ⟨rfl, x1⟩
    | false =>
      by_cases h : 1 ≤ o ∧ o ≤ 7
      · obtain ⟨n, rfl⟩ : ∃ n : Nat, (n : Int) = o := ⟨o.toNat, by omega⟩
        exact soundTells_core (by omega) (by omega) hl hm ml mm hL hM (fun x hx => wf_i64 (kl x hx).key) (fun x hx => wf_i64 (km x hx).key)
      · exact soundTells_bad h hl hm ml mm hL hM (fun x hx => wf_i64 (kl x hx).key) (fun x hx => wf_i64 (km x hx).key)
end Go.Proofs.Ytlehcagpddgamaa
