/- The statement SoundJoins. -/
import Derived.Test.YtlehcagpddgamaaSoundD
import Derived.Test.YtlehcagpddgamaaFrameB
namespace Go.Proofs.Ytlehcagpddgamaa
open Go.RowKit

theorem long12_is {l : List Bead} {v : Value} {w : World} {b : Bool} (h : Sl Bead.enc w v l) (hm : l.length ≤ maxLen) (hb : (decide (400 < l.length) || !mayL l) = b) :
    Calls Try.prog 30 #[v] w fun e w' => e = .returned (.bool b) ∧ w = w' := by
  subst hb; exact long_any h (by simpa [maxLen] using hm)
theorem ser_keys : ∀ {t : T} {l : List Bead}, Ser l t → (∀ x ∈ l, InR x.key) → KeysR t
  | .nil, _, _, _ => trivial
  | .node k x g a b, _, ⟨y, la, lb, hl, hk, _, _, _, _, sa, sb⟩, h => by
    subst hl
    exact ⟨hk ▸ h y (by simp), ser_keys sa (fun z hz => h z (by simp [hz])), ser_keys sb (fun z hz => h z (by simp [hz]))⟩
set_option maxRecDepth 100000 in
set_option maxHeartbeats 8000000 in
theorem soundJoins_core {o : Nat} {key val tag : Int} {l m : List Bead} {v u : Value} {w : World} (h1 : 1 ≤ o) (h2 : o ≤ 7) (hl : Sl Bead.enc w v l) (hm : Sl Bead.enc w u m) (ml : l.length ≤ maxLen) (mm : m.length ≤ maxLen)
    (hL : (decide (400 < l.length) || !mayL l) = false) (hM : (decide (400 < m.length) || !mayL m) = false) (kl : ∀ x ∈ l, InR x.key) (km : ∀ x ∈ m, InR x.key) (hk : InR key) :
    Calls Try.prog 26 #[.int .u8 (o : Int), v, u, .int .i64 key, .int .i64 val, .int .u64 tag] w fun e w' => e = .returned (.bool true) ∧ Ext w w' := by
  have lg := long12_is hl ml hL
  have mg := long12_is hm mm hM
  obtain ⟨l400, a, sa, asz, ah⟩ := short12 hL
  obtain ⟨m400, b, sb, bsz, bh⟩ := short12 hM
  have ka := ser_keys sa kl
  have kb := ser_keys sb km
  have MA := Lib.hid (fun (W : World) (X : Ext w W) => make_any a (hl.ext X) sa (by omega) (by omega))
  have MB := Lib.hid (fun (W : World) (X : Ext w W) => make_any b (hm.ext X) sb (by omega) (by omega))
  have d1 : ¬ ((o : Int) < 1) := by omega
  have d2 : ¬ ((7 : Int) < (o : Int)) := by omega
  have k1 : KeysR (.node key val tag .nil .nil) := ⟨hk, trivial, trivial⟩
  have kt : KeysR (.node key val tag a b) := ⟨hk, ka, kb⟩
  have JL := Lib.hid (joins_law (o := o) (a := a) (b := b) (k := key) (x := val) (g := tag))
  clear hl hm ml mm hL hM kl km sa sb ah bh l400 m400
  have z := Ext.refl w
  go_enter Try.func26, Try.ntmps26
  go_wp2_with fail
  refine lg.mono ?_; rintro e w' ⟨rfl, rfl⟩
  go_wp2_with fail
  refine mg.mono ?_; rintro e w' ⟨rfl, rfl⟩
  go_wp2_with fail
  refine (MA.out _ z).mono ?_; rintro e w1 ⟨va, rfl, x1, ta⟩
  have z := z.trans x1
  go_wp2_with fail
  refine (MB.out _ z).mono ?_; rintro e w2 ⟨vb, rfl, x2, tb⟩
  have z := z.trans x2
  have ta := ta.ext x2
  obtain ⟨pa, rfl⟩ := ta.ptr
  obtain ⟨pb, rfl⟩ := tb.ptr
  go_wp2_with fail
  refine (new_any key val tag (nil_tr12 _) (nil_tr12 _)).mono ?_; rintro e w3 ⟨u3, rfl, x3, b1, rfl, _, at1⟩
  have t1 := at_tr at1 (nil_tr12 _) (nil_tr12 _)
  have z := z.trans x3
  have ta := ta.ext x3
  have tb := tb.ext x3
  go_wp2_with fail
  refine (new_any key val tag ta tb).mono ?_; rintro e w4 ⟨u4, rfl, x4, b2, rfl, _, at2⟩
  have ta := ta.ext x4
  have tb := tb.ext x4
  have t1 := t1.ext x4
  have tt := at_tr at2 ta tb
  have Z := Lib.hid (z.trans x4)
  have st : (T.node key val tag a b).size ≤ 1000000 := by simp only [T.size]; omega
  obtain ⟨mc, hmc⟩ : ∃ mc : Int, (chkA o (.node key val tag a b) : Int) = mc := ⟨_, rfl⟩
  have A1 := Lib.hid (fun (W : World) (X : Ext w4 W) => ahead_any h1 h2 (ta.ext X) (t1.ext X) ka k1 (by omega) (by simp [T.size]))
  have A2 := Lib.hid (fun (W : World) (X : Ext w4 W) => ahead_any h1 h2 (t1.ext X) (tb.ext X) k1 kb (by simp [T.size]) (by omega))
  have XT := Lib.hid (fun (W : World) (X : Ext w4 W) => exact_any _ (tt.ext X))
  have XA := Lib.hid (fun (W : World) (X : Ext w4 W) => exact_any _ (ta.ext X))
  have y := Ext.refl w4
  clear x1 x2 x3 x4 at1 at2 z
  cases r1 : aheadT o a (.node key val tag .nil .nil) with
  | false =>
    have he : chkE o (.node key val tag a b) = 120 := by unfold chkE; rw [if_neg (fun h => by have := (JL.out.1 h).1; rw [r1] at this; cases this)]
    have CK := Lib.hid (check_is (w := w4) h1 h2 rfl tt kt st hmc he)
    rw [r1] at A1
    clear he hmc tt ta tb t1 r1
    go_wp2_with fail
    refine CK.out.mono ?_; rintro e w5 ⟨rfl, x5⟩
    have y := y.trans x5
    go_wp2_with fail
    refine (A1.out _ y).mono ?_; rintro e w6 ⟨rfl, x6⟩
    have y := y.trans x6
    go_wp2_with fail
    refine (XT.out _ y).mono ?_; rintro e w8 ⟨rfl, x8⟩
    have y := y.trans x8
    go_wp2_with fail
    refine (XA.out _ y).mono ?_; rintro e w9 ⟨rfl, x9⟩
    have y := y.trans x9
    go_wp2_with fail
    refine (alive12 _).mono ?_; rintro e w10 ⟨rfl, x10⟩
    go_wp2_with fail
    go_ret
    exact ⟨rfl, Z.out.trans (y.trans x10)⟩
  | true =>
    cases r2 : aheadT o (.node key val tag .nil .nil) b with
    | false =>
      have he : chkE o (.node key val tag a b) = 120 := by unfold chkE; rw [if_neg (fun h => by have := (JL.out.1 h).2; rw [r2] at this; cases this)]
      have CK := Lib.hid (check_is (w := w4) h1 h2 rfl tt kt st hmc he)
      rw [r1] at A1
      rw [r2] at A2
      clear he hmc tt ta tb t1 r1 r2
      go_wp2_with fail
      refine CK.out.mono ?_; rintro e w5 ⟨rfl, x5⟩
      have y := y.trans x5
      go_wp2_with fail
      refine (A1.out _ y).mono ?_; rintro e w6 ⟨rfl, x6⟩
      have y := y.trans x6
      go_wp2_with fail
      refine (A2.out _ y).mono ?_; rintro e w7 ⟨rfl, x7⟩
      have y := y.trans x7
      go_wp2_with fail
      refine (XT.out _ y).mono ?_; rintro e w8 ⟨rfl, x8⟩
      have y := y.trans x8
      go_wp2_with fail
      refine (XA.out _ y).mono ?_; rintro e w9 ⟨rfl, x9⟩
      have y := y.trans x9
      go_wp2_with fail
      refine (alive12 _).mono ?_; rintro e w10 ⟨rfl, x10⟩
      go_wp2_with fail
      go_ret
      exact ⟨rfl, Z.out.trans (y.trans x10)⟩
    | true =>
      have he : chkE o (.node key val tag a b) = 0 := by unfold chkE; rw [if_pos (JL.out.2 ⟨r1, r2⟩)]
      have CK := Lib.hid (check_is (w := w4) h1 h2 rfl tt kt st hmc he)
      rw [r1] at A1
      rw [r2] at A2
      clear he hmc tt ta tb t1 r1 r2
      go_wp2_with fail
      refine CK.out.mono ?_; rintro e w5 ⟨rfl, x5⟩
      have y := y.trans x5
      go_wp2_with fail
      refine (A1.out _ y).mono ?_; rintro e w6 ⟨rfl, x6⟩
      have y := y.trans x6
      go_wp2_with fail
      refine (A2.out _ y).mono ?_; rintro e w7 ⟨rfl, x7⟩
      have y := y.trans x7
      go_wp2_with fail
      refine (XT.out _ y).mono ?_; rintro e w8 ⟨rfl, x8⟩
      have y := y.trans x8
      go_wp2_with fail
      refine (XA.out _ y).mono ?_; rintro e w9 ⟨rfl, x9⟩
      have y := y.trans x9
      go_wp2_with fail
      refine (alive12 _).mono ?_; rintro e w10 ⟨rfl, x10⟩
      go_wp2_with fail
      go_ret
      exact ⟨rfl, Z.out.trans (y.trans x10)⟩
set_option maxRecDepth 100000 in
set_option maxHeartbeats 4000000 in
theorem soundJoins_walk {o key : Int} (val tag : Int) {l m : List Bead} {v u : Value} {w : World} (hl : Sl Bead.enc w v l) (hm : Sl Bead.enc w u m) (ml : l.length ≤ maxLen) (mm : m.length ≤ maxLen) (kl : ∀ x ∈ l, x.wf) (km : ∀ x ∈ m, x.wf) (wo : (Lit.int .u8 o).wf = true) (wk : (Lit.int .i64 key).wf = true) :
    Calls Try.prog 26 #[.int .u8 o, v, u, .int .i64 key, .int .i64 val, .int .u64 tag] w fun e w' => e = .returned (.bool true) ∧ Ext w w' := by
  have ho : 0 ≤ o ∧ o ≤ 255 := by simp [Lit.wf] at wo; exact wo
  cases hL : (decide (400 < l.length) || !mayL l) with
  | true =>
    have lg := long12_is hl ml hL
    clear hL hl hm
    go_enter Try.func26, Try.ntmps26
    go_wp2_with fail
    refine lg.mono ?_; rintro e w' ⟨rfl, rfl⟩
    go_wp2_with fail
    refine (alive12 _).mono ?_; rintro e w1 ⟨rfl, x1⟩
    go_wp2_with fail
    go_ret
    exact ⟨rfl, x1⟩
  | false =>
    cases hM : (decide (400 < m.length) || !mayL m) with
    | true =>
      have lg := long12_is hl ml hL
      have mg := long12_is hm mm hM
      clear hL hM hl hm
      go_enter Try.func26, Try.ntmps26
      go_wp2_with fail
      refine lg.mono ?_; rintro e w' ⟨rfl, rfl⟩
      go_wp2_with fail
      refine mg.mono ?_; rintro e w' ⟨rfl, rfl⟩
      go_wp2_with fail
      refine (alive12 _).mono ?_; rintro e w1 ⟨rfl, x1⟩
      go_wp2_with fail
      go_ret
      exact ⟨rfl, x1⟩
    | false =>
      by_cases h : 1 ≤ o ∧ o ≤ 7
      · obtain ⟨n, rfl⟩ : ∃ n : Nat, (n : Int) = o := ⟨o.toNat, by omega⟩
        exact soundJoins_core (by omega) (by omega) hl hm ml mm hL hM (fun x hx => wf_i64 (kl x hx).key) (fun x hx => wf_i64 (km x hx).key) (wf_i64 wk)
      · have lg := long12_is hl ml hL
        have mg := long12_is hm mm hM
        clear hL hM hl hm
        by_cases h1 : o < 1
        · clear h
          go_enter Try.func26, Try.ntmps26
          go_wp2_with fail
          refine lg.mono ?_; rintro e w' ⟨rfl, rfl⟩
          go_wp2_with fail
          refine mg.mono ?_; rintro e w' ⟨rfl, rfl⟩
          go_wp2_with fail
          refine (alive12 _).mono ?_; rintro e w1 ⟨rfl, x1⟩
          go_wp2_with fail
          go_ret
          exact ⟨rfl, x1⟩
        · have h2 : 7 < o := by omega
          clear h
          go_enter Try.func26, Try.ntmps26
          go_wp2_with fail
          refine lg.mono ?_; rintro e w' ⟨rfl, rfl⟩
          go_wp2_with fail
          refine mg.mono ?_; rintro e w' ⟨rfl, rfl⟩
          go_wp2_with fail
          refine (alive12 _).mono ?_; rintro e w1 ⟨rfl, x1⟩
          go_wp2_with fail
          go_ret
          exact ⟨rfl, x1⟩
end Go.Proofs.Ytlehcagpddgamaa
