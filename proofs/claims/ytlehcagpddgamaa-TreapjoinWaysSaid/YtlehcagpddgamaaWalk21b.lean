/- The statement TreapjoinWays. -/
import Derived.Test.YtlehcagpddgamaaWalk21
import Derived.Lib.MinMax
namespace Go.Proofs.Ytlehcagpddgamaa
open Go.RowKit

theorem joined_is {l r t : T} {x : Item} {m : List Item} (h : Joined l x r t) (hm : l.items ++ x :: r.items = m) (hu : Unl m) : t = ofI m := by
  subst hm; exact joined_one h hu
theorem joined_may {l r t : T} {x : Item} (h : Joined l x r t) : mayT t = true := h.1

set_option maxRecDepth 100000 in
set_option maxHeartbeats 8000000 in
theorem treapjoinWays_core {l l1 l2 l3 : List Item} {x y : Item} {c b off p q p0 q0 : Nat} {i k : Int} {w : World} (hl : Sl Item.enc w (.slice (some ⟨b, off, none⟩) l.length c) l)
    (h2 : 2 ≤ l.length) (hm : l.length ≤ 200) (hu : Unl l) (hi : 0 ≤ i ∧ i ≤ 255) (hk : 0 ≤ k ∧ k ≤ 255) (ei : i % (l.length : Int) = p0) (ek : k % (l.length : Int) = q0) (_ : p0 ≠ q0)
    (hmin : min (p0 : Int) (q0 : Int) = p) (hmax : max (p0 : Int) (q0 : Int) = q) (hpq : p < q) (hq : q < l.length) (hs : l = l1 ++ x :: (l2 ++ y :: l3)) (hl1 : l1.length = p) (hl2 : l2.length = q - (p + 1)) (hxp : l[p]? = some x) (hyq : l[q]? = some y)
    (s1 : Sl Item.enc w (.slice (some ⟨b, off, none⟩) p c) l1) {A2 A3 : Option Addr} (s2 : Sl Item.enc w (.slice A2 (q - (p + 1)) (c - (p + 1))) l2) (s3 : Sl Item.enc w (.slice A3 (l.length - (q + 1)) (c - (q + 1))) l3)
    (k1 : ∀ W : World, (Instr.slice 77 (.slice (some ⟨b, off, none⟩) l.length c) none (some (.int .i64 (p : Int))) none).run Try.prog W = .ok (.slice (some ⟨b, off, none⟩) p c) W)
    (k2 : ∀ W : World, (Instr.slice 77 (.slice (some ⟨b, off, none⟩) l.length c) (some (.int .i64 ((p : Int) + 1))) (some (.int .i64 (q : Int))) none).run Try.prog W = .ok (.slice A2 (q - (p + 1)) (c - (p + 1))) W)
    (k3 : ∀ W : World, (Instr.slice 77 (.slice (some ⟨b, off, none⟩) l.length c) (some (.int .i64 ((q : Int) + 1))) none none).run Try.prog W = .ok (.slice A3 (l.length - (q + 1)) (c - (q + 1))) W)
    (hb : b < w.heap.size) (hcs : Cells w b off (flat Item.enc l)) :
    Calls Try.prog 14 #[.slice (some ⟨b, off, none⟩) l.length c, .int .u8 i, .int .u8 k] w fun e w' => e = .returned (.bool true) ∧ Ext w w' := by
  have H1 : decide ((l.length : Int) < 2) = false := by simp; omega
  have H2 : decide ((200 : Int) < (l.length : Int)) = false := by simp; omega
  have ti : i.tmod (l.length : Int) = p0 := by rw [Int.tmod_eq_emod_of_nonneg hi.1, ei]
  have tk : k.tmod (l.length : Int) = q0 := by rw [Int.tmod_eq_emod_of_nonneg hk.1, ek]
  have hne0 : ¬ (l.length : Int) = 0 := by omega
  have wi : wrap64 i = i := by unfold wrap64; omega
  have wk : wrap64 k = k := by unfold wrap64; omega
  have hpe : ((p0 : Int) == (q0 : Int)) = false := by simp; omega
  have wp1 : IntKind.i64.wrap ((p : Int) + 1) = (p : Int) + 1 := by rw [IntKind.wrap_i64]; omega
  have wq1 : IntKind.i64.wrap ((q : Int) + 1) = (q : Int) + 1 := by rw [IntKind.wrap_i64]; omega
  have hpl : (p : Int) < (l.length : Int) := by omega
  have hql : (q : Int) < (l.length : Int) := by omega
  have hpl2 : p < l.length := by omega
  have hz1 : l1.length ≤ 200 := by omega
  have hz2 : l2.length ≤ 200 := by omega
  have hz3 : l3.length ≤ 200 := by have := congrArg List.length hs; simp at this; omega
  have z := Ext.refl w
  have HCX := Lib.hid (show ∀ W : World, Ext w W → (W.cell? ⟨b, off + p * 3, none⟩ = some (.int .i64 x.key) ∧ W.cell? ⟨b, off + p * 3 + 1, none⟩ = some (.int .i64 x.val) ∧ W.cell? ⟨b, off + p * 3 + 2, none⟩ = some (.int .u64 x.tag)) ∧ (W.cell? ⟨b, off + q * 3, none⟩ = some (.int .i64 y.key) ∧ W.cell? ⟨b, off + q * 3 + 1, none⟩ = some (.int .i64 y.val) ∧ W.cell? ⟨b, off + q * 3 + 2, none⟩ = some (.int .u64 y.tag)) from fun W X => ⟨item_cells (hcs.ext X hb) hxp, item_cells (hcs.ext X hb) hyq⟩)
  have HCI := Lib.hid (show ∀ (W : World) (n : Nat) (u : Item), Ext w W → l[n]? = some u → W.cell? ⟨b, off + n * 3, none⟩ = some (.int .i64 u.key) ∧ W.cell? ⟨b, off + n * 3 + 1, none⟩ = some (.int .i64 u.val) ∧ W.cell? ⟨b, off + n * 3 + 2, none⟩ = some (.int .u64 u.tag) from fun W n u X hn => item_cells (hcs.ext X hb) hn)
  have UL := Lib.hid (fun (W : World) (X : Ext w W) => unlike_any (hl.ext X) (by omega))
  have O1 := Lib.hid (fun (W : World) (X : Ext w W) => treapOf_any (s1.ext X) (by omega))
  have O2 := Lib.hid (fun (W : World) (X : Ext w W) => treapOf_any (s2.ext X) (by omega))
  have O3 := Lib.hid (fun (W : World) (X : Ext w W) => treapOf_any (s3.ext X) (by omega))
  have zs := ofI_size l
  have HU := Lib.hid hu
  have HS := Lib.hid hs
  generalize q - (p + 1) = n2 at *
  generalize c - (p + 1) = c2 at *
  generalize l.length - (q + 1) = n3 at *
  generalize c - (q + 1) = c3 at *
  have HM := Lib.hid hm
  clear hl s1 s2 s3 hu hs hxp hyq hcs hl1 hl2 hz1 hz2 hz3 ei ek hi hk
  go_enter Try.func14, Try.ntmps14
  go_wp2_with fail
  refine (UL.out _ z).mono ?_; rintro e w1 ⟨⟨q1, rfl, hq1⟩, x1⟩
  obtain rfl : q1 = true := hq1.2 HU.out
  have z := Ext.trans z x1
  clear hq1 x1
  go_wp2_with fail
  go_quiet (fail)
  have z := z.drewN nq
  go_wp2_with fail
  generalize w1.drewN nq = wN at *
  go_region_held3 (fun _ => True) (trivial)
    (first
      | (go_at_call 78; first
          | ((with_reducible refine (O1.out _ (by first | exact z | exact Ext.drew z)).mono ?_); rintro e wa ⟨va, rfl, xa, ta⟩; have z := (by first | exact Ext.trans z xa | exact (Ext.drew z).trans xa))
          | ((with_reducible refine (O2.out _ z).mono ?_); rintro e wb ⟨vb, rfl, xb, tb⟩; have ta := ta.ext xb; have z := Ext.trans z xb)
          | ((with_reducible refine (O3.out _ z).mono ?_); rintro e wc ⟨vc, rfl, xc, tc⟩; have ta := ta.ext xc; have tb := tb.ext xc; have z := Ext.trans z xc)))
  have HZ := Lib.hid z
  have TA := Lib.hid (fun (W : World) (X : Ext wc W) => ta.ext X)
  have TB := Lib.hid (fun (W : World) (X : Ext wc W) => tb.ext X)
  have TC := Lib.hid (fun (W : World) (X : Ext wc W) => tc.ext X)
  clear z ta tb tc O1 O2 O3 UL k1 k2 k3
  have z := Ext.refl wc
  go_wp2_with fail
  go_region_held3 (fun W => (W.cell? ⟨b, off + p * 3, none⟩ = some (.int .i64 x.key) ∧ W.cell? ⟨b, off + p * 3 + 1, none⟩ = some (.int .i64 x.val) ∧ W.cell? ⟨b, off + p * 3 + 2, none⟩ = some (.int .u64 x.tag)) ∧ (W.cell? ⟨b, off + q * 3, none⟩ = some (.int .i64 y.key) ∧ W.cell? ⟨b, off + q * 3 + 1, none⟩ = some (.int .i64 y.val) ∧ W.cell? ⟨b, off + q * 3 + 2, none⟩ = some (.int .u64 y.tag))) (first | exact HCX.out _ (HZ.out.trans z) | exact HCX.out _ (HZ.out.trans (Ext.drew z)))
    (first
      | (go_at_call 74; first
          | ((with_reducible refine (join_any x (ofI_may l1) (ofI_may l2) (TA.out _ (by first | exact z | exact Ext.drew z)) (TB.out _ (by first | exact z | exact Ext.drew z))).mono ?_); rintro e wd ⟨vd, rfl, xd, t1, tt1, hj1⟩; have z := (by first | exact Ext.trans z xd | exact (Ext.drew z).trans xd))
          | ((with_reducible refine (join_any y (joined_may hj1) (ofI_may l3) tt1 (TC.out _ z)).mono ?_); rintro e we ⟨ve, rfl, xe, t2, tt2, hj2⟩; have z := Ext.trans z xe)))
  have h2 := joined_is hj2 (m := l) (by rw [hj1.2, ofI_items, ofI_items, ofI_items, HS.out]; simp) HU.out
  subst h2
  clear hj1 hj2 tt1 xd xe
  have T2 := Lib.hid (fun (W : World) (X : Ext we W) => tt2.ext X)
  have HZ2 := Lib.hid z
  clear z tt2
  have z := Ext.refl we
  go_wp2_with fail
  go_region_held3 (fun W => (W.cell? ⟨b, off + p * 3, none⟩ = some (.int .i64 x.key) ∧ W.cell? ⟨b, off + p * 3 + 1, none⟩ = some (.int .i64 x.val) ∧ W.cell? ⟨b, off + p * 3 + 2, none⟩ = some (.int .u64 x.tag)) ∧ (W.cell? ⟨b, off + q * 3, none⟩ = some (.int .i64 y.key) ∧ W.cell? ⟨b, off + q * 3 + 1, none⟩ = some (.int .i64 y.val) ∧ W.cell? ⟨b, off + q * 3 + 2, none⟩ = some (.int .u64 y.tag))) (first | exact HCX.out _ (HZ.out.trans (HZ2.out.trans z)) | exact HCX.out _ (HZ.out.trans (HZ2.out.trans (Ext.drew z))))
    (first
      | (go_at_call 74; first
          | ((with_reducible refine (join_any y (ofI_may l2) (ofI_may l3) (TB.out _ (HZ2.out.trans (by first | exact z | exact Ext.drew z))) (TC.out _ (HZ2.out.trans (by first | exact z | exact Ext.drew z)))).mono ?_); rintro e wf ⟨vf, rfl, xf, t3, tt3, hj3⟩; have z := (by first | exact Ext.trans z xf | exact (Ext.drew z).trans xf))
          | ((with_reducible refine (join_any x (ofI_may l1) (joined_may hj3) (TA.out _ (HZ2.out.trans z)) tt3).mono ?_); rintro e wg ⟨vg, rfl, xg, t4, tt4, hj4⟩; have z := Ext.trans z xg)))
  have h4 := joined_is hj4 (m := l) (by rw [hj3.2, ofI_items, ofI_items, ofI_items, HS.out]) HU.out
  subst h4
  clear hj3 hj4 tt3 xf xg HCX
  go_wp2_with fail
  refine (See_any (T2.out _ z) (by omega)).mono ?_; rintro e wh ⟨vh, rfl, oh, xh⟩
  have z := Ext.trans z xh
  have tt4 := tt4.ext xh
  go_wp2_with fail
  refine (See_any tt4 (by omega)).mono ?_; rintro e wi ⟨vi, rfl, oi, xi⟩
  have hbl : (bOf (ofI l)).length = l.length := by rw [bOf_length, zs]
  have sh := (oh.ext xi).sl Bead.enc_len (by omega)
  have si := oi.sl Bead.enc_len (by omega)
  obtain ⟨A7, c7, e7, hc7, hr7⟩ := id sh
  rw [hbl] at e7
  subst e7
  have SH := Lib.hid (fun (W : World) (X : Ext wi W) => sh.ext X)
  have SI := Lib.hid (fun (W : World) (X : Ext wi W) => si.ext X)
  have HZ3 := Lib.hid (HZ.out.trans (HZ2.out.trans (Ext.trans z xi)))
  clear z xh xi oh oi sh si tt4 T2 TA TB TC hc7 hr7 HZ HZ2
  have h0 : ∀ W : World, Tr W (.pointer none) .nil := fun _ => rfl
  have hm9 : l.length ≤ 200 := HM.out
  go_wp2_with fail
  go_loopw [18, 19] (fun o i wq => ∃ (n : Nat) (u : T), n ≤ l.length ∧ i = .int .i64 (n : Int) ∧ Tr wq o u ∧ mayT u = true ∧ u.items = l.take n ∧ Ext wi wq) (fun _ i _ => l.length - (intOf i).toNat)
  case atStart => exact ⟨0, .nil, Nat.zero_le _, rfl, rfl, rfl, rfl, Ext.refl wi⟩
  case round =>
    obtain ⟨n, u, hn, rfl, tu, mu, hui, hx⟩ := hrel
    obtain ⟨pu, rfl⟩ := tu.ptr
    by_cases hlt : n < l.length
    · have hxk : l[n]? = some l[n] := List.getElem?_eq_getElem hlt
      generalize l[n] = g at hxk
      obtain ⟨d0, d1, d2⟩ := HCI.out _ _ _ (HZ3.out.trans hx) hxk
      have hlt2 : (n : Int) < (l.length : Int) := by omega
      have hit : l.take (n + 1) = l.take n ++ [g] := by rw [List.take_add_one, hxk]; rfl
      have J := join_any g mu (show mayT .nil = true from rfl) tu (h0 wr)
      have HT := Lib.hid hit
      have HI := Lib.hid hui
      have HX := Lib.hid hx
      clear hxk hit hui hx
      go_wp2_with fail
      refine (J).mono ?_; rintro e wj ⟨vj, rfl, xj, t5, tt5, hj5⟩
      go_wp2_with fail
      exact ⟨⟨n + 1, t5, by omega, by go_num, tt5, joined_may hj5, by rw [hj5.2, HI.out, HT.out]; rfl, HX.out.trans xj⟩, by simp [intOf]; omega⟩
    · have hge : l.length ≤ n := by omega
      rw [List.take_of_length_le hge] at hui
      have hul : u = ofI l := by rw [← hui]; exact (ofI_one mu (by rw [hui]; exact HU.out)).symm
      subst hul
      have z := hx
      have ll : ((l.length : Int) == (l.length : Int)) = true := by simp
      clear hui mu hx
      go_wp2_with fail
      refine (same_is (SH.out _ z) (SI.out _ z) (by rw [hbl]; omega)).mono ?_; rintro e wk ⟨rfl, xk⟩
      have z := Ext.trans z xk
      have ia := is_any (tu.ext xk) (by omega) (SH.out _ z) (by rw [hbl]; omega)
      rw [decide_eq_true rfl] at ia
      go_wp2_with fail
      refine (ia).mono ?_; rintro e wl ⟨rfl, xl⟩
      have z := Ext.trans z xl
      go_wp2_with fail
      refine (alive21 _).mono ?_; rintro e wm ⟨rfl, xm⟩
      have z := Ext.trans z xm
      go_wp2_with fail
      go_ret
      exact ⟨rfl, HZ3.out.trans z⟩

set_option maxRecDepth 100000 in
set_option maxHeartbeats 4000000 in
theorem treapjoinWays_walk {l : List Item} {v : Value} {w : World} (i k : Int) (h : Sl Item.enc w v l) (hm : l.length ≤ maxLen) (wi : (Lit.int .u8 i).wf = true) (wk : (Lit.int .u8 k).wf = true) :
    Calls Try.prog 14 #[v, .int .u8 i, .int .u8 k] w fun e w' => e = .returned (.bool true) ∧ Ext w w' := by
  have h' := h
  obtain ⟨A, c, rfl, hc, hr⟩ := h
  simp only [maxLen] at hm
  have hi : 0 ≤ i ∧ i ≤ 255 := by simp [Lit.wf] at wi; exact wi
  have hk : 0 ≤ k ∧ k ≤ 255 := by simp [Lit.wf] at wk; exact wk
  clear wi wk
  by_cases c1 : l.length < 2
  · have H1 : decide ((l.length : Int) < 2) = true := by simp; omega
    clear h' hr
    go_enter Try.func14, Try.ntmps14
    go_wp2_with fail
    refine (alive21 _).mono ?_; rintro e w1 ⟨rfl, x1⟩
    go_wp2_with fail
    go_ret
    exact ⟨rfl, x1⟩
  have H1 : decide ((l.length : Int) < 2) = false := by simp; omega
  by_cases c2 : 200 < l.length
  · have H2 : decide ((200 : Int) < (l.length : Int)) = true := by simp; omega
    clear h' hr
    go_enter Try.func14, Try.ntmps14
    go_wp2_with fail
    refine (alive21 _).mono ?_; rintro e w1 ⟨rfl, x1⟩
    go_wp2_with fail
    go_ret
    exact ⟨rfl, x1⟩
  have H2 : decide ((200 : Int) < (l.length : Int)) = false := by simp; omega
  have UL := unlike_any h' (by omega)
  by_cases hu : Unl l
  · obtain ⟨p0, ei, hp0⟩ : ∃ n : Nat, i % (l.length : Int) = n ∧ n < l.length := by
      have e1 := Int.emod_nonneg i (b := (l.length : Int)) (by omega)
      have e2 := Int.emod_lt_of_pos i (b := (l.length : Int)) (by omega)
      exact ⟨(i % (l.length : Int)).toNat, by omega, by omega⟩
    obtain ⟨q0, ek, hq0⟩ : ∃ n : Nat, k % (l.length : Int) = n ∧ n < l.length := by
      have e1 := Int.emod_nonneg k (b := (l.length : Int)) (by omega)
      have e2 := Int.emod_lt_of_pos k (b := (l.length : Int)) (by omega)
      exact ⟨(k % (l.length : Int)).toNat, by omega, by omega⟩
    by_cases hpq : p0 = q0
    · have ti : i.tmod (l.length : Int) = p0 := by rw [Int.tmod_eq_emod_of_nonneg hi.1, ei]
      have tk : k.tmod (l.length : Int) = p0 := by rw [Int.tmod_eq_emod_of_nonneg hk.1, ek, hpq]
      have hne0 : ¬ (l.length : Int) = 0 := by omega
      have h2 : 2 ≤ l.length := by omega
      have wi : wrap64 i = i := by unfold wrap64; omega
      have wk : wrap64 k = k := by unfold wrap64; omega
      have HU := Lib.hid hu
      clear h' hr ei ek hi hk hu hpq
      go_enter Try.func14, Try.ntmps14
      go_wp2_with fail
      refine (UL).mono ?_; rintro e w1 ⟨⟨q1, rfl, hq1⟩, x1⟩
      obtain rfl : q1 = true := hq1.2 HU.out
      clear hq1 UL
      go_wp2_with fail
      go_quiet (fail)
      go_wp2_with fail
      refine (alive21 _).mono ?_; rintro e w2 ⟨rfl, x2⟩
      go_wp2_with fail
      go_ret
      exact ⟨rfl, (x1.drewN nq).trans x2⟩
    · have hlt := Nat.lt_or_gt_of_ne hpq
      have hne : l ≠ [] := by intro e; rw [e] at c1; simp at c1
      obtain ⟨b, off, rfl, hb, hcs⟩ := id hr hne
      obtain ⟨p, q, hp, hq, hmin, hmax⟩ : ∃ p q : Nat, p < q ∧ q < l.length ∧ min (p0 : Int) (q0 : Int) = p ∧ max (p0 : Int) (q0 : Int) = q := by
        rcases hlt with hlt | hlt
        · exact ⟨p0, q0, hlt, hq0, by omega, by omega⟩
        · exact ⟨q0, p0, hlt, hp0, by omega, by omega⟩
      have hxp : l[p]? = some (l[p]'(by omega)) := List.getElem?_eq_getElem (by omega)
      have hyq : l[q]? = some l[q] := List.getElem?_eq_getElem hq
      have hs : l = l.take p ++ (l[p]'(by omega)) :: ((l.drop (p + 1)).take (q - (p + 1)) ++ l[q] :: l.drop (q + 1)) := by
        have e1 : l.drop p = (l[p]'(by omega)) :: l.drop (p + 1) := List.drop_eq_getElem_cons (by omega)
        have e2 : l.drop q = l[q] :: l.drop (q + 1) := List.drop_eq_getElem_cons hq
        have e3 : (l.drop (p + 1)).drop (q - (p + 1)) = l.drop q := by rw [List.drop_drop]; congr 1; omega
        rw [← e2, ← e3, List.take_append_drop, ← e1, List.take_append_drop]
      obtain ⟨i0, z0, hii, _, hsz, _⟩ := itemE.info
      have k1 := run_cut_h (P := Try.prog) itemE.ht hii hsz (some ⟨b, off, none⟩) (n := l.length) (c := c) (p : Int) p rfl (by omega)
      have k2 := run_cut_lh (P := Try.prog) itemE.ht hii hsz (some ⟨b, off, none⟩) (n := l.length) (c := c) ((p : Int) + 1) (q : Int) (p + 1) q (by omega) rfl (by omega) (by omega)
      have k3 := run_cut_l (P := Try.prog) itemE.ht hii hsz (some ⟨b, off, none⟩) (n := l.length) (c := c) ((q : Int) + 1) (q + 1) (by omega) (by omega)
      have r2 := (hr.cut Item.enc_len (p + 1) hc).take (q - (p + 1))
      have r3 := hr.cut Item.enc_len (q + 1) hc
      rw [cutA_zero] at k1
      refine treapjoinWays_core h' (by omega) (by omega) hu hi hk ei ek hpq hmin hmax hp hq hs (by rw [List.length_take]; omega) (by rw [List.length_take, List.length_drop]; omega) hxp hyq
        ⟨_, c, by rw [List.length_take, Nat.min_eq_left (by omega)], by rw [List.length_take]; omega, hr.take p⟩
        ⟨_, c - (p + 1), by rw [List.length_take, List.length_drop, Nat.min_eq_left (by omega)], by rw [List.length_take, List.length_drop]; omega, r2⟩
        ⟨_, c - (q + 1), by rw [List.length_drop], by rw [List.length_drop]; omega, r3⟩ k1 k2 k3 hb hcs
  · have HU := Lib.hid hu
    clear h' hr hu
    go_enter Try.func14, Try.ntmps14
    go_wp2_with fail
    refine (UL).mono ?_; rintro e w1 ⟨⟨q1, rfl, hq1⟩, x1⟩
    have hq2 : q1 = false := by
      cases q1 with
      | false => rfl
      | true => exact absurd (hq1.1 rfl) HU.out
    subst hq2
    clear hq1 UL
    go_wp2_with fail
    refine (alive21 _).mono ?_; rintro e w2 ⟨rfl, x2⟩
    go_wp2_with fail
    go_ret
    exact ⟨rfl, x1.trans x2⟩
end Go.Proofs.Ytlehcagpddgamaa
