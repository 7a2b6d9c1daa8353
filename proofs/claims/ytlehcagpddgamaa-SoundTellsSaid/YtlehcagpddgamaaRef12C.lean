/- The document's answer of chapter 12: first, Check. -/
import Derived.Test.YtlehcagpddgamaaRef12B
namespace Go.Proofs.Ytlehcagpddgamaa
open Go.RowKit
set_option linter.unusedVariables false

theorem lead_app : ∀ p q : List Bool, lead (p ++ q) = if lead p < p.length then lead p else p.length + lead q
  | [], q => by simp [lead]
  | true :: p, q => by simp [lead]
  | false :: p, q => by
    have this := lead_app p q
    have e : lead ((false :: p) ++ q) = 1 + lead (p ++ q) := rfl
    have e1 : lead (false :: p) = 1 + lead p := rfl
    have e2 : (false :: p).length = p.length + 1 := rfl
    rw [e, this]
    by_cases h : lead p < p.length
    · rw [if_pos h, if_pos (by omega), e1]
    · rw [if_neg h, if_neg (by omega), e2]; omega
theorem lead_wrong {o : Nat} {k x g : Int} {a b : T} {B : List (Int × Bool)} (h : okB o B k = false) : lead (seqW o (.node k x g a b) B) = 0 := by
  simp only [seqW, h, Bool.not_false, lead]
theorem lead_left {o : Nat} {k x g : Int} {a b : T} {B : List (Int × Bool)} (h : okB o B k = true) (hl : lead (seqW o a ((k, false) :: B)) < a.size) : lead (seqW o (.node k x g a b) B) = 1 + lead (seqW o a ((k, false) :: B)) := by
  simp only [seqW, h, Bool.not_true, lead]
  rw [lead_app, seqW_length, if_pos hl]
theorem lead_right {o : Nat} {k x g : Int} {a b : T} {B : List (Int × Bool)} (h : okB o B k = true) (hl : ¬ lead (seqW o a ((k, false) :: B)) < a.size) : lead (seqW o (.node k x g a b) B) = 1 + lead (seqW o a ((k, false) :: B)) + lead (seqW o b ((k, true) :: B)) := by
  have := lead_le (seqW o a ((k, false) :: B))
  rw [seqW_length] at this
  simp only [seqW, h, Bool.not_true, lead]
  rw [lead_app, seqW_length, if_neg hl]
  omega
theorem lead_sz (o : Nat) (t : T) (B : List (Int × Bool)) : lead (seqW o t B) ≤ t.size := by
  have := lead_le (seqW o t B)
  rwa [seqW_length] at this
set_option maxRecDepth 100000 in
set_option maxHeartbeats 8000000 in
theorem first_any {o : Nat} (h1 : 1 ≤ o) (h2 : o ≤ 7) (t : T) : ∀ {l : List Bead} {L : List (Int × Bool)} {v u : Value} {w : World}, Sl Bead.enc w v l → Ser l t → t.height ≤ 5001 → l.length ≤ 100000 →
    Sl EBd w u L → L.length + t.height ≤ 6000 → (∀ p ∈ L, InR p.1) → KeysR t →
    Calls Try.prog 165 #[.int .u8 (o : Int), v, u] w fun e w' => e = .returned (.int .i64 (lead (seqW o t L.reverse) : Nat)) ∧ Ext w w' := by
  induction t with
  | nil =>
    intro l L v u w h hs _ _ _ _ _ _
    obtain rfl : l = [] := hs
    obtain ⟨A, c, rfl, hc, hr⟩ := h
    go_enter Try.func165, Try.ntmps165
    go_wp2_with fail
    go_ret
    exact ⟨rfl, Ext.refl w⟩
  | node k x g a b iha ihb =>
    intro l L v u w h hs hh hm hu hLm hLi hk
    obtain ⟨y, la, lb, hl, rfl, rfl, rfl, e4, e5, sa, sb, p1, p2⟩ := ser_parts hs hh
    have hlen : 0 < l.length := by rw [hl]; simp
    have hla : la.length ≤ 100000 := by rw [hl] at hm; simp at hm; omega
    have hlb : lb.length ≤ 100000 := by rw [hl] at hm; simp at hm; omega
    have hza := sa.length
    have hzb := sb.length
    simp only [T.height] at hh hLm
    have hz : ((l.length : Int) == 0) = false := by simp; intro h; rw [h] at hlen; simp at hlen
    have HP := Lib.hid (fun (W : World) (X : Ext w W) => parts_any (h.ext X) hl (by omega) p1 p2)
    have HW := Lib.hid (fun (W : World) (X : Ext w W) => wrong_any (key := y.key) h1 h2 (hu.ext X) (by omega) hLi hk.1)
    have hLL : ∀ q : Bool, ∀ p ∈ L ++ [(y.key, q)], InR p.1 := by
      intro q p hp
      rcases List.mem_append.1 hp with hp | hp
      · exact hLi p hp
      · simp at hp; subst hp; exact hk.1
    have IA := Lib.hid (fun (W : World) (va ua : Value) (X : Sl Bead.enc W va la) (Y : Sl EBd W ua (L ++ [(y.key, false)])) => iha X sa (by omega) hla Y (by simp; omega) (hLL false) hk.2.1)
    have IB := Lib.hid (fun (W : World) (vb ub : Value) (X : Sl Bead.enc W vb lb) (Y : Sl EBd W ub (L ++ [(y.key, true)])) => ihb X sb (by omega) hlb Y (by simp; omega) (hLL true) hk.2.2)
    simp only [List.reverse_append, List.reverse_cons, List.reverse_nil, List.nil_append, List.singleton_append] at IA IB
    have na := lead_sz o a ((y.key, false) :: L.reverse)
    have nb := lead_sz o b ((y.key, true) :: L.reverse)
    have hko := okL_okB (o := o) (a := y.key) L.reverse
    rw [List.reverse_reverse] at hko
    have HU := Lib.hid (fun (W : World) (X : Ext w W) => hu.ext X)
    have hL6 : L.length ≤ 6000 := by omega
    obtain ⟨A, c, rfl, hc, hr⟩ := h
    obtain ⟨A2, c2, rfl, hc2, hr2⟩ := hu
    clear hl p1 p2 hs iha ihb e4 e5 sb hh hLL hLi hLm hk hr hr2 sa
    cases hw : okL o L y.key with
    | false =>
      rw [hw] at HW hko
      rw [lead_wrong hko]
      clear IA IB na nb hko hw
      go_enter Try.func165, Try.ntmps165
      go_wp2_with fail
      refine (HP.out _ (Ext.refl w)).mono ?_; rintro e w1 ⟨va, vb, rfl, ha, hb, x1⟩
      have b1 := Blk.new w1 138 #[.int .i64 y.key, .int .i64 y.val, .int .i64 y.sum, .int .i64 y.size, .int .u64 y.tag, .bool y.left, .bool y.right]
      have c1 := b1.cell 0
      have y1 := x1.alloc (.cells #[.int .i64 y.key, .int .i64 y.val, .int .i64 y.sum, .int .i64 y.size, .int .u64 y.tag, .bool y.left, .bool y.right] 138)
      go_wp2_with fail
      refine (HW.out _ y1).mono ?_; rintro e w2 ⟨rfl, x2⟩
      go_wp2_with fail
      go_ret
      exact ⟨rfl, y1.trans x2⟩
    | true =>
      rw [hw] at HW hko
      have LL := Lib.hid (lead_left (k := y.key) (x := y.val) (g := y.tag) (a := a) (b := b) hko)
      have LR := Lib.hid (lead_right (k := y.key) (x := y.val) (g := y.tag) (a := a) (b := b) hko)
      generalize lead (seqW o (.node y.key y.val y.tag a b) L.reverse) = N at *
      generalize lead (seqW o a ((y.key, false) :: L.reverse)) = n1 at *
      generalize lead (seqW o b ((y.key, true) :: L.reverse)) = n2 at *
      have HZ := Lib.hid hza
      have hn1 : n1 ≤ 100000 := by omega
      have hn2 : n2 ≤ 100000 := by omega
      clear hko hw hza na nb
      go_enter Try.func165, Try.ntmps165
      go_wp2_with fail
      refine (HP.out _ (Ext.refl w)).mono ?_; rintro e w1 ⟨va, vb, rfl, ha, hb, x1⟩
      have ha0 := ha
      obtain ⟨A3, c3, rfl, hc3, _⟩ := ha0
      clear hc3
      have b1 := Blk.new w1 138 #[.int .i64 y.key, .int .i64 y.val, .int .i64 y.sum, .int .i64 y.size, .int .u64 y.tag, .bool y.left, .bool y.right]
      have c1 := b1.cell 0
      have y1 := x1.alloc (.cells #[.int .i64 y.key, .int .i64 y.val, .int .i64 y.sum, .int .i64 y.size, .int .u64 y.tag, .bool y.left, .bool y.right] 138)
      go_wp2_with fail
      refine (HW.out _ y1).mono ?_; rintro e w2 ⟨rfl, x2⟩
      have b2 := b1.ext x2
      have y2 := y1.trans x2
      have HA := Lib.hid (fun (W : World) (X : Ext w2 W) => ha.ext (y2.trans X))
      have HB := Lib.hid (fun (W : World) (X : Ext w2 W) => hb.ext (y2.trans X))
      generalize w1.heap.size = p at *
      go_wp2_with fail
      have HC : Hid (∀ W : World, Ext w2 W → W.cell? ⟨p, 0, none⟩ = some (.int .i64 y.key)) := Lib.hid (fun W X => (b2.ext X).cell 0)
      have HY := Lib.hid y2
      have y0 := Ext.refl w2
      have UU : Hid (∀ W : World, Ext w2 W → Sl EBd W (.slice A2 L.length c2) L) := Lib.hid (fun W X => HU.out W (HY.out.trans X))
      have yl := (Ext.alloc y0 (.cells #[.int .i64 y.key, .bool false] 223)).drew
      clear b1 b2 c1 y1 y2 x1 x2 ha hb
      have G1 := Lib.hid (Ext.refl w2)
      go_region_held3 (fun W => W.cell? ⟨p, 0, none⟩ = some (.int .i64 y.key)) (first | exact HC.out _ (G1.out.trans y0) | exact HC.out _ (G1.out.trans (Ext.drew y0)) | exact HC.out _ (G1.out.trans (Ext.alloc y0 _)) | exact HC.out _ (G1.out.trans yl))
        (first
          | (rw [if_pos (by rfl)]
             (refine wp_app bdE (v := .slice none 0 0) (base := w2.heap.size) (.const (.slice none 0 0)) (.tmp 27) rfl rfl rfl (Own.nil_ _ _ _) (by first | exact UU.out _ (G1.out.trans y0) | exact UU.out _ (G1.out.trans (Ext.drew y0))) ?hmp1 ?hmp2 (by first | exact y0.size | exact (Ext.drew y0).size) ?_
              (case hmp1 => simp only [maxLen, List.length_nil]; omega)
              (case hmp2 => simp only [List.length_nil]; omega)
              intro v4 w4 o4 a4
              have y0 := AppTo.ext (a := w2) a4 (by first | exact y0 | exact Ext.drew y0) (Own.nil_ (enc := EBd) (sz := 2) _ 223 _)
              have hgk := True.intro))
          | (rw [if_pos (by rfl)]
             (refine wp_app bdE (v := .slice none 0 0) (base := w2.heap.size) (.const (.slice none 0 0)) (.tmp 27) rfl rfl rfl (Own.nil_ _ _ _) (UU.out _ (G1.out.trans yl)) ?hmp3 ?hmp4 yl.size ?_
              (case hmp3 => simp only [maxLen, List.length_nil]; omega)
              (case hmp4 => simp only [List.length_nil]; omega)
              intro v4 w4 o4 a4
              have sl := (lit_sl (enc := EBd) (w := w2) (cs := #[.int .i64 y.key, .bool false]) (e := 223) (y.key, false) rfl).ext ((Ext.refl _).drew.trans (AppTo.ext a4 (Ext.refl _) (Own.nil_ (enc := EBd) (sz := 2) _ 223 _)))
              have y0 := AppTo.ext (a := w2) a4 yl (Own.nil_ (enc := EBd) (sz := 2) _ 223 _)
              have hgj := True.intro))
          | (have hgd := hgj
             rw [if_pos (by rfl)]
             (refine wp_app bdE (v := v4) (.tmp 28) (.tmp 32) rfl rfl rfl o4 sl ?hmp5 ?hmp6 y0.size ?_
              (case hmp5 => simp only [maxLen, List.length_append, List.length_nil, List.length_singleton]; omega)
              (case hmp6 => simp only [List.length_append, List.length_nil, List.length_singleton]; omega)
              intro v6 w6 o6 a6
              have y0 := AppTo.ext a6 y0 o4))
          | (have hgd := hgk
             rw [if_pos (by rfl)]
             (refine wp_app bdE (v := v4) (.tmp 28) (.tmp 32) rfl rfl rfl (o4.ext ((Ext.refl _).alloc _)) (lit_sl (enc := EBd) (y.key, false) rfl) ?hmp7 ?hmp8 (y0.alloc _).size ?_
              (case hmp7 => simp only [maxLen, List.length_append, List.length_nil, List.length_singleton]; omega)
              (case hmp8 => simp only [List.length_append, List.length_nil, List.length_singleton]; omega)
              intro v6 w6 o6 a6
              have y0 := AppTo.ext a6 (y0.alloc _) (o4.ext ((Ext.refl _).alloc _))))
          | (go_at_call 165; (refine (IA.out _ (.slice A3 la.length c3) _ (by first | exact HA.out _ (G1.out.trans y0) | exact HA.out _ (G1.out.trans (Ext.drew y0))) ((o6.sl EBd_len (by omega)).ext (by first | exact Ext.refl _ | exact (Ext.refl _).drew))).mono ?_; rintro e w7 ⟨rfl, x7⟩; have y7 := Ext.trans (by first | exact y0 | exact Ext.drew y0) x7; have y0 := y7))
          | fail)
      all_goals
        have G2 := Lib.hid y7
        have y0 := Ext.refl w7
        have yl := (Ext.alloc y0 (.cells #[.int .i64 y.key, .bool true] 223)).drew
        clear y7 x7
        by_cases hlt : n1 < la.length
        · have hres := LL.out (by have := HZ.out; omega)
          have HR := Lib.hid hres
          clear hres
          have hlt2 : (n1 : Int) < (la.length : Int) := by omega
          go_wp2_with fail
          go_ret
          exact ⟨by rw [HR.out]; rfl, HY.out.trans G2.out⟩
        · have hres := LR.out (by have := HZ.out; omega)
          have HR := Lib.hid hres
          clear hres
          have hlt2 : ¬ (n1 : Int) < (la.length : Int) := by omega
          go_wp2_with fail
          have g1 : IntKind.i64.wrap (1 + (n1 : Int)) = 1 + (n1 : Int) := IntWalk.i64_in _ (by omega)
          have g2 : IntKind.i64.wrap (1 + (n1 : Int) + (n2 : Int)) = 1 + (n1 : Int) + (n2 : Int) := IntWalk.i64_in _ (by omega)
          go_region_held3 (fun W => W.cell? ⟨p, 0, none⟩ = some (.int .i64 y.key)) (first | exact HC.out _ (G2.out.trans y0) | exact HC.out _ (G2.out.trans (Ext.drew y0)) | exact HC.out _ (G2.out.trans (Ext.alloc y0 _)) | exact HC.out _ (G2.out.trans yl))
            (first
              | (rw [if_pos (by rfl)]
                 (refine wp_app bdE (v := .slice none 0 0) (base := w7.heap.size) (.const (.slice none 0 0)) (.tmp 45) rfl rfl rfl (Own.nil_ _ _ _) (by first | exact UU.out _ (G2.out.trans y0) | exact UU.out _ (G2.out.trans (Ext.drew y0))) ?hmq1 ?hmq2 (by first | exact y0.size | exact (Ext.drew y0).size) ?_
                  (case hmq1 => simp only [maxLen, List.length_nil]; omega)
                  (case hmq2 => simp only [List.length_nil]; omega)
                  intro v4 w4 o4 a4
                  have y0 := AppTo.ext (a := w7) a4 (by first | exact y0 | exact Ext.drew y0) (Own.nil_ (enc := EBd) (sz := 2) _ 223 _)
                  have hgk := True.intro))
              | (rw [if_pos (by rfl)]
                 (refine wp_app bdE (v := .slice none 0 0) (base := w7.heap.size) (.const (.slice none 0 0)) (.tmp 45) rfl rfl rfl (Own.nil_ _ _ _) (UU.out _ (G2.out.trans yl)) ?hmq3 ?hmq4 yl.size ?_
                  (case hmq3 => simp only [maxLen, List.length_nil]; omega)
                  (case hmq4 => simp only [List.length_nil]; omega)
                  intro v4 w4 o4 a4
                  have sl := (lit_sl (enc := EBd) (w := w7) (cs := #[.int .i64 y.key, .bool true]) (e := 223) (y.key, true) rfl).ext ((Ext.refl _).drew.trans (AppTo.ext a4 (Ext.refl _) (Own.nil_ (enc := EBd) (sz := 2) _ 223 _)))
                  have y0 := AppTo.ext (a := w7) a4 yl (Own.nil_ (enc := EBd) (sz := 2) _ 223 _)
                  have hgj := True.intro))
              | (have hgd := hgj
                 rw [if_pos (by rfl)]
                 (refine wp_app bdE (v := v4) (.tmp 46) (.tmp 50) rfl rfl rfl o4 sl ?hmq5 ?hmq6 y0.size ?_
                  (case hmq5 => simp only [maxLen, List.length_append, List.length_nil, List.length_singleton]; omega)
                  (case hmq6 => simp only [List.length_append, List.length_nil, List.length_singleton]; omega)
                  intro v6 w6 o6 a6
                  have y0 := AppTo.ext a6 y0 o4))
              | (have hgd := hgk
                 rw [if_pos (by rfl)]
                 (refine wp_app bdE (v := v4) (.tmp 46) (.tmp 50) rfl rfl rfl (o4.ext ((Ext.refl _).alloc _)) (lit_sl (enc := EBd) (y.key, true) rfl) ?hmq7 ?hmq8 (y0.alloc _).size ?_
                  (case hmq7 => simp only [maxLen, List.length_append, List.length_nil, List.length_singleton]; omega)
                  (case hmq8 => simp only [List.length_append, List.length_nil, List.length_singleton]; omega)
                  intro v6 w6 o6 a6
                  have y0 := AppTo.ext a6 (y0.alloc _) (o4.ext ((Ext.refl _).alloc _))))
              | (go_at_call 165; (refine (IB.out _ vb _ (by first | exact HB.out _ (G2.out.trans y0) | exact HB.out _ (G2.out.trans (Ext.drew y0))) ((o6.sl EBd_len (by omega)).ext (by first | exact Ext.refl _ | exact (Ext.refl _).drew))).mono ?_; rintro e w8 ⟨rfl, x8⟩; have y8 := Ext.trans (by first | exact y0 | exact Ext.drew y0) x8; have y0 := y8))
              | fail)
          all_goals
            clear g1 g2
            go_wp2_with fail
            go_ret
            exact ⟨by rw [HR.out]; simp, HY.out.trans (G2.out.trans y8)⟩
theorem is02_any {o : Nat} (h1 : 1 ≤ o) (h2 : o ≤ 7) (w : World) : Calls Try.prog 164 #[.int .u8 (o : Int)] w fun e w' => e = .returned (.bool true) ∧ w = w' := by
  have IS : Calls Try.prog 103 #[.int .u8 (o : Int)] w fun e w' => e = .returned (.bool true) ∧ w = w' := by
    have d1 : (1 : Int) ≤ (o : Int) := by omega
    have d2 : (o : Int) ≤ 7 := by omega
    go_enter Try.func103, Try.ntmps103
    go_wp2_with fail
    go_ret
    exact ⟨by simp [*], rfl⟩
  go_enter Try.func164, Try.ntmps164
  go_wp2_with fail
  refine IS.mono ?_; rintro e w' ⟨rfl, rfl⟩
  go_wp2_with fail
  go_ret
  exact ⟨rfl, rfl⟩
theorem is02_no {o : Int} (h : ¬ (1 ≤ o ∧ o ≤ 7)) (w : World) : Calls Try.prog 164 #[.int .u8 o] w fun e w' => e = .returned (.bool false) ∧ w = w' := by
  have IS : Calls Try.prog 103 #[.int .u8 o] w fun e w' => e = .returned (.bool false) ∧ w = w' := by
    by_cases d1 : (1 : Int) ≤ o
    · have d2 : ¬ o ≤ 7 := by omega
      clear h
      go_enter Try.func103, Try.ntmps103
      go_wp2_with fail
      go_ret
      exact ⟨by simp [*], rfl⟩
    · clear h
      go_enter Try.func103, Try.ntmps103
      go_wp2_with fail
      go_ret
      exact ⟨by simp [*], rfl⟩
  clear h
  go_enter Try.func164, Try.ntmps164
  go_wp2_with fail
  refine IS.mono ?_; rintro e w' ⟨rfl, rfl⟩
  go_wp2_with fail
  go_ret
  exact ⟨rfl, rfl⟩
set_option maxRecDepth 100000 in
set_option maxHeartbeats 4000000 in
theorem refCheck_any {o : Nat} (h1 : 1 ≤ o) (h2 : o ≤ 7) {t : T} {l : List Bead} {v : Value} {w : World} (h : Sl Bead.enc w v l) (hs : Ser l t) (hh : t.height ≤ 5001) (hm : l.length ≤ 100000) (hk : KeysR t) :
    Calls Try.prog 107 #[.int .u8 (o : Int), v] w fun e w' => e = .returned (.tuple #[.int .i64 (chkA o t : Int), .int .i64 (chkE o t)]) ∧ Ext w w' := by
  have FA := first_any h1 h2 t (L := []) (u := .slice none 0 0) h hs hh hm (Own.sl EBd_len (by omega) (Own.nil_ (enc := EBd) (sz := 2) w 223 w.heap.size)) (by simp; omega) (by simp) hk
  have IS := is02_any h1 h2 w
  rw [List.reverse_nil] at FA
  change Calls _ _ _ _ (fun e w' => e = .returned (.int .i64 (chkA o t : Nat)) ∧ Ext w w') at FA
  have hl := hs.length
  have hA := chk_ok o t
  have hA2 : chkA o t ≤ t.size := lead_sz o t []
  have hE : chkE o t = if chkA o t < l.length then 120 else 0 := by
    unfold chkE
    by_cases hr : Rise o t.keys
    · rw [if_pos hr, if_neg (by have := hA.2 hr; omega)]
    · rw [if_neg hr, if_pos (by have : ¬ chkA o t = t.size := fun h => hr (hA.1 h); omega)]
  generalize chkA o t = m at *
  obtain ⟨A, c, rfl, hc, hr⟩ := h
  by_cases hlt : m < l.length
  · rw [if_pos hlt] at hE
    rw [hE]
    have hlt2 : (m : Int) < (l.length : Int) := by omega
    clear hE hA hA2 hs hl hr hc
    go_enter Try.func107, Try.ntmps107
    go_wp2_with fail
    refine IS.mono ?_; rintro e w' ⟨rfl, rfl⟩
    go_wp2_with fail
    refine FA.mono ?_; rintro e w1 ⟨rfl, x1⟩
    go_wp2_with fail
    refine bodyPost_ret (v := .tuple #[.int .i64 (m : Int), .int .i64 120]) (by simp [results, Try.results107, go_sem]) rfl ?_
    exact ⟨rfl, x1⟩
  · rw [if_neg hlt] at hE
    rw [hE]
    have hlt2 : ¬ (m : Int) < (l.length : Int) := by omega
    clear hE hA hA2 hs hl hr hc
    go_enter Try.func107, Try.ntmps107
    go_wp2_with fail
    refine IS.mono ?_; rintro e w' ⟨rfl, rfl⟩
    go_wp2_with fail
    refine FA.mono ?_; rintro e w1 ⟨rfl, x1⟩
    go_wp2_with fail
    refine bodyPost_ret (v := .tuple #[.int .i64 (m : Int), .int .i64 0]) (by simp [results, Try.results107, go_sem]) rfl ?_
    exact ⟨rfl, x1⟩
theorem refCheck_bad {o : Int} {v : Value} {w : World} (h : ¬ (1 ≤ o ∧ o ≤ 7)) : Calls Try.prog 107 #[.int .u8 o, v] w fun e w' => e = .returned (.tuple #[.int .i64 0, .int .i64 2]) ∧ Ext w w' := by
  have IS := is02_no h w
  clear h
  go_enter Try.func107, Try.ntmps107
  go_wp2_with fail
  refine IS.mono ?_; rintro e w' ⟨rfl, rfl⟩
  go_wp2_with fail
  refine bodyPost_ret (v := .tuple #[.int .i64 0, .int .i64 2]) (by simp [results, Try.results107, go_sem]) rfl ?_
  exact ⟨rfl, Ext.refl w⟩
end Go.Proofs.Ytlehcagpddgamaa
