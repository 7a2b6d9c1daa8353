/- joineryref20: Of. -/
import Derived.Test.YtlehcagpddgamaaTreapF
namespace Go.Proofs.Ytlehcagpddgamaa
open Go.RowKit

theorem best_up {l : List Item} {i : Nat} {x y : Item} (h : 1 ≤ i) (hx : l[i]? = some x) (hy : l[best l (i - 1)]? = some y) : best l (i + 1 - 1) = if above x y then i else best l (i - 1) := by
  obtain ⟨q, rfl⟩ : ∃ q, i = q + 1 := ⟨i - 1, by omega⟩
  rw [Nat.add_sub_cancel] at *
  rw [best]
  simp [List.getD, hx, hy]

set_option maxRecDepth 100000 in
set_option maxHeartbeats 8000000 in
theorem refOfI_any (n : Nat) : ∀ {l : List Item} {v : Value} {w : World}, l.length = n → Sl Item.enc w v l → l.length ≤ 4000 →
    Calls Try.prog 91 #[v] w (Gives (fun v' w' => Own Bead.enc 138 7 w.heap.size w' v' (bOf (ofI l))) w) := by
  induction n using Nat.strongRecOn with
  | _ n ih =>
    intro l v w hn h hm
    by_cases h0 : l = []
    · subst h0
      obtain ⟨A, c, rfl, hc, hr⟩ := h
      go_enter Try.func91, Try.ntmps91
      go_wp2_with fail
      go_ret
      exact ⟨_, rfl, Ext.refl w, Own.nil_ w _ _⟩
    have hsl := h
    obtain ⟨A, c, rfl, hc, hr⟩ := h
    obtain ⟨b, off, rfl, hb, hcs⟩ := id hr h0
    obtain ⟨k, x, hk, hkl, hxk, hof⟩ := ofI_best h0
    have hlen : 0 < l.length := List.length_pos_iff.2 h0
    have hz : ((l.length : Int) == 0) = false := by simp; exact h0
    have hcell : ∀ (W : World) (i : Nat) (z : Item), Ext w W → l[i]? = some z → W.cell? ⟨b, off + i * 3, none⟩ = some (.int .i64 z.key) ∧ W.cell? ⟨b, off + i * 3 + 1, none⟩ = some (.int .i64 z.val) ∧ W.cell? ⟨b, off + i * 3 + 2, none⟩ = some (.int .u64 z.tag) := fun W i z X hz => item_cells (hcs.ext X hb) hz
    have HC := Lib.hid hcell
    clear hcell hcs
    have HX := Lib.hid hxk
    have HO := Lib.hid hof
    have HK := Lib.hid hk
    have HR := Lib.hid hr
    have HS := Lib.hid hsl
    have HN := Lib.hid hn
    have IH := Lib.hid ih
    clear hxk hof hk hr hsl hn ih
    go_enter Try.func91, Try.ntmps91
    go_wp2_with fail
    go_loopw [3, 4] (fun k i wr => ∃ q : Nat, 1 ≤ q ∧ q ≤ l.length ∧ i = .int .i64 (q : Int) ∧ k = .int .i64 ((best l (q - 1) : Nat) : Int) ∧ Ext w wr) (fun _ i _ => l.length - (intOf i).toNat)
    case atStart => exact ⟨1, Nat.le_refl _, hlen, rfl, rfl, Ext.refl w⟩
    case round =>
      obtain ⟨q, hq1, hq, rfl, rfl, hx⟩ := hrel
      by_cases hlt : q < l.length
      · have hbl := best_le l (q - 1)
        have h1 : l[q]? = some l[q] := List.getElem?_eq_getElem hlt
        have h2 : l[best l (q - 1)]? = some (l[best l (q - 1)]'(by omega)) := List.getElem?_eq_getElem (by omega)
        generalize l[q] = y at h1
        generalize l[best l (q - 1)]'(by omega) = z at h2
        have hb2 := best_up hq1 h1 h2
        have hcc : ∀ W : World, Ext w W → (W.cell? ⟨b, off + q * 3, none⟩ = some (.int .i64 y.key) ∧ W.cell? ⟨b, off + q * 3 + 1, none⟩ = some (.int .i64 y.val) ∧ W.cell? ⟨b, off + q * 3 + 2, none⟩ = some (.int .u64 y.tag)) ∧
            (W.cell? ⟨b, off + best l (q - 1) * 3, none⟩ = some (.int .i64 z.key) ∧ W.cell? ⟨b, off + best l (q - 1) * 3 + 1, none⟩ = some (.int .i64 z.val) ∧ W.cell? ⟨b, off + best l (q - 1) * 3 + 2, none⟩ = some (.int .u64 z.tag)) := fun W X => ⟨HC.out W _ _ X h1, HC.out W _ _ X h2⟩
        have hbl2 : ((best l (q - 1) : Nat) : Int) < (l.length : Int) := by omega
        have hbl3 : best l (q - 1) < l.length := by omega
        have hlt3 : (q : Int) < (l.length : Int) := by omega
        have HCC := Lib.hid hcc
        have HB := Lib.hid hb2
        have HY := Lib.hid hx
        have y0 := Ext.refl wr
        clear hcc hb2 hx h1 h2 hbl
        generalize best l (q - 1) = k0 at *
        cases hab : above ⟨y.key, y.val, y.tag⟩ ⟨z.key, z.val, z.tag⟩ with
        | true =>
          have hca := fun W => refAbove_raw y.key y.val y.tag z.key z.val z.tag W
          rw [hab] at hca
          have HA := Lib.hid hab
          clear hab
          go_wp2_with fail
          go_region_held3 (fun W => (W.cell? ⟨b, off + q * 3, none⟩ = some (.int .i64 y.key) ∧ W.cell? ⟨b, off + q * 3 + 1, none⟩ = some (.int .i64 y.val) ∧ W.cell? ⟨b, off + q * 3 + 2, none⟩ = some (.int .u64 y.tag)) ∧
            (W.cell? ⟨b, off + k0 * 3, none⟩ = some (.int .i64 z.key) ∧ W.cell? ⟨b, off + k0 * 3 + 1, none⟩ = some (.int .i64 z.val) ∧ W.cell? ⟨b, off + k0 * 3 + 2, none⟩ = some (.int .u64 z.tag))) (first | exact HCC.out _ (HY.out.trans y0) | exact HCC.out _ (HY.out.trans (Ext.drew y0)))
            (first
              | (go_at_call 90; refine (hca _).mono ?_; rintro e wa ⟨rfl, xa⟩; have y0 := (by first | exact Ext.trans y0 xa | exact (Ext.drew y0).trans xa)))
          go_wp2_with fail
          exact ⟨⟨q + 1, by omega, by omega, by go_num, congrArg (Value.int .i64) (by rw [HB.out, if_pos HA.out]), HY.out.trans y0⟩, by simp [intOf]; omega⟩
        | false =>
          have hca := fun W => refAbove_raw y.key y.val y.tag z.key z.val z.tag W
          rw [hab] at hca
          have HA := Lib.hid hab
          clear hab
          go_wp2_with fail
          go_region_held3 (fun W => (W.cell? ⟨b, off + q * 3, none⟩ = some (.int .i64 y.key) ∧ W.cell? ⟨b, off + q * 3 + 1, none⟩ = some (.int .i64 y.val) ∧ W.cell? ⟨b, off + q * 3 + 2, none⟩ = some (.int .u64 y.tag)) ∧
            (W.cell? ⟨b, off + k0 * 3, none⟩ = some (.int .i64 z.key) ∧ W.cell? ⟨b, off + k0 * 3 + 1, none⟩ = some (.int .i64 z.val) ∧ W.cell? ⟨b, off + k0 * 3 + 2, none⟩ = some (.int .u64 z.tag))) (first | exact HCC.out _ (HY.out.trans y0) | exact HCC.out _ (HY.out.trans (Ext.drew y0)))
            (first
              | (go_at_call 90; refine (hca _).mono ?_; rintro e wa ⟨rfl, xa⟩; have y0 := (by first | exact Ext.trans y0 xa | exact (Ext.drew y0).trans xa)))
          go_wp2_with fail
          exact ⟨⟨q + 1, by omega, by omega, by go_num, congrArg (Value.int .i64) (by rw [HB.out, if_neg (by rw [HA.out]; decide)]), HY.out.trans y0⟩, by simp [intOf]; omega⟩
      · have hq2 : q = l.length := by omega
        subst hq2
        rw [← HK.out]
        obtain ⟨i0, z0, hi, _, hsz, _⟩ := itemE.info
        have hcut1 := run_cut_h (P := Try.prog) itemE.ht hi hsz (some ⟨b, off, none⟩) (n := l.length) (c := c) (k : Int) k rfl (by omega)
        have hcut2 := run_cut_l (P := Try.prog) itemE.ht hi hsz (some ⟨b, off, none⟩) (n := l.length) (c := c) ((k : Int) + 1) (k + 1) (by omega) (by omega)
        have hr2 := HR.out.cut Item.enc_len (k + 1) hc
        rw [cutA_zero] at hcut1
        generalize cutA 3 (some ⟨b, off, none⟩) c (k + 1) = A2 at hcut2 hr2
        have s1 : Sl Item.enc w (.slice (some ⟨b, off, none⟩) k c) (l.take k) := ⟨_, c, by rw [List.length_take, Nat.min_eq_left (by omega)], by rw [List.length_take]; omega, HR.out.take k⟩
        have s2 : Sl Item.enc w (.slice A2 (l.length - (k + 1)) (c - (k + 1))) (l.drop (k + 1)) := ⟨A2, c - (k + 1), by rw [List.length_drop], by rw [List.length_drop]; omega, hr2⟩
        have I1 := fun (W : World) (X : Ext w W) => IH.out (l.take k).length (by have := HN.out; rw [List.length_take]; omega) rfl (s1.ext X) (by rw [List.length_take]; omega)
        have I2 := fun (W : World) (X : Ext w W) => IH.out (l.drop (k + 1)).length (by have := HN.out; rw [List.length_drop]; omega) rfl (s2.ext X) (by rw [List.length_drop]; omega)
        have z1 : (ofI (l.take k)).size ≤ 4000 := by rw [ofI_size, List.length_take]; omega
        have z2 : (ofI (l.drop (k + 1))).size ≤ 4000 := by rw [ofI_size, List.length_drop]; omega
        have hcc : ∀ W : World, Ext w W → W.cell? ⟨b, off + k * 3, none⟩ = some (.int .i64 x.key) ∧ W.cell? ⟨b, off + k * 3 + 1, none⟩ = some (.int .i64 x.val) ∧ W.cell? ⟨b, off + k * 3 + 2, none⟩ = some (.int .u64 x.tag) := fun W X => HC.out W _ _ X HX.out
        have hkl2 : (k : Int) < (l.length : Int) := by omega
        have hwr : IntKind.i64.wrap ((k : Int) + 1) = (k : Int) + 1 := by rw [IntKind.wrap_i64]; omega
        have HCC := Lib.hid hcc
        have HY := Lib.hid hx
        have HI1 := Lib.hid I1
        have HI2 := Lib.hid I2
        have y0 := Ext.refl wr
        generalize hta : ofI (l.take k) = ta at *
        generalize htb : ofI (l.drop (k + 1)) = tb at *
        have ha9 := ta.height_le_size
        have hb9 := tb.height_le_size
        generalize l.length - (k + 1) = n2 at *
        generalize c - (k + 1) = c3 at *
        clear hcc hx I1 I2 s1 s2 hr2 hi hsz hta htb hq hlt
        go_wp2_with fail
        go_region_held3 (fun W => W.cell? ⟨b, off + k * 3, none⟩ = some (.int .i64 x.key) ∧ W.cell? ⟨b, off + k * 3 + 1, none⟩ = some (.int .i64 x.val) ∧ W.cell? ⟨b, off + k * 3 + 2, none⟩ = some (.int .u64 x.tag)) (first | exact HCC.out _ (HY.out.trans y0) | exact HCC.out _ (HY.out.trans (Ext.drew y0)))
          (first
            | (go_at_call_of 91 (Value.slice (some ⟨b, off, none⟩) k c); refine (HI1.out _ (by first | exact HY.out.trans y0 | exact HY.out.trans (Ext.drew y0))).mono ?_; rintro e w4 ⟨v4, rfl, x4, o4⟩; have y0 := (by first | exact Ext.trans y0 x4 | exact (Ext.drew y0).trans x4))
            | (go_at_call_of 91 (Value.slice A2 n2 c3); refine (HI2.out _ (HY.out.trans y0)).mono ?_; rintro e w5 ⟨v5, rfl, x5, o5⟩; have o4 := o4.ext x5; have y0 := Ext.trans y0 x5)
            | (go_at_call 39; refine (nodeB_any x.key x.val x.tag (o4.sl Bead.enc_len (by omega)) (ofT_ser _ _) (o5.sl Bead.enc_len (by omega)) (ofT_ser _ _) (by omega) (by omega) (by rw [bOf_length]; omega) (by rw [bOf_length]; omega)).mono ?_; rintro e w6 ⟨v6, rfl, x6, o6⟩; have hz6 := Nat.le_trans HY.out.size y0.size; have y0 := Ext.trans y0 x6))
        go_wp2_with fail
        go_ret
        exact ⟨_, rfl, HY.out.trans y0, by rw [HO.out]; exact Own.mono o6 hz6⟩
end Go.Proofs.Ytlehcagpddgamaa
