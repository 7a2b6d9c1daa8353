/- Contracts of joinerylaw09: see, See, Is. -/
import Derived.Test.YtgpegcjgmoiglaaDoorOf
namespace Go.Proofs.YtgpegcjgmoiglaaDoor
open Go.RowKit

/-- The bead of a root. -/
def headB (k x g : Int) (a b : T) : Bead := { key := k, val := x, sum := wrap64 (T.sum (.node k x g a b)), size := (T.size (.node k x g a b) : Nat), tag := g, left := a.some, right := b.some }
theorem bOf_node (k x g : Int) (a b : T) : bOf (.node k x g a b) = headB k x g a b :: (bOf a ++ bOf b) := rfl

set_option maxHeartbeats 2000000 in
theorem see_any (w0 : World) (t : T) : ∀ {v vl : Value} {w : World} {l : List Bead} {d : Nat} {id : Int}, Tr w0 v t → Ext w0 w → Own Bead.enc 44 7 w0.heap.size w vl l → id = d →
    l.length + t.size ≤ 5000 → d + t.height ≤ 2000 →
    Calls Tryd.prog 63 #[v, vl, .int .i64 id] w fun e w' => ∃ vl', e = .returned (.tuple #[vl', .bool true]) ∧ Own Bead.enc 44 7 w0.heap.size w' vl' (l ++ bOf t) ∧ Ext w0 w' := by
  induction t with
  | nil =>
    rintro v vl w l d id h x o rfl _ _
    obtain rfl : v = .pointer none := h
    go_enter Tryd.func63, Tryd.ntmps63
    go_wp2_with fail
    go_ret2
    exact ⟨_, rfl, by simpa [bOf, ofT] using o, x⟩
  | node k x g a b iha ihb =>
    rintro v vl w l d id h xw o rfl hl hd
    simp only [T.size] at hl
    simp only [T.height] at hd
    have hsl := o.sl Bead.enc_len (by omega)
    obtain ⟨AA, cc, rfl, hcc, hrr⟩ := hsl
    have hv := h
    obtain ⟨bn, ua, ub, rfl, hat, hta, htb⟩ := h
    obtain ⟨pa, rfl⟩ := hta.ptr
    obtain ⟨pb, rfl⟩ := htb.ptr
    have hz : decide ((5000 : Int) < (l.length : Int)) = false := by simp; omega
    have hz2 : decide ((2000 : Int) < (d : Int)) = false := by simp; omega
    have hna := neq_nil hta
    have hnb := neq_nil htb
    have hks := kept_key
    have hsz : (T.size (.node k x g a b) : Int) ≤ 5000 := by simp only [T.size]; omega
    have hw64 : wrap64 (T.size (.node k x g a b) : Int) = (T.size (.node k x g a b) : Int) := by unfold wrap64; omega
    have HW := Lib.hid hw64
    clear hw64 hks
    go_enter Tryd.func63, Tryd.ntmps63
    go_wp2_with fail
    refine (key_any (hv.ext xw)).mono ?_; rintro e w1 ⟨rfl, x1⟩
    go_wp2_with fail
    refine (val_any (hv.ext (xw.trans x1))).mono ?_; rintro e w2 ⟨rfl, x2⟩
    go_wp2_with fail
    refine (tag_any (hv.ext ((xw.trans x1).trans x2))).mono ?_; rintro e w3 ⟨rfl, x3⟩
    go_wp2_with fail
    refine (size_any (hv.ext (((xw.trans x1).trans x2).trans x3))).mono ?_; rintro e w4 ⟨rfl, x4⟩
    go_wp2_with fail
    refine (sum_any (hv.ext ((((xw.trans x1).trans x2).trans x3).trans x4))).mono ?_; rintro e w5 ⟨rfl, x5⟩
    go_wp2_with fail
    have y5 : Ext w w5 := (((x1.trans x2).trans x3).trans x4).trans x5
    refine (left_at (hat.ext (xw.trans y5))).mono ?_; rintro e w' ⟨rfl, rfl⟩
    go_wp2_with fail
    refine (right_at (hat.ext (xw.trans y5))).mono ?_; rintro e w' ⟨rfl, rfl⟩
    have xa : ∀ ob, Ext w0 (w5.alloc ob) := fun ob => (xw.trans y5).alloc ob
    have hlit : ∀ W : World, Sl Bead.enc (W.alloc (.cells #[.int .i64 k, .int .i64 x, .int .i64 (wrap64 (T.sum (.node k x g a b))), .int .i64 (wrap64 (T.size (.node k x g a b) : Nat)), .int .u64 g, .bool a.some, .bool b.some] 44)) (.slice (some ⟨W.heap.size, 0, none⟩) 1 1) [headB k x g a b] :=
      fun W => lit_sl (enc := Bead.enc) (headB k x g a b) (by simp only [Bead.enc, headB]; rw [HW.out])
    go_wp2_with (at_builtin; go_must (refine wpList_app beadE rfl (.tmp 20) (.tmp 38) rfl (v := .slice AA l.length cc) (u := .slice (some ⟨w5.heap.size, 0, none⟩) 1 1) (base := w0.heap.size) rfl rfl (o.ext (y5.alloc _)) (hlit _) ?hm1 ?hm2 (xa _).size ?_); (case hm1 => simp only [maxLen, List.length_singleton]; omega); (case hm2 => simp only [List.length_singleton]; omega); intro v6 w6 o6 a6; have x6 : Ext w0 w6 := AppTo.ext a6 (xa _) (o.ext (y5.alloc _)))
    refine (left_at (hat.ext x6)).mono ?_; rintro e w' ⟨rfl, rfl⟩
    go_wp2_with fail
    refine (iha hta x6 o6 (d := d + 1) (by omega) (by simp only [List.length_append, List.length_singleton]; omega) (by omega)).mono ?_; rintro e w7 ⟨v7, rfl, o7, x7⟩
    go_wp2_with fail
    refine (right_at (hat.ext x7)).mono ?_; rintro e w' ⟨rfl, rfl⟩
    go_wp2_with fail
    refine (ihb htb x7 o7 (d := d + 1) (by omega) (by simp only [List.length_append, List.length_singleton, bOf_length]; omega) (by omega)).mono ?_; rintro e w8 ⟨v8, rfl, o8, x8⟩
    go_wp2_with fail
    go_ret2
    exact ⟨v8, rfl, by rw [bOf_node]; simpa using o8, x8⟩

theorem See_any {t : T} {v : Value} {w : World} (h : Tr w v t) (hs : t.size ≤ 2000) :
    Calls Tryd.prog 46 #[v] w fun e w' => ∃ vl', e = .returned (.tuple #[vl', .bool true]) ∧ Own Bead.enc 44 7 w.heap.size w' vl' (bOf t) ∧ Ext w w' := by
  have hh := t.height_le_size
  go_enter Tryd.func46, Tryd.ntmps46
  go_wp2_with fail
  refine (see_any w t h (Ext.refl w) (Own.nil_ w _ _) (d := 0) rfl (by simp; omega) (by omega)).mono ?_; rintro e w1 ⟨v1, rfl, o1, x1⟩
  go_wp2_with fail
  go_ret2
  exact ⟨v1, rfl, by simpa using o1, x1⟩

theorem is_any {t : T} {v vl : Value} {l : List Bead} {w : World} (h : Tr w v t) (hs : t.size ≤ 2000) (hl : Sl Bead.enc w vl l) (hm : l.length ≤ 9223372036854775807) :
    Calls Tryd.prog 19 #[v, vl] w fun e w' => e = .returned (.bool (decide (bOf t = l))) ∧ Ext w w' := by
  go_enter Tryd.func19, Tryd.ntmps19
  go_wp2_with fail
  refine (See_any h hs).mono ?_; rintro e w1 ⟨v1, rfl, o1, x1⟩
  go_wp2_with fail
  refine (same_any (o1.sl Bead.enc_len (by omega)) (hl.ext x1) (by rw [bOf_length]; omega) hm).mono ?_; rintro e w2 ⟨rfl, x2⟩
  go_wp2_with fail
  go_ret
  exact ⟨rfl, x1.trans x2⟩
end Go.Proofs.YtgpegcjgmoiglaaDoor
