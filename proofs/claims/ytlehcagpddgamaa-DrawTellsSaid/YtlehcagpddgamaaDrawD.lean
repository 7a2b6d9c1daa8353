/- Package draw: Many of none; joineryref08: New, Next, Same. -/
import Derived.Test.YtlehcagpddgamaaDrawC
import Derived.Test.YtlehcagpddgamaaBead
namespace Go.Proofs.Ytlehcagpddgamaa
open Go.RowKit

set_option maxRecDepth 100000 in
set_option maxHeartbeats 4000000 in
theorem many_nil {w : World} {ks : List Int} {kv : Value} (hk : Sl EK w kv ks) (hm : ks.length ≤ 1000) :
    Calls Try.prog 57 #[.pointer none, kv] w fun e w' => ∃ v', e = .returned v' ∧ Ext w w' ∧ Own E64 29 1 w.heap.size w' v' (drawn [] ks) := by
  obtain ⟨A, c, rfl, hc, hr⟩ := hk
  go_enter Try.func57, Try.ntmps57
  go_wp2_with fail
  go_loopw [4, 9] (fun o i wr => ∃ k : Nat, k ≤ ks.length ∧ i = .int .i64 k ∧ Own E64 29 1 w.heap.size wr o (drawn [] (ks.take k)) ∧ Ext w wr) (fun _ i _ => ks.length - (intOf i).toNat)
  case atStart => exact ⟨0, Nat.zero_le _, rfl, Own.nil_ _ _ _, Ext.refl _⟩
  case round =>
    obtain ⟨k, hkl, rfl, o1, x1⟩ := hrel
    by_cases hlt2 : k < ks.length
    · obtain ⟨b, off, rfl, hb, hcs⟩ := hr (by intro h; rw [h] at hlt2; simp at hlt2)
      have hxk : ks[k]? = some ks[k] := List.getElem?_eq_getElem hlt2
      generalize ks[k] = x at hxk
      have cx : wr.cell? ⟨b, off + k, none⟩ = some (.int .i64 x) := by
        have h1 := Cells.elem EK_len hcs hxk 0 (.int .i64 x) rfl
        rw [Nat.mul_one, Nat.add_zero] at h1
        exact (x1.cell (p := ⟨b, off + k, none⟩) hb).trans h1
      have HX := Lib.hid hxk
      have HK := Lib.hid hm
      have hk9 : ks.length ≤ 1000 := hm
      have HO := Lib.hid o1
      have HG := Lib.hid x1
      clear hxk hm o1 hr hcs hb x1
      go_wp2_with fail
      refine (next_nil x _).mono ?_
      rintro e w2 ⟨rfl, x2⟩
      have o2 := HO.out.ext x2
      have z2 := HG.out.trans x2
      go_wp2_with (at_builtin; refine wpList_app (v := u4) u64E rfl (.tmp 13) (.tmp 17) rfl rfl rfl (o2.ext ((Ext.refl w2).alloc _)) (lit_sl ((ofB x).toNat : Int) rfl) ?h1 ?h2 (z2.alloc _).size ?_; (case h1 => have := HK.out; simp only [maxLen, drawn_length, List.length_take, List.length_singleton]; omega); (case h2 => have := HK.out; simp only [drawn_length, List.length_take, List.length_singleton]; omega); intro v3 w3 o3 a3)
      have x3 := AppTo.ext a3 (z2.alloc (.cells #[.int .u64 ((ofB x).toNat : Int)] 29)) (o2.ext ((Ext.refl w2).alloc _))
      have hd : drawn [] (ks.take (k + 1)) = drawn [] (ks.take k) ++ [((ofB x).toNat : Int)] := by
        rw [drawn_take HX.out]; simp [drawV]
      exact ⟨⟨k + 1, by omega, by go_num, hd ▸ o3, x3⟩, by simp [intOf]; omega⟩
    · obtain rfl : k = ks.length := by omega
      go_wp2_with fail
      go_ret
      exact ⟨_, rfl, x1, by simpa using o1⟩

/-- The document's draws: the struct in block D, the row behind it, below block U. -/
def RDr (w : World) (D Z : Nat) (l : List Int) : Prop := (∃ sv, Blk w D 55 #[sv] ∧ SlB E64 Z D w sv l) ∧ Z ≤ D
theorem RDr.chg {S : List Nat} {w w' : World} {D Z : Nat} {l : List Int} (h : RDr w D Z l) (k : Chg S w w') (hS : ∀ s ∈ S, s < Z ∨ D < s) : RDr w' D Z l := by
  obtain ⟨⟨sv, h1, h2⟩, h3⟩ := h
  refine ⟨⟨sv, k.blk h1 fun hm => ?_, h2.chg k fun s hs => ?_⟩, h3⟩
  · have := hS _ hm; omega
  · have := hS _ hs; omega
theorem RDr.ext {w w' : World} {D Z : Nat} {l : List Int} (h : RDr w D Z l) (k : Ext w w') : RDr w' D Z l := h.chg (k.chg []) (fun s hs => by simp at hs)
theorem RDr.lt {w : World} {D Z : Nat} {l : List Int} (h : RDr w D Z l) : D < w.heap.size := by
  obtain ⟨⟨sv, h1, _⟩, _⟩ := h
  exact h1.lt
theorem RDr.len {w : World} {D Z : Nat} {l : List Int} (h : RDr w D Z l) : ∃ A c, w.cell? ⟨D, 0, none⟩ = some (.slice A l.length c) := by
  obtain ⟨⟨sv, h1, A, c, rfl, _⟩, _⟩ := h
  exact ⟨A, c, h1.cell 0⟩

set_option maxRecDepth 100000 in
set_option maxHeartbeats 1000000 in
theorem refNewD_any {l : List Int} {v : Value} {w : World} (h : Sl E64 w v l) (hl : l.length ≤ 1000) :
    Calls Try.prog 59 #[v] w fun e w' => ∃ D, e = .returned (.pointer (some ⟨D, 0, none⟩)) ∧ Ext w w' ∧ RDr w' D w.heap.size l := by
  have H1 := Lib.hid (show ([] : List Int).length + l.length ≤ maxLen by simp [maxLen]; omega)
  have H2 := Lib.hid (show (([] : List Int).length + l.length) * 8 ≤ 140737488355328 by simp; omega)
  clear hl
  have ho := Own.nil_ (enc := E64) (sz := 1) w 29 w.heap.size
  go_enter Try.func59, Try.ntmps59
  go_wp2_with (at_builtin; refine wpList_app u64E rfl (.const (.slice none 0 0)) (.tmp 3) rfl rfl rfl ho h H1.out H2.out (Nat.le_refl _) ?_; intro v5 w5 o5 a5; have s5 := o5.slB E64_len (by omega); obtain ⟨A, c, rfl, hc, hcr⟩ := id s5)
  have x5 := AppTo.ext a5 (Ext.refl w) ho
  go_ret
  exact ⟨_, rfl, x5.alloc _, ⟨_, Blk.new w5 _ _, s5.ext ((Ext.refl w5).alloc _)⟩, x5.size⟩

section
variable {w : World} {D Z : Nat} {l : List Int} (h : RDr w D Z l) (key : Int)
include h
set_option maxHeartbeats 1000000 in
theorem refNextD_any : Calls Try.prog 60 #[.pointer (some ⟨D, 0, none⟩), .int .i64 key] w fun e w' => e = .returned (.int .u64 (drawV l key)) ∧ RDr w' D Z l.tail ∧ Chg [D] w w' := by
  have hd := h
  obtain ⟨⟨sv, h1, h4⟩, h5⟩ := h
  obtain ⟨A, c, rfl, hc, hr⟩ := id h4
  have c0 := h1.cell 0
  have f0 := h1.frozen 0
  have hdl := h1.lt
  cases l with
  | nil =>
    have hn : ([] : List Int).length = 0 := rfl
    go_enter Try.func60, Try.ntmps60
    go_wp2_with fail
    refine (refOf_any key _).mono ?_
    rintro e w2 ⟨rfl, x2⟩
    unfold U
    go_wp2_with fail
    go_ret
    exact ⟨rfl, hd.ext x2, x2.chg _⟩
  | cons x l =>
    obtain ⟨b, off, rfl, hb, hcs⟩ := hr (by simp)
    have cx : w.cell? ⟨b, off, none⟩ = some (.int .u64 x) := by simpa using hcs 0 (.int .u64 x) (by simp [flat, E64])
    obtain ⟨i0, z0, hi, _, hsz, _⟩ := u64E.info
    have hcut := run_cut_l (P := Try.prog) u64E.ht hi hsz (some ⟨b, off, none⟩) (n := l.length + 1) (c := c) 1 1 rfl (by omega)
    have hsb := (h4.cut (sz := 1) E64_len 1 (by simp)).2
    rw [show (x :: l).length - 1 = l.length from by simp, show (x :: l).drop 1 = l from rfl] at hsb
    rw [Nat.add_sub_cancel] at hcut
    generalize cutA 1 (some ⟨b, off, none⟩) c 1 = A1 at hcut hsb
    generalize c - 1 = cc at hcut hsb
    have HB := Lib.hid hsb
    have H1 := Lib.hid h1
    have HL := Lib.hid h5
    have c0 : w.cell? ⟨D, 0, none⟩ = some (.slice (some ⟨b, off, none⟩) (l.length + 1) c) := c0
    clear hsb hd h1 h4 hr hcs hb hc h5 hi hsz
    go_enter Try.func60, Try.ntmps60
    go_wp2_with fail
    go_ret
    have ch : Chg [D] w (w.setCell ⟨D, 0, none⟩ (.slice A1 l.length cc)) := (Chg.refl _ w).set (by simp) _
    exact ⟨rfl, ⟨⟨_, H1.out.set 0 (.slice A1 l.length cc), HB.out.chg ch (fun s hs => by simp at hs; omega)⟩, HL.out⟩, ch⟩
end

set_option maxHeartbeats 1000000 in
theorem sameU_any {la lb : List Int} {va vb : Value} {w : World} (ha : Sl E64 w va la) (hb : Sl E64 w vb lb) (hm : la.length ≤ 9223372036854775807) (hm' : lb.length ≤ 9223372036854775807) :
    Calls Try.prog 58 #[va, vb] w fun e w' => e = .returned (.bool (decide (la = lb))) ∧ Ext w w' := by
  obtain ⟨A, ca, rfl, hca, hra⟩ := ha
  obtain ⟨B, cb, rfl, hcb, hrb⟩ := hb
  by_cases hl : la.length = lb.length
  · have hne : ((la.length : Int) != (lb.length : Int)) = false := by simp [hl]
    have HL := Lib.hid hl
    clear hl
    go_enter Try.func58, Try.ntmps58
    go_wp2_with fail
    go_loopw [5] (fun i wr => ∃ k : Nat, k ≤ la.length ∧ i = .int .i64 k ∧ la.take k = lb.take k ∧ Ext w wr) (fun i _ => la.length - (intOf i).toNat)
    case atStart => exact ⟨0, Nat.zero_le _, rfl, by simp, Ext.refl w⟩
    case round =>
      obtain ⟨k, hk, rfl, htk, hx⟩ := hrel
      have HT := Lib.hid htk
      clear htk
      by_cases hlt : k < la.length
      · have hlt' : k < lb.length := by have := HL.out; omega
        obtain ⟨b, off, rfl, hblt, hcells⟩ := hra (by intro h; rw [h] at hlt; simp at hlt)
        obtain ⟨b', off', rfl, hblt', hcells'⟩ := hrb (by intro h; rw [h] at hlt'; simp at hlt')
        have hxk : la[k]? = some la[k] := List.getElem?_eq_getElem hlt
        have hyk : lb[k]? = some lb[k] := List.getElem?_eq_getElem hlt'
        generalize la[k] = x at hxk
        generalize lb[k] = y at hyk
        have c0 := Cells.elem E64_len (hcells.ext hx hblt) hxk 0 _ rfl
        have d0 := Cells.elem E64_len (hcells'.ext hx hblt') hyk 0 _ rfl
        rw [Nat.mul_one, Nat.add_zero] at c0 d0
        have HX := Lib.hid hxk
        have HY := Lib.hid hyk
        have hlt2 : (k : Int) < (lb.length : Int) := by omega
        clear hxk hyk hcells hcells' hra hrb
        by_cases hxy : x = y
        · subst hxy
          have hn : (x != x) = false := by simp
          go_wp2_with fail
          go_quiet (fail)
          go_wp2_with fail
          exact ⟨⟨k + 1, by omega, by go_num, take_same HT.out HX.out HY.out rfl, hx.drewN nq⟩, by simp [intOf]; omega⟩
        · have hn : (x != y) = true := by simpa using hxy
          have HN := Lib.hid hxy
          go_wp2_with fail
          go_quiet (fail)
          go_wp2_with fail
          go_ret
          exact ⟨congrArg (fun t => Ending.returned (.bool t)) (same_no HX.out HY.out (by simpa using HN.out)), hx.drewN nq⟩
      · have hge : la.length ≤ k := by omega
        go_wp2_with fail
        go_ret
        exact ⟨congrArg (fun t => Ending.returned (.bool t)) (same_yes HT.out HL.out hge), hx⟩
  · have hne : ((la.length : Int) != (lb.length : Int)) = true := by simp; omega
    have hl' : ¬ (la = lb) := by rintro rfl; exact hl rfl
    have HL := Lib.hid hl'
    clear hl hl'
    go_enter Try.func58, Try.ntmps58
    go_wp2_with fail
    go_ret
    exact ⟨congrArg (fun t => Ending.returned (.bool t)) (decide_eq_false HL.out).symm, Ext.refl w⟩
end Go.Proofs.Ytlehcagpddgamaa
