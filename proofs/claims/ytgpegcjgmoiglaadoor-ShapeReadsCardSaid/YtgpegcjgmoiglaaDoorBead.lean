/- BEADS: a tree as a row of beads; slices of beads. -/
import Derived.Test.YtgpegcjgmoiglaaDoorNode
import Derived.Deep.QuietTactic
import Derived.BigQuiet
namespace Go.Proofs.YtgpegcjgmoiglaaDoor
open Go.RowKit

/-- The cells of a bead. -/
def Bead.enc (x : Bead) : List Value := [.int .i64 x.key, .int .i64 x.val, .int .i64 x.sum, .int .i64 x.size, .int .u64 x.tag, .bool x.left, .bool x.right]
theorem Bead.enc_len (x : Bead) : x.enc.length = 7 := rfl

theorem neq_bead (x y : Bead) (w : World) : (binOp .neq 44 (.agg #[.int .i64 x.key, .int .i64 x.val, .int .i64 x.sum, .int .i64 x.size, .int .u64 x.tag, .bool x.left, .bool x.right])
   (.agg #[.int .i64 y.key, .int .i64 y.val, .int .i64 y.sum, .int .i64 y.size, .int .u64 y.tag, .bool y.left, .bool y.right])).run Tryd.prog w = .ok (.bool (!decide (x = y))) w := by
  obtain ⟨a, b, c, d, e, f, g⟩ := x
  obtain ⟨a', b', c', d', e', f', g'⟩ := y
  go_simp
  (repeat' split) <;> simp [*]

/-- The cells of a bead in a slice. -/
theorem bead_cells {w : World} {b off : Nat} {l : List Bead} (h : Cells w b off (flat Bead.enc l)) {i : Nat} {x : Bead} (hx : l[i]? = some x) :
    w.cell? ⟨b, off + i * 7, none⟩ = some (.int .i64 x.key) ∧ w.cell? ⟨b, off + i * 7 + 1, none⟩ = some (.int .i64 x.val) ∧ w.cell? ⟨b, off + i * 7 + 2, none⟩ = some (.int .i64 x.sum) ∧
    w.cell? ⟨b, off + i * 7 + 3, none⟩ = some (.int .i64 x.size) ∧ w.cell? ⟨b, off + i * 7 + 4, none⟩ = some (.int .u64 x.tag) ∧ w.cell? ⟨b, off + i * 7 + 5, none⟩ = some (.bool x.left) ∧
    w.cell? ⟨b, off + i * 7 + 6, none⟩ = some (.bool x.right) := by
  have h := Cells.elem Bead.enc_len h hx
  exact ⟨h 0 _ rfl, h 1 _ rfl, h 2 _ rfl, h 3 _ rfl, h 4 _ rfl, h 5 _ rfl, h 6 _ rfl⟩

theorem take_same {α : Type} {l m : List α} {k : Nat} (h : l.take k = m.take k) {x y : α} (hx : l[k]? = some x) (hy : m[k]? = some y) (e : x = y) : l.take (k + 1) = m.take (k + 1) := by
  rw [List.take_add_one, List.take_add_one, h, hx, hy, e]
theorem same_no {α : Type} [DecidableEq α] {l m : List α} {k : Nat} {x y : α} (hx : l[k]? = some x) (hy : m[k]? = some y) (h : (!decide (x = y)) = true) : false = decide (l = m) := by
  symm
  rw [decide_eq_false_iff_not]
  rintro rfl
  rw [hx] at hy
  injection hy with hy
  simp [hy] at h
theorem same_yes {α : Type} [DecidableEq α] {l m : List α} {k : Nat} (h : l.take k = m.take k) (hl : l.length = m.length) (hk : l.length ≤ k) : true = decide (l = m) := by
  symm
  rw [decide_eq_true_iff]
  rwa [List.take_of_length_le hk, List.take_of_length_le (by omega)] at h

set_option maxHeartbeats 1000000 in
theorem same_any {la lb : List Bead} {va vb : Value} {w : World} (ha : Sl Bead.enc w va la) (hb : Sl Bead.enc w vb lb) (hm : la.length ≤ 9223372036854775807) (hm' : lb.length ≤ 9223372036854775807) :
    Calls Tryd.prog 12 #[va, vb] w fun e w' => e = .returned (.bool (decide (la = lb))) ∧ Ext w w' := by
  obtain ⟨A, ca, rfl, hca, hra⟩ := ha
  obtain ⟨B, cb, rfl, hcb, hrb⟩ := hb
  by_cases hl : la.length = lb.length
  · have hne : ((la.length : Int) != (lb.length : Int)) = false := by simp [hl]
    have HL := Lib.hid hl
    clear hl
    go_enter Tryd.func12, Tryd.ntmps12
    go_wp2_with fail
    go_loopw [5] (fun i wr => ∃ k : Nat, k ≤ la.length ∧ i = .int .i64 k ∧ la.take k = lb.take k ∧ Ext w wr) (fun i _ => la.length - (intOf i).toNat)
    case atStart => exact ⟨0, Nat.zero_le _, rfl, by simp, Ext.refl w⟩
    case round =>
      obtain ⟨k, hk, rfl, htk, hx⟩ := hrel
      have HT := Lib.hid htk
      clear htk
      by_cases hlt : k < la.length
      · have hlt' : k < lb.length := by have := HL.out; omega
        obtain ⟨b, off, rfl, hblt, hcells⟩ := hra (by intro h; rw [h] at hlt; simp at hlt)
        obtain ⟨b', off', rfl, hblt', hcells'⟩ := hrb (by intro h; rw [h] at hlt'; simp at hlt')
        have hxk : la[k]? = some la[k] := List.getElem?_eq_getElem hlt
        have hyk : lb[k]? = some lb[k] := List.getElem?_eq_getElem hlt'
        generalize la[k] = x at hxk
        generalize lb[k] = y at hyk
        obtain ⟨c0, c1, c2, c3, c4, c5, c6⟩ := bead_cells (hcells.ext hx hblt) hxk
        obtain ⟨d0, d1, d2, d3, d4, d5, d6⟩ := bead_cells (hcells'.ext hx hblt') hyk
        have HX := Lib.hid hxk
        have HY := Lib.hid hyk
        have hn := neq_bead x y
        have hlt2 : (k : Int) < (lb.length : Int) := by omega
        clear hxk hyk hcells hcells' hra hrb
        go_wp2_with fail
        go_quiet (fail)
        go_wp2_with fail
        · have hne : (!decide (x = y)) = true := by assumption
          go_ret
          exact ⟨congrArg (fun t => Ending.returned (.bool t)) (same_no HX.out HY.out hne), hx.drewN nq⟩
        · have heq : (!decide (x = y)) = false := by assumption
          exact ⟨⟨k + 1, by omega, by go_num, take_same HT.out HX.out HY.out (by simpa using heq), hx.drewN nq⟩, by simp [intOf]; omega⟩
      · have hge : la.length ≤ k := by omega
        go_wp2_with fail
        go_ret
        exact ⟨congrArg (fun t => Ending.returned (.bool t)) (same_yes HT.out HL.out hge), hx⟩
  · have hne : ((la.length : Int) != (lb.length : Int)) = true := by simp; omega
    have hl' : ¬ (la = lb) := by rintro rfl; exact hl rfl
    have HL := Lib.hid hl'
    clear hl hl'
    go_enter Tryd.func12, Tryd.ntmps12
    go_wp2_with fail
    go_ret
    exact ⟨congrArg (fun t => Ending.returned (.bool t)) (decide_eq_false HL.out).symm, Ext.refl w⟩

/-- What 'ends' returns. -/
def endI : Option Nat → Int
  | none => -1
  | some n => n

section
variable {f k a b : Nat} {l : List Bead} {x : Bead}
theorem ends_ln (hd : l.drop k = x :: l.drop (k + 1)) (hl : x.left = true) (ha : endsS f (l.drop (k + 1)) = none) : -1 = endI (endsS (f + 1) (l.drop k)) := by
  rw [hd]; simp [endsS, hl, ha, endI]
theorem ends_sn (hd : l.drop k = x :: l.drop (k + 1)) (hl : x.left = true) (ha : endsS f (l.drop (k + 1)) = some a) (hr : x.right = true) (hb : endsS f (l.drop (k + (1 + a))) = none) : -1 = endI (endsS (f + 1) (l.drop k)) := by
  rw [hd]; rw [show k + (1 + a) = k + 1 + a from by omega] at hb; simp [endsS, hl, ha, hr, hb, endI]
theorem ends_ss (hd : l.drop k = x :: l.drop (k + 1)) (hl : x.left = true) (ha : endsS f (l.drop (k + 1)) = some a) (hr : x.right = true) (hb : endsS f (l.drop (k + (1 + a))) = some b) : 1 + (a : Int) + b = endI (endsS (f + 1) (l.drop k)) := by
  rw [hd]; rw [show k + (1 + a) = k + 1 + a from by omega] at hb; simp [endsS, hl, ha, hr, hb, endI]
theorem ends_s0 (hd : l.drop k = x :: l.drop (k + 1)) (hl : x.left = true) (ha : endsS f (l.drop (k + 1)) = some a) (hr : x.right = false) : 1 + (a : Int) = endI (endsS (f + 1) (l.drop k)) := by
  rw [hd]; simp [endsS, hl, ha, hr, endI]
theorem ends_0n (hd : l.drop k = x :: l.drop (k + 1)) (hl : x.left = false) (hr : x.right = true) (hb : endsS f (l.drop (k + 1)) = none) : -1 = endI (endsS (f + 1) (l.drop k)) := by
  rw [hd]; simp [endsS, hl, hr, hb, endI]
theorem ends_0s (hd : l.drop k = x :: l.drop (k + 1)) (hl : x.left = false) (hr : x.right = true) (hb : endsS f (l.drop (k + 1)) = some b) : 1 + (b : Int) = endI (endsS (f + 1) (l.drop k)) := by
  rw [hd]; simp [endsS, hl, hr, hb, endI]
theorem ends_00 (hd : l.drop k = x :: l.drop (k + 1)) (hl : x.left = false) (hr : x.right = false) : 1 = endI (endsS (f + 1) (l.drop k)) := by
  rw [hd]; simp [endsS, hl, hr, endI]
end
set_option maxHeartbeats 1000000 in
theorem ends_any {l : List Bead} {A : Option Addr} {c : Nat} {w : World} (hr : Row Bead.enc w A l) (hc : l.length ≤ c) (hm : l.length ≤ 1000000) :
    ∀ (f at_ d : Nat) (ia id : Int), ia = at_ → id = d → d + f = 5001 → at_ ≤ l.length →
    Calls Tryd.prog 51 #[.slice A l.length c, .int .i64 ia, .int .i64 id] w fun e w' => e = .returned (.int .i64 (endI (endsS f (l.drop at_)))) ∧ w = w' := by
  intro f
  induction f with
  | zero =>
    rintro k d ia id rfl rfl hd hk
    obtain rfl : d = 5001 := by omega
    by_cases hlt : k < l.length
    · go_enter Tryd.func51, Tryd.ntmps51
      go_wp2_with fail
      go_ret
      exact ⟨rfl, rfl⟩
    · go_enter Tryd.func51, Tryd.ntmps51
      go_wp2_with fail
      go_ret
      exact ⟨rfl, rfl⟩
  | succ f ih =>
    rintro k d ia id rfl rfl hd hk
    by_cases hlt : k < l.length
    · have hlk : l[k]? = some l[k] := List.getElem?_eq_getElem hlt
      obtain ⟨b, off, rfl, hblt, hcells⟩ := hr (by rintro rfl; simp at hlt)
      have hdk : l.drop k = l[k] :: l.drop (k + 1) := List.drop_eq_getElem_cons hlt
      obtain ⟨c0, c1, c2, c3, c4, c5, c6⟩ := bead_cells hcells hlk
      generalize l[k] = x at hlk hdk c0 c1 c2 c3 c4 c5 c6
      have HD := Lib.hid hdk
      clear hlk hdk hcells hr
      have hlen : (l.drop (k + 1)).length = l.length - (k + 1) := List.length_drop
      have HLEN := Lib.hid hlen
      clear hlen
      have h1 := ih (k + 1) (d + 1) (k + 1) (d + 1) (by omega) (by omega) (by omega) (by omega)
      by_cases hL : x.left = true
      · rcases hA : endsS f (l.drop (k + 1)) with _ | a
        · rw [hA] at h1; simp only [endI] at h1
          have H1 := Lib.hid h1
          have HA := Lib.hid hA
          clear h1 hA ih
          go_enter Tryd.func51, Tryd.ntmps51
          go_wp2_with fail
          refine (H1.out).mono ?_; rintro e w' ⟨rfl, rfl⟩
          go_wp2_with fail
          go_ret
          exact ⟨congrArg (fun t => Ending.returned (.int .i64 t)) (ends_ln HD.out hL HA.out), rfl⟩
        · have ha := (endsS_le hA).1
          rw [HLEN.out] at ha
          have h2 := ih (k + (1 + a)) (d + 1) (k + (1 + a)) (d + 1) (by omega) (by omega) (by omega) (by omega)
          rw [hA] at h1; simp only [endI] at h1
          have H1 := Lib.hid h1
          have HA := Lib.hid hA
          clear h1 hA ih
          by_cases hR : x.right = true
          · rcases hB : endsS f (l.drop (k + (1 + a))) with _ | b'
            · rw [hB] at h2; simp only [endI] at h2
              have H2 := Lib.hid h2
              have HB := Lib.hid hB
              clear h2 hB
              go_enter Tryd.func51, Tryd.ntmps51
              go_wp2_with fail
              refine (H1.out).mono ?_; rintro e w' ⟨rfl, rfl⟩
              go_wp2_with fail
              refine (H2.out).mono ?_; rintro e w' ⟨rfl, rfl⟩
              go_wp2_with fail
              go_ret
              exact ⟨congrArg (fun t => Ending.returned (.int .i64 t)) (ends_sn HD.out hL HA.out hR HB.out), rfl⟩
            · have hb := (endsS_le hB).1
              rw [List.length_drop] at hb
              rw [hB] at h2; simp only [endI] at h2
              have H2 := Lib.hid h2
              have HB := Lib.hid hB
              clear h2 hB
              go_enter Tryd.func51, Tryd.ntmps51
              go_wp2_with fail
              refine (H1.out).mono ?_; rintro e w' ⟨rfl, rfl⟩
              go_wp2_with fail
              refine (H2.out).mono ?_; rintro e w' ⟨rfl, rfl⟩
              go_wp2_with fail
              go_ret
              exact ⟨congrArg (fun t => Ending.returned (.int .i64 t)) (ends_ss HD.out hL HA.out hR HB.out), rfl⟩
          · have hR' : x.right = false := by simpa using hR
            clear h2 hR
            go_enter Tryd.func51, Tryd.ntmps51
            go_wp2_with fail
            refine (H1.out).mono ?_; rintro e w' ⟨rfl, rfl⟩
            go_wp2_with fail
            go_ret
            exact ⟨congrArg (fun t => Ending.returned (.int .i64 t)) (ends_s0 HD.out hL HA.out hR'), rfl⟩
      · have hL' : x.left = false := by simpa using hL
        clear hL
        by_cases hR : x.right = true
        · rcases hB : endsS f (l.drop (k + 1)) with _ | b'
          · rw [hB] at h1; simp only [endI] at h1
            have H1 := Lib.hid h1
            have HB := Lib.hid hB
            clear h1 hB ih
            go_enter Tryd.func51, Tryd.ntmps51
            go_wp2_with fail
            refine (H1.out).mono ?_; rintro e w' ⟨rfl, rfl⟩
            go_wp2_with fail
            go_ret
            exact ⟨congrArg (fun t => Ending.returned (.int .i64 t)) (ends_0n HD.out hL' hR HB.out), rfl⟩
          · have hb := (endsS_le hB).1
            rw [HLEN.out] at hb
            rw [hB] at h1; simp only [endI] at h1
            have H1 := Lib.hid h1
            have HB := Lib.hid hB
            clear h1 hB ih
            go_enter Tryd.func51, Tryd.ntmps51
            go_wp2_with fail
            refine (H1.out).mono ?_; rintro e w' ⟨rfl, rfl⟩
            go_wp2_with fail
            go_ret
            exact ⟨congrArg (fun t => Ending.returned (.int .i64 t)) (ends_0s HD.out hL' hR HB.out), rfl⟩
        · have hR' : x.right = false := by simpa using hR
          clear h1 hR ih
          go_enter Tryd.func51, Tryd.ntmps51
          go_wp2_with fail
          go_ret
          exact ⟨congrArg (fun t => Ending.returned (.int .i64 t)) (ends_00 HD.out hL' hR'), rfl⟩
    · go_enter Tryd.func51, Tryd.ntmps51
      go_wp2_with fail
      go_ret
      exact ⟨by rw [List.drop_eq_nil_of_le (by omega)]; rfl, rfl⟩
end Go.Proofs.YtgpegcjgmoiglaaDoor
