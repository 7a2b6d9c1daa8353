/- The statement DrawTells. -/
import Derived.Test.YtlehcagpddgamaaWalk08
namespace Go.Proofs.Ytlehcagpddgamaa
open Go.RowKit

theorem Sl.slB {α : Type} {enc : α → List Value} {w : World} {v : Value} {l : List α} (h : Sl enc w v l) : SlB enc 0 w.heap.size w v l := by
  obtain ⟨A, c, rfl, hc, hr⟩ := h
  exact ⟨A, c, rfl, hc, fun hl => by obtain ⟨b, off, e, hb, hcs⟩ := hr hl; exact ⟨b, off, e, ⟨Nat.zero_le _, hb, hb⟩, hcs⟩⟩
theorem SlB.ext2 {α : Type} {enc : α → List Value} {lo hi : Nat} {w w' : World} {v : Value} {l : List α} (h : SlB enc lo hi w v l) (x : Ext w w') : SlB enc lo hi w' v l := h.ext x
theorem SlB.mono {α : Type} {enc : α → List Value} {lo hi hi' : Nat} {w : World} {v : Value} {l : List α} (h : SlB enc lo hi w v l) (hh : hi ≤ hi') : SlB enc lo hi' w v l := by
  obtain ⟨A, c, rfl, hc, hr⟩ := h
  exact ⟨A, c, rfl, hc, fun hl => by obtain ⟨b, off, e, hb, hcs⟩ := hr hl; exact ⟨b, off, e, ⟨hb.1, by omega, hb.2.2⟩, hcs⟩⟩
theorem Dr.drew {w : World} {B R D V : Nat} {l : List Int} (h : Dr w B R D V l) : Dr w.drew B R D V l := h.ext (Ext.refl w).drew
theorem RDr.drew {w : World} {D Z : Nat} {l : List Int} (h : RDr w D Z l) : RDr w.drew D Z l := h.ext (Ext.refl w).drew

set_option maxRecDepth 100000 in
set_option maxHeartbeats 4000000 in
theorem drawTells_walk {l keys : List Int} {lv kv : Value} {w : World} (a : Int) (hl : Sl E64 w lv l) (hk : Sl EK w kv keys) (ml : l.length ≤ maxLen) (mk : keys.length ≤ maxLen) (wa : (Lit.int .u8 a).wf = true) :
    Calls Try.prog 11 #[lv, kv, .int .u8 a] w fun e w' => e = .returned (.bool true) ∧ Ext w w' := by
  have hl' := hl
  have hk' := hk
  obtain ⟨A, c, rfl, hc, hr⟩ := hl
  obtain ⟨A2, c2, rfl, hc2, hr2⟩ := hk
  simp only [maxLen] at ml mk
  by_cases h1 : 200 < l.length
  · have H1 : decide ((200 : Int) < (l.length : Int)) = true := by simp; omega
    go_enter Try.func11, Try.ntmps11
    go_wp2_with fail
    refine (alive08 _).mono ?_; rintro e w1 ⟨rfl, x1⟩
    go_wp2_with fail
    go_ret
    exact ⟨rfl, x1⟩
  by_cases h2 : 200 < keys.length
  · have H1 : decide ((200 : Int) < (l.length : Int)) = false := by simp; omega
    have H2 : decide ((200 : Int) < (keys.length : Int)) = true := by simp; omega
    go_enter Try.func11, Try.ntmps11
    go_wp2_with fail
    refine (alive08 _).mono ?_; rintro e w1 ⟨rfl, x1⟩
    go_wp2_with fail
    go_ret
    exact ⟨rfl, x1⟩
  have H1 : decide ((200 : Int) < (l.length : Int)) = false := by simp; omega
  have H2 : decide ((200 : Int) < (keys.length : Int)) = false := by simp; omega
  have hab : 0 ≤ a ∧ a ≤ 255 := by simp [Lit.wf] at wa; exact wa
  obtain ⟨k, hkk, hkl⟩ : ∃ k : Nat, a % ((keys.length : Int) + 1) = k ∧ k ≤ keys.length := by
    have e1 := Int.emod_nonneg a (b := (keys.length : Int) + 1) (by omega)
    have e2 := Int.emod_lt_of_pos a (b := (keys.length : Int) + 1) (by omega)
    exact ⟨(a % ((keys.length : Int) + 1)).toNat, by omega, by omega⟩
  have hkt : a.tmod ((keys.length : Int) + 1) = k := by rw [Int.tmod_eq_emod_of_nonneg hab.1, hkk]
  go_enter Try.func11, Try.ntmps11
  go_wp2_with fail
  refine (own_any hl' (by omega)).mono ?_; rintro e w1 ⟨v1, rfl, x1, o1⟩
  go_wp2_with fail
  refine (new_draws (o1.sl E64_len (by omega)) (by omega)).mono ?_; rintro e w2 ⟨R, D, V, rfl, x2, d2⟩
  go_wp2_with fail
  refine (refNewD_any (hl'.ext (x1.trans x2)) (by omega)).mono ?_; rintro e w3 ⟨D2, rfl, x3, r3⟩
  have q := eql_draws (some ⟨D, 0, none⟩)
  have d3 := d2.ext x3
  have y3 := (x1.trans x2).trans x3
  have hz1 := x1.size
  have hz2 := d2.lt
  have hz3 := d2.2
  have hz4 := r3.2
  have hz5 := r3.lt
  clear d2 x1 x2 x3 o1 hr hr2
  go_wp2_with fail
  have hR : ∀ s ∈ [R, D], w.heap.size ≤ s := fun s hs => by simp at hs; omega
  have hR2 : ∀ s ∈ [D2], w.heap.size ≤ s := fun s hs => by simp at hs; omega
  have hX1 : ∀ s ∈ [R, D], s < w2.heap.size ∨ D2 < s := fun s hs => by simp at hs; omega
  have hX2 : ∀ s ∈ [D2], s < w1.heap.size ∨ V < s := fun s hs => by simp at hs; omega
  go_loopw [10] (fun i wr => ∃ j : Nat, j ≤ k ∧ i = .int .i64 j ∧ Dr wr w1.heap.size R D V (l.drop j) ∧ RDr wr D2 w2.heap.size (l.drop j) ∧ Ext w wr ∧ D2 < wr.heap.size) (fun i _ => k - (intOf i).toNat)
  case atStart => exact ⟨0, Nat.zero_le _, rfl, by simpa using d3, by simpa using r3, y3, hz5⟩
  case round =>
    clear d3 r3 y3 hz5
    obtain ⟨j, hj, rfl, d3, r3, y3, hz5⟩ := hrel
    by_cases hlt : j < k
    · obtain ⟨_, _, e, _, hr⟩ := hk'
      injection e with e1 e2 e3
      subst e1 e3
      obtain ⟨b, off, rfl, hb, hcs⟩ := hr (by intro h; rw [h] at hkl; simp at hkl; omega)
      have hxk : keys[j]? = some (keys[j]'(by omega)) := List.getElem?_eq_getElem (by omega)
      generalize keys[j]'(by omega) = x at hxk
      have cx := Cells.elem EK_len hcs hxk 0 _ rfl
      rw [Nat.mul_one, Nat.add_zero] at cx
      have cw : w.cell? ⟨b, off + j, none⟩ = some (.int .i64 x) := cx
      clear cx
      have hbr : b < wr.heap.size := Nat.lt_of_lt_of_le hb y3.size
      have hbn1 : (⟨b, off + j, none⟩ : Addr).block ∉ [R, D] := by simp; omega
      have hbn2 : (⟨b, off + j, none⟩ : Addr).block ∉ [D2] := by simp; omega
      have hjl : j < keys.length := by omega
      have hjl2 : (j : Int) < (keys.length : Int) := by omega
      clear hr hcs hxk hl'
      generalize hm : (l.drop j).tail = m
      generalize hp : drawV (l.drop j) x = p
      have HM := Lib.hid hm
      have HP := Lib.hid hp
      have HD := Lib.hid d3
      have HR := Lib.hid r3
      have HY := Lib.hid y3
      clear hm hp d3 r3 y3
      go_wp2_with fail
      --R10
      refine (wpIn_wide (n := 8)).1 ?_
      refine wpIn_chart (by kernel_rfl) (fun dn aq wq => (Ext w wq) ∧ ((¬ dn 5 → Dr wq w1.heap.size R D V (l.drop j) ∧ RDr wq D2 w2.heap.size (l.drop j)) ∧ (dn 5 → ¬ dn 11 → Dr wq w1.heap.size R D V m ∧ RDr wq D2 w2.heap.size (l.drop j)) ∧ (dn 11 → Dr wq w1.heap.size R D V m ∧ RDr wq D2 w2.heap.size m)) ∧ ((dn 11 → dn 5) ∧ (dn 13 → dn 11)) ∧ ∃ u43 u44 u45 u46 u47 u48 u49 u50 u51 u52 u53 u54 u55 u56 u57 u58 u59 u60 u61 u62 u63 u64 u65, aq = { tmps := List.toArray ((Value.slice A l.length c) :: (Value.slice (some { block := b, off := off }) keys.length c2) :: (Value.int IntKind.u8 a) :: (undef) :: (undef) :: (undef) :: (u6) :: (Value.pointer (some { block := D, off := 0 })) :: (Value.pointer (some { block := D2, off := 0 })) :: (Value.int IntKind.i64 ↑k) :: (Value.int IntKind.i64 ↑j) :: (undef) :: (undef) :: (undef) :: (undef) :: (undef) :: (Value.slice A l.length c) :: (Value.int IntKind.i64 ↑l.length) :: (Value.bool false) :: (Value.bool false) :: (Value.slice (some { block := b, off := off }) keys.length c2) :: (Value.int IntKind.i64 ↑keys.length) :: (Value.bool false) :: (Value.bool false) :: (undef) :: (Value.slice A l.length c) :: (v1) :: (Value.pointer (some { block := D, off := 0 })) :: (Value.slice A l.length c) :: (Value.pointer (some { block := D2, off := 0 })) :: (Value.pointer (some { block := D, off := 0 })) :: (Value.bool false) :: (Value.int IntKind.u8 a) :: (Value.int IntKind.i64 a) :: (Value.slice (some { block := b, off := off }) keys.length c2) :: (Value.int IntKind.i64 ↑keys.length) :: (Value.int IntKind.i64 (↑keys.length + 1)) :: (Value.int IntKind.i64 ↑k) :: (Value.int IntKind.i64 ↑j) :: (Value.int IntKind.i64 ↑k) :: (Value.bool true) :: (u41) :: (u42) :: (u43) :: (u44) :: (u45) :: (u46) :: (u47) :: (u48) :: (u49) :: (u50) :: (u51) :: (u52) :: (u53) :: (u54) :: (u55) :: (u56) :: (u57) :: (u58) :: (u59) :: (u60) :: (u61) :: (u62) :: (u63) :: (u64) :: (u65) :: (undef) :: (undef) :: (undef) :: (undef) :: (undef) :: (undef) :: (undef) :: (undef) :: (undef) :: (undef) :: (undef) :: (undef) :: (undef) :: (undef) :: (undef) :: (undef) :: (undef) :: (undef) :: (undef) :: (undef) :: (undef) :: (undef) :: (undef) :: (undef) :: (undef) :: (undef) :: (undef) :: (undef) :: (undef) :: (undef) :: (undef) :: (undef) :: (undef) :: (undef) :: (undef) :: (undef) :: (undef) :: (undef) :: (undef) :: (undef) :: (undef) :: (undef) :: (undef) :: (undef) :: (undef) :: (undef) :: (undef) :: (undef) :: (undef) :: (undef) :: (undef) :: (undef) :: (undef) :: (undef) :: (undef) :: (undef) :: (undef) :: (undef) :: (undef) :: (undef) :: (undef) :: (undef) :: (undef) :: (undef) :: (undef) :: (undef) :: []), defers := [] } ∧ (dn 0 → u43 = .pointer (some ⟨D, 0, none⟩)) ∧ (dn 1 → u44 = .slice (some ⟨b, off, none⟩) keys.length c2) ∧ (dn 2 → u45 = .int .i64 (j : Int)) ∧ (dn 3 → u46 = .pointer (some ⟨b, off + j, none⟩)) ∧ (dn 4 → u47 = .int .i64 x) ∧ (dn 5 → u48 = .int .u64 p) ∧ (dn 6 → u49 = .pointer (some ⟨D2, 0, none⟩)) ∧ (dn 7 → u50 = .slice (some ⟨b, off, none⟩) keys.length c2) ∧ (dn 8 → u51 = .int .i64 (j : Int)) ∧ (dn 9 → u52 = .pointer (some ⟨b, off + j, none⟩)) ∧ (dn 10 → u53 = .int .i64 x) ∧ (dn 11 → u54 = .int .u64 p) ∧ (dn 12 → u55 = .bool false) ∧ (dn 13 → u56 = .bool false) ∧ (dn 14 → u57 = .pointer (some ⟨D, 0, none⟩)) ∧ (dn 15 → u58 = .int .i64 (m.length : Int)) ∧ (dn 16 → u59 = .pointer (some ⟨D2, 0, none⟩)) ∧ (dn 17 → u60 = .pointer (some ⟨D2, 0, none⟩)) ∧ (dn 18 → u61 = .pointer (some ⟨D2, 0, none⟩)) ∧ (dn 19 → ∃ A9 c9, u62 = .slice A9 m.length c9) ∧ (dn 20 → u63 = .int .i64 (m.length : Int)) ∧ (dn 21 → u64 = .bool false) ∧ (dn 22 → u65 = .bool false)) ?at0 ?lex ?step ?fin
      case at0 =>
        exact ⟨HY.out.drew, ⟨fun _ => ⟨HD.out.drew, HR.out.drew⟩, fun h => h.elim, fun h => h.elim⟩, ⟨fun h => h.elim, fun h => h.elim⟩, _, _, _, _, _, _, _, _, _, _, _, _, _, _, _, _, _, _, _, _, _, _, _, rfl, fun h => h.elim, fun h => h.elim, fun h => h.elim, fun h => h.elim, fun h => h.elim, fun h => h.elim, fun h => h.elim, fun h => h.elim, fun h => h.elim, fun h => h.elim, fun h => h.elim, fun h => h.elim, fun h => h.elim, fun h => h.elim, fun h => h.elim, fun h => h.elim, fun h => h.elim, fun h => h.elim, fun h => h.elim, fun h => h.elim, fun h => h.elim, fun h => h.elim, fun h => h.elim⟩
      case lex =>
        intro i o ho
        rcases i with _ | _ | _ | _ | _ | _ | _ | _ | _ | _ | _ | _ | _ | _ | _ | _ | _ | _ | _ | _ | _ | _ | _ | i
        all_goals (first | (cases ho; decide) | (simp at ho))
      case step =>
        rintro dn aq wq i o ⟨ha, ⟨hw0, hw1, hw2⟩, ⟨hc0, hc1⟩, u43, u44, u45, u46, u47, u48, u49, u50, u51, u52, u53, u54, u55, u56, u57, u58, u59, u60, u61, u62, u63, u64, u65, rfl, h0, h1, h2, h3, h4, h5, h6, h7, h8, h9, h10, h11, h12, h13, h14, h15, h16, h17, h18, h19, h20, h21, h22⟩ ho hni hbf K hK
        have cx := (Ext.cell ha (p := ⟨b, off + j, none⟩) hb).trans cw
        rcases i with _ | _ | _ | _ | _ | _ | _ | _ | _ | _ | _ | _ | _ | _ | _ | _ | _ | _ | _ | _ | _ | _ | _ | i
        · simp only [List.getElem?_toArray, List.getElem?_cons_zero, Option.some.injEq] at ho
          subst ho
          rw [if_pos (by rfl)]
          gi_big_op
          exact hK _ _ ⟨ha, ⟨fun k2 => hw0 (fun x => k2 (.inr x)), fun k1 k2 => hw1 (k1.elim (fun e => absurd e (by decide)) id) (fun x => k2 (.inr x)), fun k1 => hw2 (k1.elim (fun e => absurd e (by decide)) id)⟩, ⟨fun x => .inr (hc0 (x.elim (fun e => absurd e (by decide)) id)), fun x => .inr (hc1 (x.elim (fun e => absurd e (by decide)) id))⟩, _, _, _, _, _, _, _, _, _, _, _, _, _, _, _, _, _, _, _, _, _, _, _, rfl, fun _ => rfl, fun h => h.elim (fun e => absurd e (by decide)) h1, fun h => h.elim (fun e => absurd e (by decide)) h2, fun h => h.elim (fun e => absurd e (by decide)) h3, fun h => h.elim (fun e => absurd e (by decide)) h4, fun h => h.elim (fun e => absurd e (by decide)) h5, fun h => h.elim (fun e => absurd e (by decide)) h6, fun h => h.elim (fun e => absurd e (by decide)) h7, fun h => h.elim (fun e => absurd e (by decide)) h8, fun h => h.elim (fun e => absurd e (by decide)) h9, fun h => h.elim (fun e => absurd e (by decide)) h10, fun h => h.elim (fun e => absurd e (by decide)) h11, fun h => h.elim (fun e => absurd e (by decide)) h12, fun h => h.elim (fun e => absurd e (by decide)) h13, fun h => h.elim (fun e => absurd e (by decide)) h14, fun h => h.elim (fun e => absurd e (by decide)) h15, fun h => h.elim (fun e => absurd e (by decide)) h16, fun h => h.elim (fun e => absurd e (by decide)) h17, fun h => h.elim (fun e => absurd e (by decide)) h18, fun h => h.elim (fun e => absurd e (by decide)) h19, fun h => h.elim (fun e => absurd e (by decide)) h20, fun h => h.elim (fun e => absurd e (by decide)) h21, fun h => h.elim (fun e => absurd e (by decide)) h22⟩
        · simp only [List.getElem?_toArray, List.getElem?_cons_zero, List.getElem?_cons_succ, Option.some.injEq] at ho
          subst ho
          rw [if_pos (by rfl)]
          gi_big_op
          exact hK _ _ ⟨ha, ⟨fun k2 => hw0 (fun x => k2 (.inr x)), fun k1 k2 => hw1 (k1.elim (fun e => absurd e (by decide)) id) (fun x => k2 (.inr x)), fun k1 => hw2 (k1.elim (fun e => absurd e (by decide)) id)⟩, ⟨fun x => .inr (hc0 (x.elim (fun e => absurd e (by decide)) id)), fun x => .inr (hc1 (x.elim (fun e => absurd e (by decide)) id))⟩, _, _, _, _, _, _, _, _, _, _, _, _, _, _, _, _, _, _, _, _, _, _, _, rfl, fun h => h.elim (fun e => absurd e (by decide)) h0, fun _ => rfl, fun h => h.elim (fun e => absurd e (by decide)) h2, fun h => h.elim (fun e => absurd e (by decide)) h3, fun h => h.elim (fun e => absurd e (by decide)) h4, fun h => h.elim (fun e => absurd e (by decide)) h5, fun h => h.elim (fun e => absurd e (by decide)) h6, fun h => h.elim (fun e => absurd e (by decide)) h7, fun h => h.elim (fun e => absurd e (by decide)) h8, fun h => h.elim (fun e => absurd e (by decide)) h9, fun h => h.elim (fun e => absurd e (by decide)) h10, fun h => h.elim (fun e => absurd e (by decide)) h11, fun h => h.elim (fun e => absurd e (by decide)) h12, fun h => h.elim (fun e => absurd e (by decide)) h13, fun h => h.elim (fun e => absurd e (by decide)) h14, fun h => h.elim (fun e => absurd e (by decide)) h15, fun h => h.elim (fun e => absurd e (by decide)) h16, fun h => h.elim (fun e => absurd e (by decide)) h17, fun h => h.elim (fun e => absurd e (by decide)) h18, fun h => h.elim (fun e => absurd e (by decide)) h19, fun h => h.elim (fun e => absurd e (by decide)) h20, fun h => h.elim (fun e => absurd e (by decide)) h21, fun h => h.elim (fun e => absurd e (by decide)) h22⟩
        · simp only [List.getElem?_toArray, List.getElem?_cons_zero, List.getElem?_cons_succ, Option.some.injEq] at ho
          subst ho
          rw [if_pos (by rfl)]
          gi_big_op
          exact hK _ _ ⟨ha, ⟨fun k2 => hw0 (fun x => k2 (.inr x)), fun k1 k2 => hw1 (k1.elim (fun e => absurd e (by decide)) id) (fun x => k2 (.inr x)), fun k1 => hw2 (k1.elim (fun e => absurd e (by decide)) id)⟩, ⟨fun x => .inr (hc0 (x.elim (fun e => absurd e (by decide)) id)), fun x => .inr (hc1 (x.elim (fun e => absurd e (by decide)) id))⟩, _, _, _, _, _, _, _, _, _, _, _, _, _, _, _, _, _, _, _, _, _, _, _, rfl, fun h => h.elim (fun e => absurd e (by decide)) h0, fun h => h.elim (fun e => absurd e (by decide)) h1, fun _ => rfl, fun h => h.elim (fun e => absurd e (by decide)) h3, fun h => h.elim (fun e => absurd e (by decide)) h4, fun h => h.elim (fun e => absurd e (by decide)) h5, fun h => h.elim (fun e => absurd e (by decide)) h6, fun h => h.elim (fun e => absurd e (by decide)) h7, fun h => h.elim (fun e => absurd e (by decide)) h8, fun h => h.elim (fun e => absurd e (by decide)) h9, fun h => h.elim (fun e => absurd e (by decide)) h10, fun h => h.elim (fun e => absurd e (by decide)) h11, fun h => h.elim (fun e => absurd e (by decide)) h12, fun h => h.elim (fun e => absurd e (by decide)) h13, fun h => h.elim (fun e => absurd e (by decide)) h14, fun h => h.elim (fun e => absurd e (by decide)) h15, fun h => h.elim (fun e => absurd e (by decide)) h16, fun h => h.elim (fun e => absurd e (by decide)) h17, fun h => h.elim (fun e => absurd e (by decide)) h18, fun h => h.elim (fun e => absurd e (by decide)) h19, fun h => h.elim (fun e => absurd e (by decide)) h20, fun h => h.elim (fun e => absurd e (by decide)) h21, fun h => h.elim (fun e => absurd e (by decide)) h22⟩
        · simp only [List.getElem?_toArray, List.getElem?_cons_zero, List.getElem?_cons_succ, Option.some.injEq] at ho
          subst ho
          have b1 : dn 1 := hbf ⟨1, .data⟩ (by simp) rfl
          have b2 : dn 2 := hbf ⟨2, .data⟩ (by simp) rfl
          obtain rfl := h1 b1
          obtain rfl := h2 b2
          rw [if_pos (by rfl)]
          gi_big_op
          exact hK _ _ ⟨ha, ⟨fun k2 => hw0 (fun x => k2 (.inr x)), fun k1 k2 => hw1 (k1.elim (fun e => absurd e (by decide)) id) (fun x => k2 (.inr x)), fun k1 => hw2 (k1.elim (fun e => absurd e (by decide)) id)⟩, ⟨fun x => .inr (hc0 (x.elim (fun e => absurd e (by decide)) id)), fun x => .inr (hc1 (x.elim (fun e => absurd e (by decide)) id))⟩, _, _, _, _, _, _, _, _, _, _, _, _, _, _, _, _, _, _, _, _, _, _, _, rfl, fun h => h.elim (fun e => absurd e (by decide)) h0, fun h => h.elim (fun e => absurd e (by decide)) (fun _ => rfl), fun h => h.elim (fun e => absurd e (by decide)) (fun _ => rfl), fun _ => rfl, fun h => h.elim (fun e => absurd e (by decide)) h4, fun h => h.elim (fun e => absurd e (by decide)) h5, fun h => h.elim (fun e => absurd e (by decide)) h6, fun h => h.elim (fun e => absurd e (by decide)) h7, fun h => h.elim (fun e => absurd e (by decide)) h8, fun h => h.elim (fun e => absurd e (by decide)) h9, fun h => h.elim (fun e => absurd e (by decide)) h10, fun h => h.elim (fun e => absurd e (by decide)) h11, fun h => h.elim (fun e => absurd e (by decide)) h12, fun h => h.elim (fun e => absurd e (by decide)) h13, fun h => h.elim (fun e => absurd e (by decide)) h14, fun h => h.elim (fun e => absurd e (by decide)) h15, fun h => h.elim (fun e => absurd e (by decide)) h16, fun h => h.elim (fun e => absurd e (by decide)) h17, fun h => h.elim (fun e => absurd e (by decide)) h18, fun h => h.elim (fun e => absurd e (by decide)) h19, fun h => h.elim (fun e => absurd e (by decide)) h20, fun h => h.elim (fun e => absurd e (by decide)) h21, fun h => h.elim (fun e => absurd e (by decide)) h22⟩
        · simp only [List.getElem?_toArray, List.getElem?_cons_zero, List.getElem?_cons_succ, Option.some.injEq] at ho
          subst ho
          have b3 : dn 3 := hbf ⟨3, .data⟩ (by simp) rfl
          obtain rfl := h3 b3
          rw [if_pos (by rfl)]
          gi_big_op
          exact hK _ _ ⟨ha, ⟨fun k2 => hw0 (fun x => k2 (.inr x)), fun k1 k2 => hw1 (k1.elim (fun e => absurd e (by decide)) id) (fun x => k2 (.inr x)), fun k1 => hw2 (k1.elim (fun e => absurd e (by decide)) id)⟩, ⟨fun x => .inr (hc0 (x.elim (fun e => absurd e (by decide)) id)), fun x => .inr (hc1 (x.elim (fun e => absurd e (by decide)) id))⟩, _, _, _, _, _, _, _, _, _, _, _, _, _, _, _, _, _, _, _, _, _, _, _, rfl, fun h => h.elim (fun e => absurd e (by decide)) h0, fun h => h.elim (fun e => absurd e (by decide)) h1, fun h => h.elim (fun e => absurd e (by decide)) h2, fun h => h.elim (fun e => absurd e (by decide)) (fun _ => rfl), fun _ => rfl, fun h => h.elim (fun e => absurd e (by decide)) h5, fun h => h.elim (fun e => absurd e (by decide)) h6, fun h => h.elim (fun e => absurd e (by decide)) h7, fun h => h.elim (fun e => absurd e (by decide)) h8, fun h => h.elim (fun e => absurd e (by decide)) h9, fun h => h.elim (fun e => absurd e (by decide)) h10, fun h => h.elim (fun e => absurd e (by decide)) h11, fun h => h.elim (fun e => absurd e (by decide)) h12, fun h => h.elim (fun e => absurd e (by decide)) h13, fun h => h.elim (fun e => absurd e (by decide)) h14, fun h => h.elim (fun e => absurd e (by decide)) h15, fun h => h.elim (fun e => absurd e (by decide)) h16, fun h => h.elim (fun e => absurd e (by decide)) h17, fun h => h.elim (fun e => absurd e (by decide)) h18, fun h => h.elim (fun e => absurd e (by decide)) h19, fun h => h.elim (fun e => absurd e (by decide)) h20, fun h => h.elim (fun e => absurd e (by decide)) h21, fun h => h.elim (fun e => absurd e (by decide)) h22⟩
        · simp only [List.getElem?_toArray, List.getElem?_cons_zero, List.getElem?_cons_succ, Option.some.injEq] at ho
          subst ho
          have b0 : dn 0 := hbf ⟨0, .data⟩ (by simp) rfl
          have b4 : dn 4 := hbf ⟨4, .data⟩ (by simp) rfl
          obtain rfl := h0 b0
          obtain rfl := h4 b4
          rw [if_pos (by rfl)]
          obtain ⟨dA, rA⟩ := hw0 hni
          gi_wp2_with (refine ⟨trivial, ?_⟩; gi_at_call 56; refine (callsIn_wide.2 (next_is dA HP.out HM.out)).mono ?_; rintro e wn ⟨rfl, d4, g4⟩)
          have hn := And.intro d4 (rA.chg g4 hX1)
          exact ⟨g4.ext ha hR, ⟨fun k2 => absurd (by simp) k2, fun k1 k2 => hn, fun k1 => absurd (hc0 (k1.elim (fun e => absurd e (by decide)) id)) hni⟩, ⟨fun x => .inr (hc0 (x.elim (fun e => absurd e (by decide)) id)), fun x => .inr (hc1 (x.elim (fun e => absurd e (by decide)) id))⟩, _, _, _, _, _, _, _, _, _, _, _, _, _, _, _, _, _, _, _, _, _, _, _, rfl, fun h => h.elim (fun e => absurd e (by decide)) (fun _ => rfl), fun h => h.elim (fun e => absurd e (by decide)) h1, fun h => h.elim (fun e => absurd e (by decide)) h2, fun h => h.elim (fun e => absurd e (by decide)) h3, fun h => h.elim (fun e => absurd e (by decide)) (fun _ => rfl), fun _ => rfl, fun h => h.elim (fun e => absurd e (by decide)) h6, fun h => h.elim (fun e => absurd e (by decide)) h7, fun h => h.elim (fun e => absurd e (by decide)) h8, fun h => h.elim (fun e => absurd e (by decide)) h9, fun h => h.elim (fun e => absurd e (by decide)) h10, fun h => h.elim (fun e => absurd e (by decide)) h11, fun h => h.elim (fun e => absurd e (by decide)) h12, fun h => h.elim (fun e => absurd e (by decide)) h13, fun h => h.elim (fun e => absurd e (by decide)) h14, fun h => h.elim (fun e => absurd e (by decide)) h15, fun h => h.elim (fun e => absurd e (by decide)) h16, fun h => h.elim (fun e => absurd e (by decide)) h17, fun h => h.elim (fun e => absurd e (by decide)) h18, fun h => h.elim (fun e => absurd e (by decide)) h19, fun h => h.elim (fun e => absurd e (by decide)) h20, fun h => h.elim (fun e => absurd e (by decide)) h21, fun h => h.elim (fun e => absurd e (by decide)) h22⟩
        · simp only [List.getElem?_toArray, List.getElem?_cons_zero, List.getElem?_cons_succ, Option.some.injEq] at ho
          subst ho
          rw [if_pos (by rfl)]
          gi_big_op
          exact hK _ _ ⟨ha, ⟨fun k2 => hw0 (fun x => k2 (.inr x)), fun k1 k2 => hw1 (k1.elim (fun e => absurd e (by decide)) id) (fun x => k2 (.inr x)), fun k1 => hw2 (k1.elim (fun e => absurd e (by decide)) id)⟩, ⟨fun x => .inr (hc0 (x.elim (fun e => absurd e (by decide)) id)), fun x => .inr (hc1 (x.elim (fun e => absurd e (by decide)) id))⟩, _, _, _, _, _, _, _, _, _, _, _, _, _, _, _, _, _, _, _, _, _, _, _, rfl, fun h => h.elim (fun e => absurd e (by decide)) h0, fun h => h.elim (fun e => absurd e (by decide)) h1, fun h => h.elim (fun e => absurd e (by decide)) h2, fun h => h.elim (fun e => absurd e (by decide)) h3, fun h => h.elim (fun e => absurd e (by decide)) h4, fun h => h.elim (fun e => absurd e (by decide)) h5, fun _ => rfl, fun h => h.elim (fun e => absurd e (by decide)) h7, fun h => h.elim (fun e => absurd e (by decide)) h8, fun h => h.elim (fun e => absurd e (by decide)) h9, fun h => h.elim (fun e => absurd e (by decide)) h10, fun h => h.elim (fun e => absurd e (by decide)) h11, fun h => h.elim (fun e => absurd e (by decide)) h12, fun h => h.elim (fun e => absurd e (by decide)) h13, fun h => h.elim (fun e => absurd e (by decide)) h14, fun h => h.elim (fun e => absurd e (by decide)) h15, fun h => h.elim (fun e => absurd e (by decide)) h16, fun h => h.elim (fun e => absurd e (by decide)) h17, fun h => h.elim (fun e => absurd e (by decide)) h18, fun h => h.elim (fun e => absurd e (by decide)) h19, fun h => h.elim (fun e => absurd e (by decide)) h20, fun h => h.elim (fun e => absurd e (by decide)) h21, fun h => h.elim (fun e => absurd e (by decide)) h22⟩
        · simp only [List.getElem?_toArray, List.getElem?_cons_zero, List.getElem?_cons_succ, Option.some.injEq] at ho
          subst ho
          rw [if_pos (by rfl)]
          gi_big_op
          exact hK _ _ ⟨ha, ⟨fun k2 => hw0 (fun x => k2 (.inr x)), fun k1 k2 => hw1 (k1.elim (fun e => absurd e (by decide)) id) (fun x => k2 (.inr x)), fun k1 => hw2 (k1.elim (fun e => absurd e (by decide)) id)⟩, ⟨fun x => .inr (hc0 (x.elim (fun e => absurd e (by decide)) id)), fun x => .inr (hc1 (x.elim (fun e => absurd e (by decide)) id))⟩, _, _, _, _, _, _, _, _, _, _, _, _, _, _, _, _, _, _, _, _, _, _, _, rfl, fun h => h.elim (fun e => absurd e (by decide)) h0, fun h => h.elim (fun e => absurd e (by decide)) h1, fun h => h.elim (fun e => absurd e (by decide)) h2, fun h => h.elim (fun e => absurd e (by decide)) h3, fun h => h.elim (fun e => absurd e (by decide)) h4, fun h => h.elim (fun e => absurd e (by decide)) h5, fun h => h.elim (fun e => absurd e (by decide)) h6, fun _ => rfl, fun h => h.elim (fun e => absurd e (by decide)) h8, fun h => h.elim (fun e => absurd e (by decide)) h9, fun h => h.elim (fun e => absurd e (by decide)) h10, fun h => h.elim (fun e => absurd e (by decide)) h11, fun h => h.elim (fun e => absurd e (by decide)) h12, fun h => h.elim (fun e => absurd e (by decide)) h13, fun h => h.elim (fun e => absurd e (by decide)) h14, fun h => h.elim (fun e => absurd e (by decide)) h15, fun h => h.elim (fun e => absurd e (by decide)) h16, fun h => h.elim (fun e => absurd e (by decide)) h17, fun h => h.elim (fun e => absurd e (by decide)) h18, fun h => h.elim (fun e => absurd e (by decide)) h19, fun h => h.elim (fun e => absurd e (by decide)) h20, fun h => h.elim (fun e => absurd e (by decide)) h21, fun h => h.elim (fun e => absurd e (by decide)) h22⟩
        · simp only [List.getElem?_toArray, List.getElem?_cons_zero, List.getElem?_cons_succ, Option.some.injEq] at ho
          subst ho
          rw [if_pos (by rfl)]
          gi_big_op
          exact hK _ _ ⟨ha, ⟨fun k2 => hw0 (fun x => k2 (.inr x)), fun k1 k2 => hw1 (k1.elim (fun e => absurd e (by decide)) id) (fun x => k2 (.inr x)), fun k1 => hw2 (k1.elim (fun e => absurd e (by decide)) id)⟩, ⟨fun x => .inr (hc0 (x.elim (fun e => absurd e (by decide)) id)), fun x => .inr (hc1 (x.elim (fun e => absurd e (by decide)) id))⟩, _, _, _, _, _, _, _, _, _, _, _, _, _, _, _, _, _, _, _, _, _, _, _, rfl, fun h => h.elim (fun e => absurd e (by decide)) h0, fun h => h.elim (fun e => absurd e (by decide)) h1, fun h => h.elim (fun e => absurd e (by decide)) h2, fun h => h.elim (fun e => absurd e (by decide)) h3, fun h => h.elim (fun e => absurd e (by decide)) h4, fun h => h.elim (fun e => absurd e (by decide)) h5, fun h => h.elim (fun e => absurd e (by decide)) h6, fun h => h.elim (fun e => absurd e (by decide)) h7, fun _ => rfl, fun h => h.elim (fun e => absurd e (by decide)) h9, fun h => h.elim (fun e => absurd e (by decide)) h10, fun h => h.elim (fun e => absurd e (by decide)) h11, fun h => h.elim (fun e => absurd e (by decide)) h12, fun h => h.elim (fun e => absurd e (by decide)) h13, fun h => h.elim (fun e => absurd e (by decide)) h14, fun h => h.elim (fun e => absurd e (by decide)) h15, fun h => h.elim (fun e => absurd e (by decide)) h16, fun h => h.elim (fun e => absurd e (by decide)) h17, fun h => h.elim (fun e => absurd e (by decide)) h18, fun h => h.elim (fun e => absurd e (by decide)) h19, fun h => h.elim (fun e => absurd e (by decide)) h20, fun h => h.elim (fun e => absurd e (by decide)) h21, fun h => h.elim (fun e => absurd e (by decide)) h22⟩
        · simp only [List.getElem?_toArray, List.getElem?_cons_zero, List.getElem?_cons_succ, Option.some.injEq] at ho
          subst ho
          have b7 : dn 7 := hbf ⟨7, .data⟩ (by simp) rfl
          have b8 : dn 8 := hbf ⟨8, .data⟩ (by simp) rfl
          obtain rfl := h7 b7
          obtain rfl := h8 b8
          rw [if_pos (by rfl)]
          gi_big_op
          exact hK _ _ ⟨ha, ⟨fun k2 => hw0 (fun x => k2 (.inr x)), fun k1 k2 => hw1 (k1.elim (fun e => absurd e (by decide)) id) (fun x => k2 (.inr x)), fun k1 => hw2 (k1.elim (fun e => absurd e (by decide)) id)⟩, ⟨fun x => .inr (hc0 (x.elim (fun e => absurd e (by decide)) id)), fun x => .inr (hc1 (x.elim (fun e => absurd e (by decide)) id))⟩, _, _, _, _, _, _, _, _, _, _, _, _, _, _, _, _, _, _, _, _, _, _, _, rfl, fun h => h.elim (fun e => absurd e (by decide)) h0, fun h => h.elim (fun e => absurd e (by decide)) h1, fun h => h.elim (fun e => absurd e (by decide)) h2, fun h => h.elim (fun e => absurd e (by decide)) h3, fun h => h.elim (fun e => absurd e (by decide)) h4, fun h => h.elim (fun e => absurd e (by decide)) h5, fun h => h.elim (fun e => absurd e (by decide)) h6, fun h => h.elim (fun e => absurd e (by decide)) (fun _ => rfl), fun h => h.elim (fun e => absurd e (by decide)) (fun _ => rfl), fun _ => rfl, fun h => h.elim (fun e => absurd e (by decide)) h10, fun h => h.elim (fun e => absurd e (by decide)) h11, fun h => h.elim (fun e => absurd e (by decide)) h12, fun h => h.elim (fun e => absurd e (by decide)) h13, fun h => h.elim (fun e => absurd e (by decide)) h14, fun h => h.elim (fun e => absurd e (by decide)) h15, fun h => h.elim (fun e => absurd e (by decide)) h16, fun h => h.elim (fun e => absurd e (by decide)) h17, fun h => h.elim (fun e => absurd e (by decide)) h18, fun h => h.elim (fun e => absurd e (by decide)) h19, fun h => h.elim (fun e => absurd e (by decide)) h20, fun h => h.elim (fun e => absurd e (by decide)) h21, fun h => h.elim (fun e => absurd e (by decide)) h22⟩
        · simp only [List.getElem?_toArray, List.getElem?_cons_zero, List.getElem?_cons_succ, Option.some.injEq] at ho
          subst ho
          have b9 : dn 9 := hbf ⟨9, .data⟩ (by simp) rfl
          obtain rfl := h9 b9
          rw [if_pos (by rfl)]
          gi_big_op
          exact hK _ _ ⟨ha, ⟨fun k2 => hw0 (fun x => k2 (.inr x)), fun k1 k2 => hw1 (k1.elim (fun e => absurd e (by decide)) id) (fun x => k2 (.inr x)), fun k1 => hw2 (k1.elim (fun e => absurd e (by decide)) id)⟩, ⟨fun x => .inr (hc0 (x.elim (fun e => absurd e (by decide)) id)), fun x => .inr (hc1 (x.elim (fun e => absurd e (by decide)) id))⟩, _, _, _, _, _, _, _, _, _, _, _, _, _, _, _, _, _, _, _, _, _, _, _, rfl, fun h => h.elim (fun e => absurd e (by decide)) h0, fun h => h.elim (fun e => absurd e (by decide)) h1, fun h => h.elim (fun e => absurd e (by decide)) h2, fun h => h.elim (fun e => absurd e (by decide)) h3, fun h => h.elim (fun e => absurd e (by decide)) h4, fun h => h.elim (fun e => absurd e (by decide)) h5, fun h => h.elim (fun e => absurd e (by decide)) h6, fun h => h.elim (fun e => absurd e (by decide)) h7, fun h => h.elim (fun e => absurd e (by decide)) h8, fun h => h.elim (fun e => absurd e (by decide)) (fun _ => rfl), fun _ => rfl, fun h => h.elim (fun e => absurd e (by decide)) h11, fun h => h.elim (fun e => absurd e (by decide)) h12, fun h => h.elim (fun e => absurd e (by decide)) h13, fun h => h.elim (fun e => absurd e (by decide)) h14, fun h => h.elim (fun e => absurd e (by decide)) h15, fun h => h.elim (fun e => absurd e (by decide)) h16, fun h => h.elim (fun e => absurd e (by decide)) h17, fun h => h.elim (fun e => absurd e (by decide)) h18, fun h => h.elim (fun e => absurd e (by decide)) h19, fun h => h.elim (fun e => absurd e (by decide)) h20, fun h => h.elim (fun e => absurd e (by decide)) h21, fun h => h.elim (fun e => absurd e (by decide)) h22⟩
        · simp only [List.getElem?_toArray, List.getElem?_cons_zero, List.getElem?_cons_succ, Option.some.injEq] at ho
          subst ho
          have b5 : dn 5 := hbf ⟨5, .chain⟩ (by simp) rfl
          have b6 : dn 6 := hbf ⟨6, .data⟩ (by simp) rfl
          have b10 : dn 10 := hbf ⟨10, .data⟩ (by simp) rfl
          obtain rfl := h6 b6
          obtain rfl := h10 b10
          rw [if_pos (by rfl)]
          obtain ⟨dA, rA⟩ := hw1 b5 hni
          gi_wp2_with (refine ⟨trivial, ?_⟩; gi_at_call 60; refine (callsIn_wide.2 (refNextD_is rA HP.out HM.out)).mono ?_; rintro e wn ⟨rfl, d4, g4⟩)
          have hn := And.intro (dA.chg g4 hX2) d4
          exact ⟨g4.ext ha hR2, ⟨fun k2 => absurd (by simp [b5]) k2, fun k1 k2 => absurd (by simp) k2, fun k1 => hn⟩, ⟨fun _ => .inr b5, fun x => .inr (hc1 (x.elim (fun e => absurd e (by decide)) id))⟩, _, _, _, _, _, _, _, _, _, _, _, _, _, _, _, _, _, _, _, _, _, _, _, rfl, fun h => h.elim (fun e => absurd e (by decide)) h0, fun h => h.elim (fun e => absurd e (by decide)) h1, fun h => h.elim (fun e => absurd e (by decide)) h2, fun h => h.elim (fun e => absurd e (by decide)) h3, fun h => h.elim (fun e => absurd e (by decide)) h4, fun h => h.elim (fun e => absurd e (by decide)) h5, fun h => h.elim (fun e => absurd e (by decide)) (fun _ => rfl), fun h => h.elim (fun e => absurd e (by decide)) h7, fun h => h.elim (fun e => absurd e (by decide)) h8, fun h => h.elim (fun e => absurd e (by decide)) h9, fun h => h.elim (fun e => absurd e (by decide)) (fun _ => rfl), fun _ => rfl, fun h => h.elim (fun e => absurd e (by decide)) h12, fun h => h.elim (fun e => absurd e (by decide)) h13, fun h => h.elim (fun e => absurd e (by decide)) h14, fun h => h.elim (fun e => absurd e (by decide)) h15, fun h => h.elim (fun e => absurd e (by decide)) h16, fun h => h.elim (fun e => absurd e (by decide)) h17, fun h => h.elim (fun e => absurd e (by decide)) h18, fun h => h.elim (fun e => absurd e (by decide)) h19, fun h => h.elim (fun e => absurd e (by decide)) h20, fun h => h.elim (fun e => absurd e (by decide)) h21, fun h => h.elim (fun e => absurd e (by decide)) h22⟩
        · simp only [List.getElem?_toArray, List.getElem?_cons_zero, List.getElem?_cons_succ, Option.some.injEq] at ho
          subst ho
          have b5 : dn 5 := hbf ⟨5, .data⟩ (by simp) rfl
          have b11 : dn 11 := hbf ⟨11, .data⟩ (by simp) rfl
          obtain rfl := h5 b5
          obtain rfl := h11 b11
          rw [if_pos (by rfl)]
          gi_big_op
          exact hK _ _ ⟨ha, ⟨fun k2 => hw0 (fun x => k2 (.inr x)), fun k1 k2 => hw1 (k1.elim (fun e => absurd e (by decide)) id) (fun x => k2 (.inr x)), fun k1 => hw2 (k1.elim (fun e => absurd e (by decide)) id)⟩, ⟨fun x => .inr (hc0 (x.elim (fun e => absurd e (by decide)) id)), fun x => .inr (hc1 (x.elim (fun e => absurd e (by decide)) id))⟩, _, _, _, _, _, _, _, _, _, _, _, _, _, _, _, _, _, _, _, _, _, _, _, rfl, fun h => h.elim (fun e => absurd e (by decide)) h0, fun h => h.elim (fun e => absurd e (by decide)) h1, fun h => h.elim (fun e => absurd e (by decide)) h2, fun h => h.elim (fun e => absurd e (by decide)) h3, fun h => h.elim (fun e => absurd e (by decide)) h4, fun h => h.elim (fun e => absurd e (by decide)) (fun _ => rfl), fun h => h.elim (fun e => absurd e (by decide)) h6, fun h => h.elim (fun e => absurd e (by decide)) h7, fun h => h.elim (fun e => absurd e (by decide)) h8, fun h => h.elim (fun e => absurd e (by decide)) h9, fun h => h.elim (fun e => absurd e (by decide)) h10, fun h => h.elim (fun e => absurd e (by decide)) (fun _ => rfl), fun _ => rfl, fun h => h.elim (fun e => absurd e (by decide)) h13, fun h => h.elim (fun e => absurd e (by decide)) h14, fun h => h.elim (fun e => absurd e (by decide)) h15, fun h => h.elim (fun e => absurd e (by decide)) h16, fun h => h.elim (fun e => absurd e (by decide)) h17, fun h => h.elim (fun e => absurd e (by decide)) h18, fun h => h.elim (fun e => absurd e (by decide)) h19, fun h => h.elim (fun e => absurd e (by decide)) h20, fun h => h.elim (fun e => absurd e (by decide)) h21, fun h => h.elim (fun e => absurd e (by decide)) h22⟩
        · simp only [List.getElem?_toArray, List.getElem?_cons_zero, List.getElem?_cons_succ, Option.some.injEq] at ho
          subst ho
          have b11 : dn 11 := hbf ⟨11, .chain⟩ (by simp) rfl
          have b12 : dn 12 := hbf ⟨12, .data⟩ (by simp) rfl
          obtain rfl := h12 b12
          rw [if_pos (by rfl)]
          gi_big_op
          exact hK _ _ ⟨ha, ⟨fun k2 => hw0 (fun x => k2 (.inr x)), fun k1 k2 => hw1 (k1.elim (fun e => absurd e (by decide)) id) (fun x => k2 (.inr x)), fun k1 => hw2 (k1.elim (fun e => absurd e (by decide)) id)⟩, ⟨fun x => .inr (hc0 (x.elim (fun e => absurd e (by decide)) id)), fun _ => .inr b11⟩, _, _, _, _, _, _, _, _, _, _, _, _, _, _, _, _, _, _, _, _, _, _, _, rfl, fun h => h.elim (fun e => absurd e (by decide)) h0, fun h => h.elim (fun e => absurd e (by decide)) h1, fun h => h.elim (fun e => absurd e (by decide)) h2, fun h => h.elim (fun e => absurd e (by decide)) h3, fun h => h.elim (fun e => absurd e (by decide)) h4, fun h => h.elim (fun e => absurd e (by decide)) h5, fun h => h.elim (fun e => absurd e (by decide)) h6, fun h => h.elim (fun e => absurd e (by decide)) h7, fun h => h.elim (fun e => absurd e (by decide)) h8, fun h => h.elim (fun e => absurd e (by decide)) h9, fun h => h.elim (fun e => absurd e (by decide)) h10, fun h => h.elim (fun e => absurd e (by decide)) h11, fun h => h.elim (fun e => absurd e (by decide)) (fun _ => rfl), fun _ => rfl, fun h => h.elim (fun e => absurd e (by decide)) h14, fun h => h.elim (fun e => absurd e (by decide)) h15, fun h => h.elim (fun e => absurd e (by decide)) h16, fun h => h.elim (fun e => absurd e (by decide)) h17, fun h => h.elim (fun e => absurd e (by decide)) h18, fun h => h.elim (fun e => absurd e (by decide)) h19, fun h => h.elim (fun e => absurd e (by decide)) h20, fun h => h.elim (fun e => absurd e (by decide)) h21, fun h => h.elim (fun e => absurd e (by decide)) h22⟩
        · simp only [List.getElem?_toArray, List.getElem?_cons_zero, List.getElem?_cons_succ, Option.some.injEq] at ho
          subst ho
          have b13 : dn 13 := hbf ⟨13, .guard⟩ (by simp) rfl
          obtain rfl := h13 b13
          rw [if_pos (by rfl)]
          gi_big_op
          exact hK _ _ ⟨ha, ⟨fun k2 => hw0 (fun x => k2 (.inr x)), fun k1 k2 => hw1 (k1.elim (fun e => absurd e (by decide)) id) (fun x => k2 (.inr x)), fun k1 => hw2 (k1.elim (fun e => absurd e (by decide)) id)⟩, ⟨fun x => .inr (hc0 (x.elim (fun e => absurd e (by decide)) id)), fun x => .inr (hc1 (x.elim (fun e => absurd e (by decide)) id))⟩, _, _, _, _, _, _, _, _, _, _, _, _, _, _, _, _, _, _, _, _, _, _, _, rfl, fun h => h.elim (fun e => absurd e (by decide)) h0, fun h => h.elim (fun e => absurd e (by decide)) h1, fun h => h.elim (fun e => absurd e (by decide)) h2, fun h => h.elim (fun e => absurd e (by decide)) h3, fun h => h.elim (fun e => absurd e (by decide)) h4, fun h => h.elim (fun e => absurd e (by decide)) h5, fun h => h.elim (fun e => absurd e (by decide)) h6, fun h => h.elim (fun e => absurd e (by decide)) h7, fun h => h.elim (fun e => absurd e (by decide)) h8, fun h => h.elim (fun e => absurd e (by decide)) h9, fun h => h.elim (fun e => absurd e (by decide)) h10, fun h => h.elim (fun e => absurd e (by decide)) h11, fun h => h.elim (fun e => absurd e (by decide)) h12, fun h => h.elim (fun e => absurd e (by decide)) (fun _ => rfl), fun _ => rfl, fun h => h.elim (fun e => absurd e (by decide)) h15, fun h => h.elim (fun e => absurd e (by decide)) h16, fun h => h.elim (fun e => absurd e (by decide)) h17, fun h => h.elim (fun e => absurd e (by decide)) h18, fun h => h.elim (fun e => absurd e (by decide)) h19, fun h => h.elim (fun e => absurd e (by decide)) h20, fun h => h.elim (fun e => absurd e (by decide)) h21, fun h => h.elim (fun e => absurd e (by decide)) h22⟩
        · simp only [List.getElem?_toArray, List.getElem?_cons_zero, List.getElem?_cons_succ, Option.some.injEq] at ho
          subst ho
          have b13 : dn 13 := hbf ⟨13, .chain⟩ (by simp) rfl
          have b14 : dn 14 := hbf ⟨14, .data⟩ (by simp) rfl
          obtain rfl := h13 b13
          obtain rfl := h14 b14
          rw [if_pos (by rfl)]
          obtain ⟨dA, rA⟩ := hw2 (hc1 b13)
          gi_wp2_with (refine ⟨trivial, ?_⟩; gi_at_call 55; refine (callsIn_wide.2 (left_is dA rfl)).mono ?_; rintro e wn ⟨rfl, rfl⟩)
          exact ⟨ha, ⟨fun k2 => hw0 (fun x => k2 (.inr x)), fun k1 k2 => hw1 (k1.elim (fun e => absurd e (by decide)) id) (fun x => k2 (.inr x)), fun k1 => hw2 (k1.elim (fun e => absurd e (by decide)) id)⟩, ⟨fun x => .inr (hc0 (x.elim (fun e => absurd e (by decide)) id)), fun x => .inr (hc1 (x.elim (fun e => absurd e (by decide)) id))⟩, _, _, _, _, _, _, _, _, _, _, _, _, _, _, _, _, _, _, _, _, _, _, _, rfl, fun h => h.elim (fun e => absurd e (by decide)) h0, fun h => h.elim (fun e => absurd e (by decide)) h1, fun h => h.elim (fun e => absurd e (by decide)) h2, fun h => h.elim (fun e => absurd e (by decide)) h3, fun h => h.elim (fun e => absurd e (by decide)) h4, fun h => h.elim (fun e => absurd e (by decide)) h5, fun h => h.elim (fun e => absurd e (by decide)) h6, fun h => h.elim (fun e => absurd e (by decide)) h7, fun h => h.elim (fun e => absurd e (by decide)) h8, fun h => h.elim (fun e => absurd e (by decide)) h9, fun h => h.elim (fun e => absurd e (by decide)) h10, fun h => h.elim (fun e => absurd e (by decide)) h11, fun h => h.elim (fun e => absurd e (by decide)) h12, fun h => h.elim (fun e => absurd e (by decide)) (fun _ => rfl), fun h => h.elim (fun e => absurd e (by decide)) (fun _ => rfl), fun _ => rfl, fun h => h.elim (fun e => absurd e (by decide)) h16, fun h => h.elim (fun e => absurd e (by decide)) h17, fun h => h.elim (fun e => absurd e (by decide)) h18, fun h => h.elim (fun e => absurd e (by decide)) h19, fun h => h.elim (fun e => absurd e (by decide)) h20, fun h => h.elim (fun e => absurd e (by decide)) h21, fun h => h.elim (fun e => absurd e (by decide)) h22⟩
        · simp only [List.getElem?_toArray, List.getElem?_cons_zero, List.getElem?_cons_succ, Option.some.injEq] at ho
          subst ho
          have b13 : dn 13 := hbf ⟨13, .guard⟩ (by simp) rfl
          obtain rfl := h13 b13
          rw [if_pos (by rfl)]
          gi_big_op
          exact hK _ _ ⟨ha, ⟨fun k2 => hw0 (fun x => k2 (.inr x)), fun k1 k2 => hw1 (k1.elim (fun e => absurd e (by decide)) id) (fun x => k2 (.inr x)), fun k1 => hw2 (k1.elim (fun e => absurd e (by decide)) id)⟩, ⟨fun x => .inr (hc0 (x.elim (fun e => absurd e (by decide)) id)), fun x => .inr (hc1 (x.elim (fun e => absurd e (by decide)) id))⟩, _, _, _, _, _, _, _, _, _, _, _, _, _, _, _, _, _, _, _, _, _, _, _, rfl, fun h => h.elim (fun e => absurd e (by decide)) h0, fun h => h.elim (fun e => absurd e (by decide)) h1, fun h => h.elim (fun e => absurd e (by decide)) h2, fun h => h.elim (fun e => absurd e (by decide)) h3, fun h => h.elim (fun e => absurd e (by decide)) h4, fun h => h.elim (fun e => absurd e (by decide)) h5, fun h => h.elim (fun e => absurd e (by decide)) h6, fun h => h.elim (fun e => absurd e (by decide)) h7, fun h => h.elim (fun e => absurd e (by decide)) h8, fun h => h.elim (fun e => absurd e (by decide)) h9, fun h => h.elim (fun e => absurd e (by decide)) h10, fun h => h.elim (fun e => absurd e (by decide)) h11, fun h => h.elim (fun e => absurd e (by decide)) h12, fun h => h.elim (fun e => absurd e (by decide)) (fun _ => rfl), fun h => h.elim (fun e => absurd e (by decide)) h14, fun h => h.elim (fun e => absurd e (by decide)) h15, fun _ => rfl, fun h => h.elim (fun e => absurd e (by decide)) h17, fun h => h.elim (fun e => absurd e (by decide)) h18, fun h => h.elim (fun e => absurd e (by decide)) h19, fun h => h.elim (fun e => absurd e (by decide)) h20, fun h => h.elim (fun e => absurd e (by decide)) h21, fun h => h.elim (fun e => absurd e (by decide)) h22⟩
        · simp only [List.getElem?_toArray, List.getElem?_cons_zero, List.getElem?_cons_succ, Option.some.injEq] at ho
          subst ho
          have b13 : dn 13 := hbf ⟨13, .guard⟩ (by simp) rfl
          have b16 : dn 16 := hbf ⟨16, .data⟩ (by simp) rfl
          obtain rfl := h13 b13
          obtain rfl := h16 b16
          rw [if_pos (by rfl)]
          gi_big_op
          exact hK _ _ ⟨ha, ⟨fun k2 => hw0 (fun x => k2 (.inr x)), fun k1 k2 => hw1 (k1.elim (fun e => absurd e (by decide)) id) (fun x => k2 (.inr x)), fun k1 => hw2 (k1.elim (fun e => absurd e (by decide)) id)⟩, ⟨fun x => .inr (hc0 (x.elim (fun e => absurd e (by decide)) id)), fun x => .inr (hc1 (x.elim (fun e => absurd e (by decide)) id))⟩, _, _, _, _, _, _, _, _, _, _, _, _, _, _, _, _, _, _, _, _, _, _, _, rfl, fun h => h.elim (fun e => absurd e (by decide)) h0, fun h => h.elim (fun e => absurd e (by decide)) h1, fun h => h.elim (fun e => absurd e (by decide)) h2, fun h => h.elim (fun e => absurd e (by decide)) h3, fun h => h.elim (fun e => absurd e (by decide)) h4, fun h => h.elim (fun e => absurd e (by decide)) h5, fun h => h.elim (fun e => absurd e (by decide)) h6, fun h => h.elim (fun e => absurd e (by decide)) h7, fun h => h.elim (fun e => absurd e (by decide)) h8, fun h => h.elim (fun e => absurd e (by decide)) h9, fun h => h.elim (fun e => absurd e (by decide)) h10, fun h => h.elim (fun e => absurd e (by decide)) h11, fun h => h.elim (fun e => absurd e (by decide)) h12, fun h => h.elim (fun e => absurd e (by decide)) (fun _ => rfl), fun h => h.elim (fun e => absurd e (by decide)) h14, fun h => h.elim (fun e => absurd e (by decide)) h15, fun h => h.elim (fun e => absurd e (by decide)) (fun _ => rfl), fun _ => rfl, fun h => h.elim (fun e => absurd e (by decide)) h18, fun h => h.elim (fun e => absurd e (by decide)) h19, fun h => h.elim (fun e => absurd e (by decide)) h20, fun h => h.elim (fun e => absurd e (by decide)) h21, fun h => h.elim (fun e => absurd e (by decide)) h22⟩
        · simp only [List.getElem?_toArray, List.getElem?_cons_zero, List.getElem?_cons_succ, Option.some.injEq] at ho
          subst ho
          have b13 : dn 13 := hbf ⟨13, .guard⟩ (by simp) rfl
          have b17 : dn 17 := hbf ⟨17, .data⟩ (by simp) rfl
          obtain rfl := h13 b13
          obtain rfl := h17 b17
          rw [if_pos (by rfl)]
          gi_big_op
          exact hK _ _ ⟨ha, ⟨fun k2 => hw0 (fun x => k2 (.inr x)), fun k1 k2 => hw1 (k1.elim (fun e => absurd e (by decide)) id) (fun x => k2 (.inr x)), fun k1 => hw2 (k1.elim (fun e => absurd e (by decide)) id)⟩, ⟨fun x => .inr (hc0 (x.elim (fun e => absurd e (by decide)) id)), fun x => .inr (hc1 (x.elim (fun e => absurd e (by decide)) id))⟩, _, _, _, _, _, _, _, _, _, _, _, _, _, _, _, _, _, _, _, _, _, _, _, rfl, fun h => h.elim (fun e => absurd e (by decide)) h0, fun h => h.elim (fun e => absurd e (by decide)) h1, fun h => h.elim (fun e => absurd e (by decide)) h2, fun h => h.elim (fun e => absurd e (by decide)) h3, fun h => h.elim (fun e => absurd e (by decide)) h4, fun h => h.elim (fun e => absurd e (by decide)) h5, fun h => h.elim (fun e => absurd e (by decide)) h6, fun h => h.elim (fun e => absurd e (by decide)) h7, fun h => h.elim (fun e => absurd e (by decide)) h8, fun h => h.elim (fun e => absurd e (by decide)) h9, fun h => h.elim (fun e => absurd e (by decide)) h10, fun h => h.elim (fun e => absurd e (by decide)) h11, fun h => h.elim (fun e => absurd e (by decide)) h12, fun h => h.elim (fun e => absurd e (by decide)) (fun _ => rfl), fun h => h.elim (fun e => absurd e (by decide)) h14, fun h => h.elim (fun e => absurd e (by decide)) h15, fun h => h.elim (fun e => absurd e (by decide)) h16, fun h => h.elim (fun e => absurd e (by decide)) (fun _ => rfl), fun _ => rfl, fun h => h.elim (fun e => absurd e (by decide)) h19, fun h => h.elim (fun e => absurd e (by decide)) h20, fun h => h.elim (fun e => absurd e (by decide)) h21, fun h => h.elim (fun e => absurd e (by decide)) h22⟩
        · simp only [List.getElem?_toArray, List.getElem?_cons_zero, List.getElem?_cons_succ, Option.some.injEq] at ho
          subst ho
          have b13 : dn 13 := hbf ⟨13, .guard⟩ (by simp) rfl
          have b18 : dn 18 := hbf ⟨18, .data⟩ (by simp) rfl
          obtain rfl := h13 b13
          obtain rfl := h18 b18
          rw [if_pos (by rfl)]
          obtain ⟨dA, rA⟩ := hw2 (hc1 b13)
          obtain ⟨A9, c9, l9⟩ := rA.len
          gi_big_op
          refine hK _ _ ?_
          exact ⟨ha, ⟨fun k2 => hw0 (fun x => k2 (.inr x)), fun k1 k2 => hw1 (k1.elim (fun e => absurd e (by decide)) id) (fun x => k2 (.inr x)), fun k1 => hw2 (k1.elim (fun e => absurd e (by decide)) id)⟩, ⟨fun x => .inr (hc0 (x.elim (fun e => absurd e (by decide)) id)), fun x => .inr (hc1 (x.elim (fun e => absurd e (by decide)) id))⟩, _, _, _, _, _, _, _, _, _, _, _, _, _, _, _, _, _, _, _, _, _, _, _, rfl, fun h => h.elim (fun e => absurd e (by decide)) h0, fun h => h.elim (fun e => absurd e (by decide)) h1, fun h => h.elim (fun e => absurd e (by decide)) h2, fun h => h.elim (fun e => absurd e (by decide)) h3, fun h => h.elim (fun e => absurd e (by decide)) h4, fun h => h.elim (fun e => absurd e (by decide)) h5, fun h => h.elim (fun e => absurd e (by decide)) h6, fun h => h.elim (fun e => absurd e (by decide)) h7, fun h => h.elim (fun e => absurd e (by decide)) h8, fun h => h.elim (fun e => absurd e (by decide)) h9, fun h => h.elim (fun e => absurd e (by decide)) h10, fun h => h.elim (fun e => absurd e (by decide)) h11, fun h => h.elim (fun e => absurd e (by decide)) h12, fun h => h.elim (fun e => absurd e (by decide)) (fun _ => rfl), fun h => h.elim (fun e => absurd e (by decide)) h14, fun h => h.elim (fun e => absurd e (by decide)) h15, fun h => h.elim (fun e => absurd e (by decide)) h16, fun h => h.elim (fun e => absurd e (by decide)) h17, fun h => h.elim (fun e => absurd e (by decide)) (fun _ => rfl), fun _ => ⟨_, _, rfl⟩, fun h => h.elim (fun e => absurd e (by decide)) h20, fun h => h.elim (fun e => absurd e (by decide)) h21, fun h => h.elim (fun e => absurd e (by decide)) h22⟩
        · simp only [List.getElem?_toArray, List.getElem?_cons_zero, List.getElem?_cons_succ, Option.some.injEq] at ho
          subst ho
          have b13 : dn 13 := hbf ⟨13, .guard⟩ (by simp) rfl
          have b19 : dn 19 := hbf ⟨19, .data⟩ (by simp) rfl
          obtain rfl := h13 b13
          obtain ⟨A9, c9, rfl⟩ := h19 b19
          rw [if_pos (by rfl)]
          gi_big_op
          exact hK _ _ ⟨ha, ⟨fun k2 => hw0 (fun x => k2 (.inr x)), fun k1 k2 => hw1 (k1.elim (fun e => absurd e (by decide)) id) (fun x => k2 (.inr x)), fun k1 => hw2 (k1.elim (fun e => absurd e (by decide)) id)⟩, ⟨fun x => .inr (hc0 (x.elim (fun e => absurd e (by decide)) id)), fun x => .inr (hc1 (x.elim (fun e => absurd e (by decide)) id))⟩, _, _, _, _, _, _, _, _, _, _, _, _, _, _, _, _, _, _, _, _, _, _, _, rfl, fun h => h.elim (fun e => absurd e (by decide)) h0, fun h => h.elim (fun e => absurd e (by decide)) h1, fun h => h.elim (fun e => absurd e (by decide)) h2, fun h => h.elim (fun e => absurd e (by decide)) h3, fun h => h.elim (fun e => absurd e (by decide)) h4, fun h => h.elim (fun e => absurd e (by decide)) h5, fun h => h.elim (fun e => absurd e (by decide)) h6, fun h => h.elim (fun e => absurd e (by decide)) h7, fun h => h.elim (fun e => absurd e (by decide)) h8, fun h => h.elim (fun e => absurd e (by decide)) h9, fun h => h.elim (fun e => absurd e (by decide)) h10, fun h => h.elim (fun e => absurd e (by decide)) h11, fun h => h.elim (fun e => absurd e (by decide)) h12, fun h => h.elim (fun e => absurd e (by decide)) (fun _ => rfl), fun h => h.elim (fun e => absurd e (by decide)) h14, fun h => h.elim (fun e => absurd e (by decide)) h15, fun h => h.elim (fun e => absurd e (by decide)) h16, fun h => h.elim (fun e => absurd e (by decide)) h17, fun h => h.elim (fun e => absurd e (by decide)) h18, fun h => h.elim (fun e => absurd e (by decide)) (fun _ => ⟨_, _, rfl⟩), fun _ => rfl, fun h => h.elim (fun e => absurd e (by decide)) h21, fun h => h.elim (fun e => absurd e (by decide)) h22⟩
        · simp only [List.getElem?_toArray, List.getElem?_cons_zero, List.getElem?_cons_succ, Option.some.injEq] at ho
          subst ho
          have b13 : dn 13 := hbf ⟨13, .guard⟩ (by simp) rfl
          have b15 : dn 15 := hbf ⟨15, .data⟩ (by simp) rfl
          have b20 : dn 20 := hbf ⟨20, .data⟩ (by simp) rfl
          obtain rfl := h13 b13
          obtain rfl := h15 b15
          obtain rfl := h20 b20
          rw [if_pos (by rfl)]
          gi_big_op
          exact hK _ _ ⟨ha, ⟨fun k2 => hw0 (fun x => k2 (.inr x)), fun k1 k2 => hw1 (k1.elim (fun e => absurd e (by decide)) id) (fun x => k2 (.inr x)), fun k1 => hw2 (k1.elim (fun e => absurd e (by decide)) id)⟩, ⟨fun x => .inr (hc0 (x.elim (fun e => absurd e (by decide)) id)), fun x => .inr (hc1 (x.elim (fun e => absurd e (by decide)) id))⟩, _, _, _, _, _, _, _, _, _, _, _, _, _, _, _, _, _, _, _, _, _, _, _, rfl, fun h => h.elim (fun e => absurd e (by decide)) h0, fun h => h.elim (fun e => absurd e (by decide)) h1, fun h => h.elim (fun e => absurd e (by decide)) h2, fun h => h.elim (fun e => absurd e (by decide)) h3, fun h => h.elim (fun e => absurd e (by decide)) h4, fun h => h.elim (fun e => absurd e (by decide)) h5, fun h => h.elim (fun e => absurd e (by decide)) h6, fun h => h.elim (fun e => absurd e (by decide)) h7, fun h => h.elim (fun e => absurd e (by decide)) h8, fun h => h.elim (fun e => absurd e (by decide)) h9, fun h => h.elim (fun e => absurd e (by decide)) h10, fun h => h.elim (fun e => absurd e (by decide)) h11, fun h => h.elim (fun e => absurd e (by decide)) h12, fun h => h.elim (fun e => absurd e (by decide)) (fun _ => rfl), fun h => h.elim (fun e => absurd e (by decide)) h14, fun h => h.elim (fun e => absurd e (by decide)) (fun _ => rfl), fun h => h.elim (fun e => absurd e (by decide)) h16, fun h => h.elim (fun e => absurd e (by decide)) h17, fun h => h.elim (fun e => absurd e (by decide)) h18, fun h => h.elim (fun e => absurd e (by decide)) h19, fun h => h.elim (fun e => absurd e (by decide)) (fun _ => rfl), fun _ => rfl, fun h => h.elim (fun e => absurd e (by decide)) h22⟩
        · simp only [List.getElem?_toArray, List.getElem?_cons_zero, List.getElem?_cons_succ, Option.some.injEq] at ho
          subst ho
          have b13 : dn 13 := hbf ⟨13, .data⟩ (by simp) rfl
          have b21 : dn 21 := hbf ⟨21, .data⟩ (by simp) rfl
          obtain rfl := h13 b13
          obtain rfl := h21 b21
          rw [if_pos (by rfl)]
          gi_big_op
          exact hK _ _ ⟨ha, ⟨fun k2 => hw0 (fun x => k2 (.inr x)), fun k1 k2 => hw1 (k1.elim (fun e => absurd e (by decide)) id) (fun x => k2 (.inr x)), fun k1 => hw2 (k1.elim (fun e => absurd e (by decide)) id)⟩, ⟨fun x => .inr (hc0 (x.elim (fun e => absurd e (by decide)) id)), fun x => .inr (hc1 (x.elim (fun e => absurd e (by decide)) id))⟩, _, _, _, _, _, _, _, _, _, _, _, _, _, _, _, _, _, _, _, _, _, _, _, rfl, fun h => h.elim (fun e => absurd e (by decide)) h0, fun h => h.elim (fun e => absurd e (by decide)) h1, fun h => h.elim (fun e => absurd e (by decide)) h2, fun h => h.elim (fun e => absurd e (by decide)) h3, fun h => h.elim (fun e => absurd e (by decide)) h4, fun h => h.elim (fun e => absurd e (by decide)) h5, fun h => h.elim (fun e => absurd e (by decide)) h6, fun h => h.elim (fun e => absurd e (by decide)) h7, fun h => h.elim (fun e => absurd e (by decide)) h8, fun h => h.elim (fun e => absurd e (by decide)) h9, fun h => h.elim (fun e => absurd e (by decide)) h10, fun h => h.elim (fun e => absurd e (by decide)) h11, fun h => h.elim (fun e => absurd e (by decide)) h12, fun h => h.elim (fun e => absurd e (by decide)) (fun _ => rfl), fun h => h.elim (fun e => absurd e (by decide)) h14, fun h => h.elim (fun e => absurd e (by decide)) h15, fun h => h.elim (fun e => absurd e (by decide)) h16, fun h => h.elim (fun e => absurd e (by decide)) h17, fun h => h.elim (fun e => absurd e (by decide)) h18, fun h => h.elim (fun e => absurd e (by decide)) h19, fun h => h.elim (fun e => absurd e (by decide)) h20, fun h => h.elim (fun e => absurd e (by decide)) (fun _ => rfl), fun _ => rfl⟩
        · simp at ho
      case fin =>
        rintro dn aq wq ⟨ha, ⟨hw0, hw1, hw2⟩, _, u43, u44, u45, u46, u47, u48, u49, u50, u51, u52, u53, u54, u55, u56, u57, u58, u59, u60, u61, u62, u63, u64, u65, rfl, h0, h1, h2, h3, h4, h5, h6, h7, h8, h9, h10, h11, h12, h13, h14, h15, h16, h17, h18, h19, h20, h21, h22⟩ hall
        obtain rfl := h0 (hall 0 (by decide))
        obtain rfl := h1 (hall 1 (by decide))
        obtain rfl := h2 (hall 2 (by decide))
        obtain rfl := h3 (hall 3 (by decide))
        obtain rfl := h4 (hall 4 (by decide))
        obtain rfl := h5 (hall 5 (by decide))
        obtain rfl := h6 (hall 6 (by decide))
        obtain rfl := h7 (hall 7 (by decide))
        obtain rfl := h8 (hall 8 (by decide))
        obtain rfl := h9 (hall 9 (by decide))
        obtain rfl := h10 (hall 10 (by decide))
        obtain rfl := h11 (hall 11 (by decide))
        obtain rfl := h12 (hall 12 (by decide))
        obtain rfl := h13 (hall 13 (by decide))
        obtain rfl := h14 (hall 14 (by decide))
        obtain rfl := h15 (hall 15 (by decide))
        obtain rfl := h16 (hall 16 (by decide))
        obtain rfl := h17 (hall 17 (by decide))
        obtain rfl := h18 (hall 18 (by decide))
        obtain ⟨A9, c9, rfl⟩ := h19 (hall 19 (by decide))
        obtain rfl := h20 (hall 20 (by decide))
        obtain rfl := h21 (hall 21 (by decide))
        obtain rfl := h22 (hall 22 (by decide))
        have hz := hw2 (hall 11 (by decide))
        clear hall hw0 hw1 hw2
        obtain ⟨d5, r5⟩ := hz
        have y5 := ha
        have e9 : l.drop (j + 1) = m := by rw [← HM.out, List.tail_drop]
        have z5 := r5.lt
        go_wp2_with fail
        exact ⟨⟨j + 1, by omega, by go_num, by rw [e9]; exact d5, by rw [e9]; exact r5, y5, z5⟩, by simp [intOf]; omega⟩
      --E10
    · obtain rfl : j = k := by omega
      have hkl2 : ((j : Int) ≤ (keys.length : Int)) := by omega
      go_wp2_with fail
      refine (copy_any d3 (by rw [List.length_drop]; omega)).mono ?_; rintro e w5 ⟨R', D', V', rfl, x5, c5⟩
      have q' := eql_draws (some ⟨D', 0, none⟩)
      have d5 := d3.ext x5
      have r5 := r3.ext x5
      have y5 := y3.trans x5
      have hz6 := c5.2
      have hz7 := c5.lt
      have hz8 := x5.size
      have hzz := d3.lt
      clear d3 r3 y3 x5 q
      go_wp2_with fail
      generalize wr.heap.size = B4 at *
      have hR' : ∀ s ∈ [R', D'], w.heap.size ≤ s := fun s hs => by simp at hs; omega
      have hX3 : ∀ s ∈ [D2], s < B4 ∨ V' < s := fun s hs => by simp at hs; omega
      have hX4 : ∀ s ∈ [R, D], s < B4 ∨ V' < s := fun s hs => by simp at hs; omega
      have hX5 : ∀ s ∈ [R', D'], s < w1.heap.size ∨ V < s := fun s hs => by simp at hs; omega
      have hX6 : ∀ s ∈ [R', D'], s < w2.heap.size ∨ D2 < s := fun s hs => by simp at hs; omega
      have hX7 : ∀ s ∈ [D2], s < w5.heap.size := fun s hs => by simp at hs; omega
      have hX8 : ∀ s ∈ [R, D], s < w5.heap.size := fun s hs => by simp at hs; omega
      have hk9 : keys.length ≤ 1000 := by omega
      have hX9 : ∀ s ∈ [R', D'], s < w5.heap.size := fun s hs => by simp at hs; omega
      go_loopw [12, 13] (fun o i wq => ∃ n : Nat, j + n ≤ keys.length ∧ i = .int .i64 ((j + n : Nat) : Int) ∧ Own E64 29 1 w5.heap.size wq o (drawn (l.drop j) ((keys.drop j).take n)) ∧ Dr wq w1.heap.size R D V (l.drop j) ∧ Dr wq B4 R' D' V' (l.drop j) ∧ RDr wq D2 w2.heap.size ((l.drop j).drop n) ∧ Ext w wq ∧ w5.heap.size ≤ wq.heap.size) (fun _ i _ => keys.length - (intOf i).toNat)
      case atStart => exact ⟨0, by omega, rfl, Own.nil_ _ _ _, d5, c5, by simpa using r5, y5, Nat.le_refl _⟩
      case round =>
        clear d5 c5 r5 y5
        obtain ⟨n, hn, rfl, o5, d5, c5, r5, y5, hz9⟩ := hrel
        by_cases hlt2 : j + n < keys.length
        · obtain ⟨_, _, e, _, hr⟩ := hk'
          injection e with e1 e2 e3
          subst e1 e3
          obtain ⟨b, off, rfl, hb, hcs⟩ := hr (by intro h; rw [h] at hlt2; simp at hlt2)
          have hxk : keys[j + n]? = some (keys[j + n]'(by omega)) := List.getElem?_eq_getElem (by omega)
          generalize keys[j + n]'(by omega) = x at hxk
          have cx := Cells.elem EK_len hcs hxk 0 _ rfl
          rw [Nat.mul_one, Nat.add_zero] at cx
          have cx : wr.cell? ⟨b, off + (j + n), none⟩ = some (.int .i64 x) := (y5.cell (p := ⟨b, off + (j + n), none⟩) hb).trans cx
          have hx2 : (keys.drop j)[n]? = some x := by rw [List.getElem?_drop]; exact hxk
          have HX := Lib.hid hx2
          clear hx2
          have HO := Lib.hid o5
          have HK := Lib.hid hk9
          clear o5 hr hcs hxk hl'
          generalize hm : l.drop j = m at *
          clear hm
          have hlt3 : (j : Int) + (n : Int) < (keys.length : Int) := by omega
          go_wp2_with fail
          refine (refNextD_any r5 x).mono ?_; rintro e w6 ⟨rfl, r6, g6⟩
          have o6 := (HO.out.chg g6 hX7)
          have d6 := d5.chg g6 hX2
          have c6 := c5.chg g6 hX3
          have y6 := g6.ext y5 hR2
          have z6 := Nat.le_trans hz9 g6.size
          go_wp2_with (at_builtin; refine wpList_app (v := u12) u64E rfl (.tmp 77) (.tmp 84) rfl rfl rfl (o6.ext ((Ext.refl w6).alloc _)) (lit_sl (drawV (m.drop n) x) rfl) ?h1 ?h2 (Nat.le_trans z6 ((Ext.refl w6).alloc _).size) ?_; (case h1 => have := HK.out; simp only [maxLen, drawn_length, List.length_take, List.length_singleton, List.length_drop]; omega); (case h2 => have := HK.out; simp only [drawn_length, List.length_take, List.length_singleton, List.length_drop]; omega); intro v7 w7 o7 a7)
          have g7 := grown_chg a7.1
          have hS7 : ∀ s ∈ u12.ownBlock.toList, w5.heap.size ≤ s := fun s hs => (Own.lt (o6.ext ((Ext.refl w6).alloc (.cells #[.int .u64 (drawV (m.drop n) x)] 29))) s (by simpa using hs)).1
          have al := fun o => (Ext.refl w6).alloc o
          have z7 := Nat.le_trans (Nat.le_trans z6 (al (.cells #[.int .u64 (drawV (m.drop n) x)] 29)).size) g7.size
          have y7 := (y6.alloc (.cells #[.int .u64 (drawV (m.drop n) x)] 29)).grown a7.1 (fun s hs => by have := hS7 s (by simp [hs]); omega)
          exact ⟨⟨n + 1, by omega, congrArg (Value.int .i64) (by omega), (drawn_take HX.out) ▸ o7, (d6.ext (al _)).chg g7 (fun s hs => .inr (by have := hS7 s hs; omega)), (c6.ext (al _)).chg g7 (fun s hs => .inr (by have := hS7 s hs; omega)),
            by rw [← List.tail_drop]; exact (r6.ext (al _)).chg g7 (fun s hs => .inr (by have := hS7 s hs; omega)), y7, z7⟩, by simp [intOf]; omega⟩
        · obtain rfl : n = keys.length - j := by omega
          have htk : (keys.drop j).take (keys.length - j) = keys.drop j := List.take_of_length_le (by rw [List.length_drop]; omega)
          rw [htk] at o5
          have sk := (hk'.slB.mono hz1).ext y5
          have hsk := SlB.cut EK_len sk j hkl
          have hi64 : (Try.prog.info? 2).map (fun i => (i.zero, i.size, i.bytes)) = some (some (.int .i64 0), 1, 8) := by kernel_rfl
          obtain ⟨i0, hi, _, hsz, _⟩ := info_parts hi64
          have hcut := run_cut_l (P := Try.prog) Try.underlying45 hi hsz A2 (n := keys.length) (c := c2) j j rfl hkl
          have HSK := Lib.hid hsk.2
          clear hsk sk htk hi64 hi hsz
          generalize cutA 1 A2 c2 j = A3 at *
          generalize hks : keys.drop j = ks at *
          have hksl : ks.length = keys.length - j := by rw [← hks, List.length_drop]
          clear hks
          go_wp2_with fail
          have hk10 : ks.length ≤ 1000 := by omega
          refine (many_any d5 (HSK.out) hk10).mono ?_; rintro e w6 ⟨va, rfl, d6, g6, o6⟩
          have c6 := c5.chg g6 hX4
          have r6 := r5.chg g6 hX1
          have o6' := o5.chg g6 hX8
          have y6 := g6.ext y5 hR
          have s6 := HSK.out.chg g6 (fun s hs => .inr (by simp at hs; omega))
          have z6 := Nat.le_trans hz9 g6.size
          have hY9 : ∀ s ∈ [R', D'], s < wr.heap.size := fun s hs => by have := hX9 s hs; omega
          clear d5 c5 r5 y5 o5 g6
          go_wp2_with fail
          refine (many_any c6 (s6.mono (by omega)) hk10).mono ?_; rintro e w7 ⟨vb, rfl, c7, g7, o7⟩
          have d7 := d6.chg g7 hX5
          have r7 := r6.chg g7 hX6
          have ow := (o6'.chg g7 hX9).sl E64_len (by omega)
          have oa := (o6.chg g7 hY9).sl E64_len (by omega)
          have ob := o7.sl E64_len (by omega)
          have y7 := g7.ext y6 hR'
          clear c6 d6 r6 o6 o6' o7 y6 g7 s6 HSK
          rw [← hksl] at r7
          generalize hdl : drawn (l.drop j) ks = dl at *
          have hdll : dl.length ≤ 9223372036854775807 := by rw [← hdl, drawn_length]; omega
          generalize hml : (l.drop j).drop ks.length = ml' at *
          clear hdl hml
          obtain ⟨A9, c9, l9⟩ := r7.len
          obtain ⟨a8, rfl⟩ : ∃ n : Nat, a = n := ⟨a.toNat, by omega⟩
          have hD : D2 < w7.heap.size := r7.lt
          have sab := fun (W : World) (x : Ext w7 W) => sameU_any (oa.ext x) (ow.ext x) hdll hdll
          have sbb := fun (W : World) (x : Ext w7 W) => sameU_any (ob.ext x) (ow.ext x) hdll hdll
          simp only [decide_true] at sab sbb
          have lda := fun (W : World) (x : Ext w7 W) => left_is (d7.ext x) rfl
          have ldb := fun (W : World) (x : Ext w7 W) => left_is (c7.ext x) rfl
          have HA := Lib.hid sab
          have HB := Lib.hid sbb
          have HC := Lib.hid lda
          have HE := Lib.hid ldb
          have y0 := Ext.refl w7
          have HY := Lib.hid y7
          have l0 := fun (W : World) (x : Ext w7 W) => x.cell (p := ⟨D2, 0, none⟩) hD
          have HL := Lib.hid l0
          clear sab sbb lda ldb d7 c7 r7 oa ob ow y7 l0 hY9 hX9 hX8 hX7 hX6 hX5 hX4 hX3 hX2 hX1 hR hR' hR2
          go_wp2_with fail
          go_region_held3 (fun w' => w'.cell? ⟨D2, 0, none⟩ = some (.slice A9 ml'.length c9)) (go_keep)
            (first
              | (go_at_call_of 58 va; refine (HA.out _ (by first | exact y0 | exact y0.drew)).mono ?_; rintro e wa ⟨rfl, xa⟩; have y0 : Ext w7 wa := (by first | exact Ext.trans y0 xa | exact (Ext.drew y0).trans xa); have k0 := HL.out _ y0)
              | (go_at_call_of 58 vb; refine (HB.out _ (by first | exact y0 | exact y0.drew)).mono ?_; rintro e wb ⟨rfl, xb⟩; have y0 : Ext w7 wb := (by first | exact Ext.trans y0 xb | exact (Ext.drew y0).trans xb); have k0 := HL.out _ y0)
              | (go_at_call 55; first | (refine (HC.out _ y0).mono ?_; rintro e w' ⟨rfl, rfl⟩) | (refine (HE.out _ y0).mono ?_; rintro e w' ⟨rfl, rfl⟩))
              | (go_at_call 62; refine (nothing_any _ _).mono ?_; rintro e wc ⟨rfl, xc⟩; have y0 : Ext w7 wc := Ext.trans y0 xc; have k0 := HL.out _ y0)
              | (go_at_call 52; refine (alive08 _).mono ?_; rintro e wd ⟨rfl, xd⟩; have y0 : Ext w7 wd := Ext.trans y0 xd; have k0 := HL.out _ y0))
          go_wp2_with fail
          go_ret
          exact ⟨rfl, HY.out.trans y0⟩
end Go.Proofs.Ytlehcagpddgamaa
