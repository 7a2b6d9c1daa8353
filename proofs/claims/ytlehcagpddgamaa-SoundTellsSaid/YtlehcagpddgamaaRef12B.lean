/- The document's answer of chapter 12: wrong, first, Check. -/
import Derived.Test.YtlehcagpddgamaaRef12
namespace Go.Proofs.Ytlehcagpddgamaa
open Go.RowKit
set_option linter.unusedVariables false

/-- Does a key stand as it has to beside one bound? -/
def okP (o : Nat) (p : Int × Bool) (a : Int) : Bool := if p.2 then decide (cmpK o p.1 a < 0) else decide (0 < cmpK o p.1 a)
def okL (o : Nat) (L : List (Int × Bool)) (a : Int) : Bool := L.all fun p => okP o p a
theorem okL_okB {o : Nat} {a : Int} : ∀ B : List (Int × Bool), okB o B a = okL o B.reverse a
  | [] => rfl
  | (k, r) :: B => by
    rw [okB, okL_okB B]
    unfold okL
    rw [List.reverse_cons, List.all_append, List.all_cons, List.all_nil, Bool.and_true]
    congr 1
    unfold okP
    cases r
    · simp only [Bool.false_eq_true, if_false]
      rw [decide_eq_decide, cmpK_lt, cmpK_gt]
    · simp only [if_true]
      rw [decide_eq_decide, cmpK_lt, cmpK_gt]
theorem okL_take {o : Nat} {a : Int} {L : List (Int × Bool)} {k : Nat} {p : Int × Bool} (hp : L[k]? = some p) (h : okL o (L.take k) a = true) : okL o (L.take (k + 1)) a = okP o p a := by
  unfold okL at *
  rw [List.take_add_one, hp, List.all_append, h]
  simp
theorem okL_no {o : Nat} {a : Int} {L : List (Int × Bool)} {k : Nat} {p : Int × Bool} (hp : L[k]? = some p) (h : okP o p a = false) : okL o L a = false := by
  unfold okL
  rw [List.all_eq_false]
  exact ⟨p, List.mem_of_getElem? hp, by simp [h]⟩
set_option maxRecDepth 100000 in
set_option maxHeartbeats 4000000 in
theorem wrong_any {o : Nat} (h1 : 1 ≤ o) (h2 : o ≤ 7) {L : List (Int × Bool)} {key : Int} {v : Value} {w : World} (h : Sl EBd w v L) (hm : L.length ≤ 1000000) (hL : ∀ p ∈ L, InR p.1) (hk : InR key) :
    Calls Try.prog 199 #[.int .u8 (o : Int), .int .i64 key, v] w fun e w' => e = .returned (.bool (!okL o L key)) ∧ Ext w w' := by
  obtain ⟨A, c, rfl, hc, hr⟩ := h
  have CK := Lib.hid (fun (x : Int) (hx : InR x) (W : World) => rcompareK h1 h2 hx hk W)
  clear h1 h2 hk
  go_enter Try.func199, Try.ntmps199
  go_wp2_with fail
  go_loopw [7, 8] (fun i c8 wr => ∃ k : Nat, k ≤ L.length ∧ i = .int .i64 k ∧ okL o (L.take k) key = true ∧ Ext w wr) (fun i _ _ => L.length - (intOf i).toNat)
  case atStart => exact ⟨0, Nat.zero_le _, rfl, rfl, Ext.refl w⟩
  case round =>
    obtain ⟨k, hkl, rfl, ht, hx⟩ := hrel
    have HT := Lib.hid ht
    clear ht
    by_cases hlt : k < L.length
    · obtain ⟨b, off, rfl, hb, hcs⟩ := hr (by intro h; rw [h] at hlt; simp at hlt)
      have hxk : L[k]? = some L[k] := List.getElem?_eq_getElem hlt
      have hin := hL _ (List.getElem_mem hlt)
      generalize L[k] = p at hxk hin
      obtain ⟨pk, pb⟩ := p
      have hcell : ∀ W : World, Ext w W → W.cell? ⟨b, off + k * 2, none⟩ = some (.int .i64 pk) ∧ W.cell? ⟨b, off + k * 2 + 1, none⟩ = some (.bool pb) := by
        intro W X
        have h := Cells.elem EBd_len (hcs.ext X hb) hxk
        exact ⟨h 0 _ rfl, h 1 _ rfl⟩
      have hlt2 : (k : Int) < (L.length : Int) := by omega
      have HC := Lib.hid hcell
      have HK := Lib.hid hxk
      have HX := Lib.hid hx
      have CC := Lib.hid (fun W => CK.out pk hin W)
      obtain ⟨c0, c1⟩ := hcell _ hx
      have ho1 : okP o (pk, pb) key = if pb then decide (cmpK o pk key < 0) else decide (0 < cmpK o pk key) := rfl
      generalize cmpK o pk key = cc at *
      have HO := Lib.hid ho1
      clear hcell hxk hcs hr hL hin CK ho1 hx
      go_wp2_with fail
      refine (CC.out _).mono ?_; rintro e w1 ⟨rfl, x1⟩
      obtain ⟨c0, c1⟩ := HC.out _ (HX.out.trans x1)
      cases pb with
      | false =>
        by_cases hz : 0 < cc
        · have ho : okL o (L.take (k + 1)) key = true := by rw [okL_take HK.out HT.out, HO.out]; simpa using hz
          have HH := Lib.hid ho
          have d1 : ¬ cc ≤ 0 := by omega
          clear ho
          go_wp2_with fail
          exact ⟨⟨k + 1, by omega, by go_num, HH.out, HX.out.trans x1⟩, by simp [intOf]; omega⟩
        · have ho := okL_no HK.out (a := key) (o := o) (by rw [HO.out]; simpa using hz)
          have HH := Lib.hid ho
          have d1 : cc ≤ 0 := by omega
          clear ho
          go_wp2_with fail
          go_ret
          exact ⟨by rw [HH.out]; rfl, HX.out.trans x1⟩
      | true =>
        by_cases hz : cc < 0
        · have ho : okL o (L.take (k + 1)) key = true := by rw [okL_take HK.out HT.out, HO.out]; simpa using hz
          have HH := Lib.hid ho
          have d1 : ¬ 0 ≤ cc := by omega
          clear ho
          go_wp2_with fail
          exact ⟨⟨k + 1, by omega, by go_num, HH.out, HX.out.trans x1⟩, by simp [intOf]; omega⟩
        · have ho := okL_no HK.out (a := key) (o := o) (by rw [HO.out]; simpa using hz)
          have HH := Lib.hid ho
          have d1 : 0 ≤ cc := by omega
          clear ho
          go_wp2_with fail
          go_ret
          exact ⟨by rw [HH.out]; rfl, HX.out.trans x1⟩
    · have hge : L.length ≤ k := by omega
      have ht := HT.out
      rw [List.take_of_length_le hge] at ht
      have HH := Lib.hid ht
      clear ht
      go_wp2_with fail
      go_ret
      exact ⟨by rw [HH.out]; rfl, hx⟩
end Go.Proofs.Ytlehcagpddgamaa
