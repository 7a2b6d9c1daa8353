/- Package draw: Many. -/
import Derived.Test.YtlehcagpddgamaaDrawB
namespace Go.Proofs.Ytlehcagpddgamaa
open Go.RowKit

/-- A key's cell. -/
def EK (n : Int) : List Value := [.int .i64 n]
theorem EK_len (n : Int) : (EK n).length = 1 := rfl
/-- What is drawn for keys. -/
def drawn : List Int → List Int → List Int
  | _, [] => []
  | l, k :: ks => drawV l k :: drawn l.tail ks
theorem drawn_length : ∀ (l ks : List Int), (drawn l ks).length = ks.length
  | _, [] => rfl
  | l, k :: ks => by simp [drawn, drawn_length l.tail ks]
theorem drawn_snoc : ∀ (l ks : List Int) (k : Int), drawn l (ks ++ [k]) = drawn l ks ++ [drawV (l.drop ks.length) k]
  | l, [], k => by simp [drawn]
  | l, a :: ks, k => by
    have := drawn_snoc l.tail ks k
    simp only [List.cons_append, drawn, this, List.length_cons]
    rw [show l.drop (ks.length + 1) = l.tail.drop ks.length from by simp]
theorem drawn_take {l ks : List Int} {i : Nat} {k : Int} (h : ks[i]? = some k) : drawn l (ks.take (i + 1)) = drawn l (ks.take i) ++ [drawV (l.drop i) k] := by
  have hi := (List.getElem?_eq_some_iff.1 h).1
  rw [List.take_add_one, h, Option.toList_some, drawn_snoc, List.length_take, Nat.min_eq_left (by omega)]

theorem Chg.grown {S : List Nat} {a w w' : World} {row : Option Nat} (h : Chg S a w) (hg : w.grownBy w' row) (hr : ∀ k, row = some k → a.heap.size ≤ k) : Chg S a w' :=
  ⟨hg.os.trans h.os, hg.tape.trans h.tape, hg.output.trans h.output, Nat.le_trans h.size hg.size, fun i hi hn =>
    (hg.block i (Nat.lt_of_lt_of_le hi h.size) (fun e => by have := hr i e.symm; omega)).trans (h.block i hi hn)⟩
theorem grown_chg {w w' : World} {row : Option Nat} (hg : w.grownBy w' row) : Chg row.toList w w' :=
  ⟨hg.os, hg.tape, hg.output, hg.size, fun i hi hn => hg.block i hi (fun e => hn (by simp [← e]))⟩
theorem Own.chg {α : Type} {enc : α → List Value} {sz e base : Nat} {w w' : World} {v : Value} {l : List α} {S : List Nat} (h : Own enc e sz base w v l) (k : Chg S w w') (hS : ∀ s ∈ S, s < base) : Own enc e sz base w' v l := by
  refine ⟨h.1, ?_⟩
  rcases h.2 with h2 | ⟨g, cap, cur, hv, hg, hh, r⟩
  · exact .inl h2
  · exact .inr ⟨g, cap, cur, hv, hg, (k.block g (Array.getElem?_eq_some_iff.1 hh).1 (fun hm => by have := hS g hm; omega)).trans hh, r⟩

set_option maxRecDepth 100000 in
set_option maxHeartbeats 4000000 in
theorem many_any {w : World} {B R D V : Nat} {l ks : List Int} {kv : Value} (h : Dr w B R D V l) (hk : SlB EK 0 B w kv ks) (hm : ks.length ≤ 1000) :
    Calls Try.prog 57 #[.pointer (some ⟨D, 0, none⟩), kv] w fun e w' => ∃ v', e = .returned v' ∧ Dr w' B R D V (l.drop ks.length) ∧ Chg [R, D] w w' ∧ Own E64 29 1 w.heap.size w' v' (drawn l ks) := by
  obtain ⟨A, c, rfl, hc, hr⟩ := hk
  have hlt := h.lt
  have hlo := h.2
  go_enter Try.func57, Try.ntmps57
  go_wp2_with fail
  go_loopw [4, 9] (fun o i wr => ∃ k : Nat, k ≤ ks.length ∧ i = .int .i64 k ∧ Own E64 29 1 w.heap.size wr o (drawn l (ks.take k)) ∧ Dr wr B R D V (l.drop k) ∧ Chg [R, D] w wr) (fun _ i _ => ks.length - (intOf i).toNat)
  case atStart => exact ⟨0, Nat.zero_le _, rfl, Own.nil_ _ _ _, by simpa using h, Chg.refl _ _⟩
  case round =>
    obtain ⟨k, hkl, rfl, o1, d1, g1⟩ := hrel
    by_cases hlt2 : k < ks.length
    · obtain ⟨b, off, rfl, hb, hcs⟩ := hr (by intro h; rw [h] at hlt2; simp at hlt2)
      have hxk : ks[k]? = some ks[k] := List.getElem?_eq_getElem hlt2
      generalize ks[k] = x at hxk
      have cx : wr.cell? ⟨b, off + k, none⟩ = some (.int .i64 x) := by
        have h1 := Cells.elem EK_len hcs hxk 0 (.int .i64 x) rfl
        rw [Nat.mul_one, Nat.add_zero] at h1
        exact (g1.cell (p := ⟨b, off + k, none⟩) hb.2.2 (by simp; omega)).trans h1
      have HX := Lib.hid hxk
      have HK := Lib.hid hm
      have hk9 : ks.length ≤ 1000 := hm
      have HO := Lib.hid o1
      have HD := Lib.hid d1
      have HG := Lib.hid g1
      have HT := Lib.hid hlt
      have HL := Lib.hid hlo
      clear hxk hm o1 hr h hcs hb d1 g1 hlt hlo
      go_wp2_with fail
      refine (next_any HD.out x).mono ?_
      rintro e w2 ⟨rfl, d2, g2⟩
      have hS : ∀ s ∈ [R, D], s < w.heap.size := fun s hs => by
        have h1 := HT.out
        have h2 := HL.out
        simp at hs
        omega
      have o2 := HO.out.chg g2 hS
      have z2 := Nat.le_trans HG.out.size g2.size
      go_wp2_with (at_builtin; refine wpList_app (v := u4) u64E rfl (.tmp 13) (.tmp 17) rfl rfl rfl (o2.ext ((Ext.refl w2).alloc _)) (lit_sl (drawV (l.drop k) x) rfl) ?h1 ?h2 (Nat.le_trans z2 ((Ext.refl w2).alloc _).size) ?_; (case h1 => have := HK.out; simp only [maxLen, drawn_length, List.length_take, List.length_singleton]; omega); (case h2 => have := HK.out; simp only [drawn_length, List.length_take, List.length_singleton]; omega); intro v3 w3 o3 a3)
      have d3 := (d2.ext ((Ext.refl w2).alloc (.cells #[.int .u64 (drawV (l.drop k) x)] 29))).chg (grown_chg a3.1) (fun s hs => .inr (by have h1 := (Own.lt (o2.ext ((Ext.refl w2).alloc (.cells #[.int .u64 (drawV (l.drop k) x)] 29))) s (by simpa using hs)).1; have h2 := HT.out; omega))
      have g3 := ((HG.out.trans g2).trans (((Ext.refl w2).alloc (.cells #[.int .u64 (drawV (l.drop k) x)] 29)).chg _)).grown a3.1 (fun j hj => (Own.lt (o2.ext ((Ext.refl w2).alloc (.cells #[.int .u64 (drawV (l.drop k) x)] 29))) j hj).1)
      exact ⟨⟨k + 1, by omega, by go_num, (drawn_take HX.out) ▸ o3, by simpa using d3, g3⟩, by simp [intOf]; omega⟩
    · obtain rfl : k = ks.length := by omega
      go_wp2_with fail
      go_ret
      exact ⟨_, rfl, d1, g1, by simpa using o1⟩
end Go.Proofs.Ytlehcagpddgamaa
