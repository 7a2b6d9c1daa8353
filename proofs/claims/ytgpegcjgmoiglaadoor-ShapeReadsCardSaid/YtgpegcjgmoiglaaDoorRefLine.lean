/- joineryref11.Line: the document's line of beads. -/
import Derived.Test.YtgpegcjgmoiglaaDoorLineD
import Derived.Test.YtgpegcjgmoiglaaDoorMake
import Derived.Deep.RegionHeld3
namespace Go.Proofs.YtgpegcjgmoiglaaDoor
open Go.RowKit Go.Lib
set_option linter.unusedVariables false

theorem bytes_is {s : ByteArray} {l : List UInt8} (h : s.data.toList = l) : s = ⟨l.toArray⟩ := by
  subst h; cases s; simp
set_option maxRecDepth 100000 in
set_option maxHeartbeats 8000000 in
theorem refLine_any (t : T) : ∀ {l : List Bead} {v : Value} {w : World}, Laid w → Sl Bead.enc w v l → Ser l t → t.height ≤ 5001 → l.length ≤ 1000000 → RngT t →
    Calls Tryd.prog 15 #[v] w fun e w' => e = .returned (.string ⟨(lineT t).toArray⟩) ∧ Ext w w' := by
  induction t with
  | nil =>
    intro l v w _ h hs _ _ _
    obtain rfl : l = [] := hs
    obtain ⟨A, c, rfl, hc, hr⟩ := h
    go_enter Tryd.func15, Tryd.ntmps15
    go_wp2_with fail
    go_ret
    exact ⟨rfl, Ext.refl w⟩
  | node k x g a b iha ihb =>
    intro l v w hl0 h hs hh hm hr
    have hsz : (T.node k x g a b).size ≤ 1000000 := by rw [← hs.length]; exact hm
    obtain ⟨hk, hx, hg, hra, hrb⟩ := hr
    obtain ⟨y, la, lb, hl, rfl, rfl, rfl, e4, e5, sa, sb, p1, p2⟩ := ser_parts hs hh
    have hlen : 0 < l.length := by rw [hl]; simp
    have hla : la.length ≤ 1000000 := by rw [hl] at hm; simp at hm; omega
    have hlb : lb.length ≤ 1000000 := by rw [hl] at hm; simp at hm; omega
    simp only [T.height] at hh
    simp only [T.size] at hsz
    have hp := fun (W : World) (X : Ext w W) => parts_any (h.ext X) hl hm p1 p2
    have hz : ((l.length : Int) == 0) = false := by simp; intro h; rw [h] at hlen; simp at hlen
    have h1 := lineT_len hra
    have h2 := lineT_len hrb
    have h3 := itoa_len _ hk
    have h4 := itoa_len _ hx
    have n1 : ¬ 9223372036854775807 < 1 + (lineT a).length := by omega
    have n2 : ¬ 9223372036854775807 < 1 + (lineT a).length + 1 := by omega
    have n3 : ¬ 9223372036854775807 < 1 + (lineT a).length + 1 + (itoa y.key).length := by omega
    have n4 : ¬ 9223372036854775807 < 1 + (lineT a).length + 1 + (itoa y.key).length + 1 := by omega
    have n5 : ¬ 9223372036854775807 < 1 + (lineT a).length + 1 + (itoa y.key).length + 1 + (itoa y.val).length := by omega
    have HS := Lib.hid (And.intro hsz (And.intro h1 (And.intro h2 (And.intro h3 h4))))
    have HK := Lib.hid hk
    have HX := Lib.hid hx
    obtain ⟨u, hu⟩ : ∃ u : Nat, (u : Int) = y.tag := ⟨y.tag.toNat, by omega⟩
    have hu64 : u < 18446744073709551616 := by omega
    have FU := Lib.hid (fun (W : World) (X : Ext w W) => fmtU u hu64 (hl0.ext X))
    rw [hu] at FU
    have h5 := dec_len u hu64
    have HU := Lib.hid (And.intro hu h5)
    have IA := Lib.hid (fun (v : Value) (W : World) (X : Ext w W) (ha : Sl Bead.enc W v la) => iha (hl0.ext X) ha sa (by omega) hla hra)
    have IB := Lib.hid (fun (v : Value) (W : World) (X : Ext w W) (hb : Sl Bead.enc W v lb) => ihb (hl0.ext X) hb sb (by omega) hlb hrb)
    have L0 := Lib.hid hl0
    obtain ⟨A, c, rfl, hc, hr⟩ := h
    have HP := Lib.hid hp
    clear hp hl p1 p2 e4 e5 hs hk hx hg h1 h2 h3 h4 hsz iha ihb hl0 hh hm hra hrb hla hlb sa sb hc hr hu hu64 h5
    go_enter Tryd.func15, Tryd.ntmps15
    go_wp2_with fail
    refine (HP.out _ (Ext.refl w)).mono ?_; rintro e w1 ⟨va, vb, rfl, ha, hb, x1⟩
    have HB := Lib.hid hb
    clear hb
    go_wp2_with fail
    go_region_held3 (fun w' => w'.cell? ⟨w1.heap.size, 0, none⟩ = some (.int .i64 y.key) ∧ w'.cell? ⟨w1.heap.size, 1, none⟩ = some (.int .i64 y.val)) (go_keep)
      (first
        | (go_at_call 15; refine (IA.out _ _ ((x1.alloc _).drew) (ha.ext (x1.alloc _).drew)).mono ?_; rintro e w2 ⟨rfl, x2⟩; have k2 := fun o : Nat => x2.cell (p := ⟨w1.heap.size, o, none⟩) (by simp))
        | (go_at_call_of 38 (Value.int IntKind.i64 y.key); refine (fmtI y.key HK.out.1 HK.out.2 (L0.out.ext ((x1.alloc _).drew.trans x2))).mono ?_; rintro e w3 ⟨rfl, x3⟩; have k3 := fun o : Nat => (x2.trans x3).cell (p := ⟨w1.heap.size, o, none⟩) (by simp))
        | (go_at_call_of 38 (Value.int IntKind.i64 y.val); refine (fmtI y.val HX.out.1 HX.out.2 (L0.out.ext (((x1.alloc _).drew.trans x2).trans x3))).mono ?_; rintro e w4 ⟨rfl, x4⟩; have k4 := fun o : Nat => ((x2.trans x3).trans x4).cell (p := ⟨w1.heap.size, o, none⟩) (by simp)))
    have y4 := (((x1.alloc (.cells #[.int .i64 y.key, .int .i64 y.val, .int .i64 y.sum, .int .i64 y.size, .int .u64 y.tag, .bool y.left, .bool y.right] 44)).drew.trans x2).trans x3).trans x4
    have c4 : w4.cell? ⟨w1.heap.size, 4, none⟩ = some (.int .u64 y.tag) := by
      rw [k4 4]
      exact (Blk.new w1 44 #[.int .i64 y.key, .int .i64 y.val, .int .i64 y.sum, .int .i64 y.size, .int .u64 y.tag, .bool y.left, .bool y.right]).cell 4
    generalize hs4 : ((⟨#[40]⟩ : ByteArray) ++ ⟨(lineT a).toArray⟩ ++ ⟨#[32]⟩ ++ ⟨(itoa y.key).toArray⟩ ++ ⟨#[58]⟩ ++ ⟨(itoa y.val).toArray⟩) = s4
    have e4 : s4.data.toList = 40 :: (lineT a ++ 32 :: (itoa y.key ++ 58 :: itoa y.val)) := by rw [← hs4]; simp
    have q4 : s4.size = 1 + (lineT a).length + 1 + (itoa y.key).length + 1 + (itoa y.val).length := by
      have : s4.size = s4.data.toList.length := (Array.length_toList).symm
      rw [this, e4]; simp; omega
    have E4 := Lib.hid (And.intro e4 q4)
    clear n1 n2 n3 n4 n5 k2 k3 k4 hs4 e4 q4
    have LN : ∀ m : Nat, m ≤ 100 → ¬ 9223372036854775807 < s4.size + m := fun m hm => by have := E4.out.2; have := HS.out; omega
    have m1 := LN 1 (by omega)
    have LB := Lib.hid HS.out
    by_cases hu0 : y.tag = 0
    · have ET : Hid (tagL y.tag = []) := Lib.hid (by unfold tagL; rw [if_pos hu0])
      have m2 : ¬ 9223372036854775807 < s4.size + 1 + (lineT b).length := by have := E4.out.2; have := HS.out; omega
      have m3 : ¬ 9223372036854775807 < s4.size + 1 + (lineT b).length + 1 := by have := E4.out.2; have := HS.out; omega
      go_wp2_with fail
      refine (IB.out _ _ y4 (HB.out.ext y4)).mono ?_; rintro e w5 ⟨rfl, x5⟩
      go_wp2_with fail
      go_ret
      refine ⟨congrArg (fun z => Ending.returned (.string z)) (bytes_is ?_), y4.trans x5⟩
      simp [E4.out.1, lineT, midL, ET.out]
    · have ET : Hid (tagL y.tag = 35 :: decDigits u) := Lib.hid (by unfold tagL; rw [if_neg hu0, ← HU.out.1, Int.toNat_natCast])
      have m4 : ¬ 9223372036854775807 < s4.size + 1 + (decDigits u).length := by have := E4.out.2; have := HS.out; have := HU.out; omega
      have m5 : ¬ 9223372036854775807 < s4.size + 1 + (decDigits u).length + 1 := by have := E4.out.2; have := HS.out; have := HU.out; omega
      have m6 : ¬ 9223372036854775807 < s4.size + 1 + (decDigits u).length + 1 + (lineT b).length := by have := E4.out.2; have := HS.out; have := HU.out; omega
      have m7 : ¬ 9223372036854775807 < s4.size + 1 + (decDigits u).length + 1 + (lineT b).length + 1 := by have := E4.out.2; have := HS.out; have := HU.out; omega
      go_wp2_with fail
      refine (FU.out _ y4).mono ?_; rintro e w5 ⟨rfl, x5⟩
      have y5 := y4.trans x5
      go_wp2_with fail
      refine (IB.out _ _ y5 (HB.out.ext y5)).mono ?_; rintro e w6 ⟨rfl, x6⟩
      go_wp2_with fail
      go_ret
      refine ⟨congrArg (fun z => Ending.returned (.string z)) (bytes_is ?_), y5.trans x6⟩
      simp [E4.out.1, lineT, midL, ET.out]
end Go.Proofs.YtgpegcjgmoiglaaDoor
