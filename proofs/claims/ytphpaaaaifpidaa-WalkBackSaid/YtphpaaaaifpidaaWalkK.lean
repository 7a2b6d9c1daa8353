/- The document's walk: last, From. -/
import Derived.Test.YtphpaaaaifpidaaWalkJ
namespace Go.Proofs.Ytphpaaaaifpidaa
open Go.RowKit
set_option linter.unusedVariables false

set_option maxRecDepth 100000 in
set_option maxHeartbeats 8000000 in
theorem rlastK_any {o : Nat} (h1 : 1 ≤ o) (h2 : o ≤ 7) {key : Int} (hkey : InR key) (t : T) : ∀ {l : List Bead} {v : Value} {w : World}, Sl Bead.enc w v l → Ser l t → t.height ≤ 5001 → l.length ≤ 100000 → KeysR t →
    Calls Try.prog 64 #[.int .u8 (o : Int), v, .int .i64 key] w fun e w' => e = .returned (.int .i64 (lastT (fun k => cmpK o key k) t)) ∧ Ext w w' := by
  induction t with
  | nil =>
    intro l v w h hs _ _ _
    obtain rfl : l = [] := hs
    obtain ⟨A, c, rfl, hc, hr⟩ := h
    go_enter Try.func64, Try.ntmps64
    go_wp2_with fail
    go_ret
    exact ⟨rfl, Ext.refl w⟩
  | node k x g a b iha ihb =>
    intro l v w h hs hh hm hk
    have hlen := hs.length
    obtain ⟨y, la, lb, hl, rfl, rfl, rfl, e4, e5, sa, sb, p1, p2⟩ := ser_parts hs hh
    have hlp : 0 < l.length := by rw [hl]; simp
    have hla : la.length ≤ 100000 := by rw [hl] at hm; simp at hm; omega
    have hlb : lb.length ≤ 100000 := by rw [hl] at hm; simp at hm; omega
    have ea := sa.length
    have eb := sb.length
    simp only [T.height] at hh
    obtain ⟨hky, hka, hkb⟩ := hk
    have hp := Lib.hid (parts_any h hl (by omega) p1 p2)
    have hz : ((l.length : Int) == 0) = false := by simp; intro h; rw [h] at hlp; simp at hlp
    have IS := Lib.hid (fun W => rIs_yes (k := (o : Int)) (by omega) W)
    have CM := Lib.hid (fun W => rcompareK h1 h2 hkey hky W)
    have C3 := cmp_three (codeK o key) (codeK o y.key)
    change cmpK o key y.key = -1 ∨ cmpK o key y.key = 0 ∨ cmpK o key y.key = 1 at C3
    have IA := Lib.hid (fun (V : Value) (W : World) (X : Sl Bead.enc W V la) => iha X sa (by omega) hla hka)
    have IB := Lib.hid (fun (V : Value) (W : World) (X : Sl Bead.enc W V lb) => ihb X sb (by omega) hlb hkb)
    have ra := lastT_range (fun k => cmpK o key k) a
    have rb := lastT_range (fun k => cmpK o key k) b
    have hres : lastT (fun k => cmpK o key k) (.node y.key y.val y.tag a b) = if cmpK o key y.key = 0 then (a.size : Int) else if cmpK o key y.key < 0 then (if 0 ≤ lastT (fun k => cmpK o key k) a then lastT (fun k => cmpK o key k) a else a.size) else (if 0 ≤ lastT (fun k => cmpK o key k) b then a.size + 1 + lastT (fun k => cmpK o key k) b else -1) := rfl
    rw [hres]
    obtain ⟨A, c, rfl, hc, hr⟩ := h
    generalize lastT (fun k => cmpK o key k) a = ka at *
    generalize lastT (fun k => cmpK o key k) b = kb at *
    generalize cmpK o key y.key = cc at *
    have HE := Lib.hid (And.intro ea eb)
    clear hl p1 p2 e4 e5 hs iha ihb hr hh hres h1 h2 hky hka hkb hc hlen hkey sa sb ea eb
    generalize hoi : (o : Int) = oi at *
    clear hoi
    rcases C3 with rfl | rfl | rfl
    · by_cases hka : 0 ≤ ka
      · simp only [show ¬ ((-1 : Int) = 0) from by decide, show (-1 : Int) < 0 from by decide, hka, if_true, if_false]
        have hd : decide (0 ≤ ka) = true := by simpa using hka
        go_enter Try.func64, Try.ntmps64
        go_wp2_with fail
        refine (IS.out _).mono ?_; rintro e w' ⟨rfl, rfl⟩
        go_wp2_with fail
        refine hp.out.mono ?_; rintro e w1 ⟨va, vb, rfl, ha, hb, x1⟩
        have HA := Lib.hid ha
        obtain ⟨A1, c1, rfl, _, _⟩ := ha
        obtain ⟨A2, c2, rfl, _, _⟩ := hb
        go_wp2_with fail
        refine (CM.out _).mono ?_; rintro e w2 ⟨rfl, x2⟩
        have y2 := (x1.alloc (.cells #[.int .i64 y.key, .int .i64 y.val, .int .i64 y.sum, .int .i64 y.size, .int .u64 y.tag, .bool y.left, .bool y.right] 73)).trans x2
        go_wp2_with fail
        refine (IA.out _ _ (HA.out.ext y2)).mono ?_; rintro e w3 ⟨rfl, x3⟩
        go_wp2_with fail
        go_ret
        exact ⟨rfl, y2.trans x3⟩
      · simp only [show ¬ ((-1 : Int) = 0) from by decide, show (-1 : Int) < 0 from by decide, hka, if_true, if_false]
        have hd : decide (0 ≤ ka) = false := by simpa using hka
        go_enter Try.func64, Try.ntmps64
        go_wp2_with fail
        refine (IS.out _).mono ?_; rintro e w' ⟨rfl, rfl⟩
        go_wp2_with fail
        refine hp.out.mono ?_; rintro e w1 ⟨va, vb, rfl, ha, hb, x1⟩
        have HA := Lib.hid ha
        obtain ⟨A1, c1, rfl, _, _⟩ := ha
        obtain ⟨A2, c2, rfl, _, _⟩ := hb
        go_wp2_with fail
        refine (CM.out _).mono ?_; rintro e w2 ⟨rfl, x2⟩
        have y2 := (x1.alloc (.cells #[.int .i64 y.key, .int .i64 y.val, .int .i64 y.sum, .int .i64 y.size, .int .u64 y.tag, .bool y.left, .bool y.right] 73)).trans x2
        go_wp2_with fail
        refine (IA.out _ _ (HA.out.ext y2)).mono ?_; rintro e w3 ⟨rfl, x3⟩
        go_wp2_with fail
        go_ret
        exact ⟨congrArg (fun n : Nat => Ending.returned (.int .i64 (n : Int))) HE.out.1, y2.trans x3⟩
    · simp only [if_true]
      go_enter Try.func64, Try.ntmps64
      go_wp2_with fail
      refine (IS.out _).mono ?_; rintro e w' ⟨rfl, rfl⟩
      go_wp2_with fail
      refine hp.out.mono ?_; rintro e w1 ⟨va, vb, rfl, ha, hb, x1⟩
      have HA := Lib.hid ha
      obtain ⟨A1, c1, rfl, _, _⟩ := ha
      obtain ⟨A2, c2, rfl, _, _⟩ := hb
      go_wp2_with fail
      refine (CM.out _).mono ?_; rintro e w2 ⟨rfl, x2⟩
      have y2 := (x1.alloc (.cells #[.int .i64 y.key, .int .i64 y.val, .int .i64 y.sum, .int .i64 y.size, .int .u64 y.tag, .bool y.left, .bool y.right] 73)).trans x2
      go_wp2_with fail
      go_ret
      exact ⟨congrArg (fun n : Nat => Ending.returned (.int .i64 (n : Int))) HE.out.1, y2⟩
    · by_cases hkb : 0 ≤ kb
      · simp only [show ¬ ((1 : Int) = 0) from by decide, show ¬ (1 : Int) < 0 from by decide, hkb, if_true, if_false]
        have hd : decide (0 ≤ kb) = true := by simpa using hkb
        have i1 : kb ≤ 100000 := by have := HE.out; omega
        go_enter Try.func64, Try.ntmps64
        go_wp2_with fail
        refine (IS.out _).mono ?_; rintro e w' ⟨rfl, rfl⟩
        go_wp2_with fail
        refine hp.out.mono ?_; rintro e w1 ⟨va, vb, rfl, ha, hb, x1⟩
        have HA := Lib.hid hb
        obtain ⟨A1, c1, rfl, _, _⟩ := ha
        obtain ⟨A2, c2, rfl, _, _⟩ := hb
        go_wp2_with fail
        refine (CM.out _).mono ?_; rintro e w2 ⟨rfl, x2⟩
        have y2 := (x1.alloc (.cells #[.int .i64 y.key, .int .i64 y.val, .int .i64 y.sum, .int .i64 y.size, .int .u64 y.tag, .bool y.left, .bool y.right] 73)).trans x2
        go_wp2_with fail
        refine (IB.out _ _ (HA.out.ext y2)).mono ?_; rintro e w3 ⟨rfl, x3⟩
        go_wp2_with fail
        go_ret
        exact ⟨congrArg (fun n : Nat => Ending.returned (.int .i64 ((n : Int) + 1 + kb))) HE.out.1, y2.trans x3⟩
      · simp only [show ¬ ((1 : Int) = 0) from by decide, show ¬ (1 : Int) < 0 from by decide, hkb, if_false]
        have hd : decide (0 ≤ kb) = false := by simpa using hkb
        go_enter Try.func64, Try.ntmps64
        go_wp2_with fail
        refine (IS.out _).mono ?_; rintro e w' ⟨rfl, rfl⟩
        go_wp2_with fail
        refine hp.out.mono ?_; rintro e w1 ⟨va, vb, rfl, ha, hb, x1⟩
        have HA := Lib.hid hb
        obtain ⟨A1, c1, rfl, _, _⟩ := ha
        obtain ⟨A2, c2, rfl, _, _⟩ := hb
        go_wp2_with fail
        refine (CM.out _).mono ?_; rintro e w2 ⟨rfl, x2⟩
        have y2 := (x1.alloc (.cells #[.int .i64 y.key, .int .i64 y.val, .int .i64 y.sum, .int .i64 y.size, .int .u64 y.tag, .bool y.left, .bool y.right] 73)).trans x2
        go_wp2_with fail
        refine (IB.out _ _ (HA.out.ext y2)).mono ?_; rintro e w3 ⟨rfl, x3⟩
        go_wp2_with fail
        go_ret
        exact ⟨rfl, y2.trans x3⟩
end Go.Proofs.Ytphpaaaaifpidaa
