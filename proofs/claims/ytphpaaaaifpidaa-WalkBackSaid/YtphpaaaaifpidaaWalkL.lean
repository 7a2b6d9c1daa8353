/- The document's walk: From, Go, Here; stands. -/
import Derived.Test.YtphpaaaaifpidaaWalkK
namespace Go.Proofs.Ytphpaaaaifpidaa
open Go.RowKit
set_option linter.unusedVariables false

theorem rlastK_bad {o : Int} (h : ¬ (1 ≤ o ∧ o ≤ 7)) {l : List Bead} {v : Value} {w : World} {key : Int} (hv : Sl Bead.enc w v l) :
    Calls Try.prog 64 #[.int .u8 o, v, .int .i64 key] w fun e w' => e = .returned (.int .i64 (-1)) ∧ Ext w w' := by
  have IS := Lib.hid (fun W => rIs_no h W)
  obtain ⟨A, c, rfl, hc, hr⟩ := hv
  clear h
  by_cases h0 : l = []
  · subst h0
    go_enter Try.func64, Try.ntmps64
    go_wp2_with fail
    go_ret
    exact ⟨rfl, Ext.refl w⟩
  · have hz : ((l.length : Int) == 0) = false := by simp; exact h0
    go_enter Try.func64, Try.ntmps64
    go_wp2_with fail
    refine (IS.out _).mono ?_; rintro e w' ⟨rfl, rfl⟩
    go_wp2_with fail
    go_ret
    exact ⟨rfl, Ext.refl _⟩
set_option maxRecDepth 100000 in
set_option maxHeartbeats 4000000 in
theorem rfrom_core {oi : Int} {L : List (Int × Int)} {v : Value} {w : World} {key q : Int} (PA : Calls Try.prog 25 #[v] w (Gives (fun v' w' => Own EP 48 2 w.heap.size w' v' L) w))
    (LK : ∀ W, Ext w W → Calls Try.prog 64 #[.int .u8 oi, v, .int .i64 key] W fun e w' => e = .returned (.int .i64 q) ∧ Ext W w') :
    Calls Try.prog 32 #[.int .u8 oi, v, .int .i64 key] w fun e w' => ∃ R, e = .returned (.pointer (some ⟨R, 0, none⟩)) ∧ Ext w w' ∧ RW w' R w.heap.size L (if q < 0 then L.length else q) := by
  have LK := Lib.hid LK
  by_cases hq : q < 0
  · rw [if_pos hq]
    have hd : decide (q < 0) = true := by simpa using hq
    go_enter Try.func32, Try.ntmps32
    go_wp2_with fail
    refine PA.mono ?_; rintro e w1 ⟨v1, rfl, x1, o1⟩
    go_wp2_with fail
    refine (LK.out _ x1).mono ?_; rintro e w2 ⟨rfl, x2⟩
    have o1 := o1.ext x2
    have x1 := x1.trans x2
    have N1 := Lib.hid (new_rw (p := L.length) x1 o1)
    obtain ⟨A, c, rfl, _, _⟩ := o1.sl EP_len (by omega)
    go_wp2_with fail
    go_ret
    exact ⟨_, rfl, x1.alloc _, N1.out⟩
  · rw [if_neg hq]
    have hd : decide (q < 0) = false := by simpa using hq
    go_enter Try.func32, Try.ntmps32
    go_wp2_with fail
    refine PA.mono ?_; rintro e w1 ⟨v1, rfl, x1, o1⟩
    go_wp2_with fail
    refine (LK.out _ x1).mono ?_; rintro e w2 ⟨rfl, x2⟩
    have o1 := o1.ext x2
    have x1 := x1.trans x2
    have N1 := Lib.hid (new_rw (p := q) x1 o1)
    obtain ⟨A, c, rfl, _, _⟩ := o1.sl EP_len (by omega)
    go_wp2_with fail
    go_ret
    exact ⟨_, rfl, x1.alloc _, N1.out⟩
theorem rfrom_any {o : Nat} (h1 : 1 ≤ o) (h2 : o ≤ 7) {key : Int} (hkey : InR key) {t : T} {l : List Bead} {v : Value} {w : World} (h : Sl Bead.enc w v l) (hs : Ser l t) (hh : t.height ≤ 5001) (hm : l.length ≤ 100000) (hk : KeysR t) :
    Calls Try.prog 32 #[.int .u8 (o : Int), v, .int .i64 key] w fun e w' => ∃ R, e = .returned (.pointer (some ⟨R, 0, none⟩)) ∧ Ext w w' ∧ RW w' R w.heap.size t.pairs (fromP (fun k => cmpK o key k) t) := by
  have := rfrom_core (refPairs_any t h hs hh hm) (fun W X => rlastK_any h1 h2 hkey t (h.ext X) hs hh hm hk)
  rwa [T.pairs_length] at this
theorem rfrom_bad {o : Int} (h0 : ¬ (1 ≤ o ∧ o ≤ 7)) {key : Int} {t : T} {l : List Bead} {v : Value} {w : World} (h : Sl Bead.enc w v l) (hs : Ser l t) (hh : t.height ≤ 5001) (hm : l.length ≤ 100000) :
    Calls Try.prog 32 #[.int .u8 o, v, .int .i64 key] w fun e w' => ∃ R, e = .returned (.pointer (some ⟨R, 0, none⟩)) ∧ Ext w w' ∧ RW w' R w.heap.size t.pairs (t.size : Int) := by
  have := rfrom_core (key := key) (refPairs_any t h hs hh hm) (fun W X => rlastK_bad h0 (h.ext X))
  rwa [T.pairs_length] at this

section
variable {w : World} {R lo : Nat} {L : List (Int × Int)} {p k : Int}
set_option maxRecDepth 100000 in
set_option maxHeartbeats 8000000 in
theorem rgo_any (h : RW w R lo L p) (hp : -1 ≤ p ∧ p ≤ L.length) (hL : L.length ≤ 100000) (hk : InR k) :
    Calls Try.prog 37 #[.pointer (some ⟨R, 0, none⟩), .int .i64 k] w fun e w' => e = .returned (.tuple #[]) ∧ RW w' R lo L (clampI L.length (p + k)) ∧ Keep (fun b => b ≠ R) w w' := by
  go_enter Try.func37, Try.ntmps37
  go_wp2_with fail
  go_loopw [1] (fun n wr => ∃ (m pp : Int), n = .int .i64 m ∧ InR m ∧ RW wr R lo L pp ∧ Keep (fun b => b ≠ R) w wr ∧ (-1 ≤ pp ∧ pp ≤ L.length) ∧ clampI L.length (pp + m) = clampI L.length (p + k)) (fun n _ => (intOf n).toNat)
  case atStart => exact ⟨k, p, rfl, hk, h, Keep.refl _ w, hp, rfl⟩
  case round =>
    clear h hp hk
    obtain ⟨m, pp, rfl, ⟨m1, m2⟩, hw, hkp, hp, hc⟩ := hrel
    have HW := Lib.hid hw
    have HC := Lib.hid hc
    have HK := Lib.hid hkp
    obtain ⟨A, c, c0, c1, ff, hRl⟩ := hw.cells
    have f1 := ff 1
    obtain ⟨p1, p2⟩ := hp
    clear hw hc hkp ff
    by_cases hm : 0 < m
    · by_cases hpl : pp < L.length
      · have hd1 : decide (0 < m) = true := by simpa using hm
        go_wp2_with fail
        go_quiet (fail)
        go_wp2_with fail
        have HW2 := (HW.out.ext ((Ext.refl wr).drewN nq)).place (pp + 1)
        exact ⟨⟨m - 1, pp + 1, by go_num, ⟨by omega, by omega⟩, HW2, (HK.out.trans (((Ext.refl wr).drewN nq).keep _)).set (by simp) _, ⟨by omega, by omega⟩, by rw [← HC.out]; congr 1; omega⟩, by simp only [intOf]; omega⟩
      · have hd1 : decide (0 < m) = true := by simpa using hm
        have hd2 : decide (pp < (L.length : Int)) = false := by simpa using hpl
        have HMP : Hid (0 < m → pp = L.length) := Lib.hid (fun h => by omega)
        go_wp2_with fail
        go_quiet (fail)
        go_wp2_with fail
        have HW3 := HW.out.ext ((Ext.refl wr).drewN nq)
        have HK3 := HK.out.trans (((Ext.refl wr).drewN nq).keep _)
        generalize wr.drewN nq = w3 at HW3 HK3
        go_loopw [1] (fun n wr => ∃ (m pp : Int), n = .int .i64 m ∧ InR m ∧ RW wr R lo L pp ∧ Keep (fun b => b ≠ R) w wr ∧ (-1 ≤ pp ∧ pp ≤ L.length) ∧ clampI L.length (pp + m) = clampI L.length (p + k) ∧ (0 < m → pp = L.length)) (fun n _ => (intOf n).natAbs)
        case atStart => exact ⟨m, pp, rfl, ⟨m1, m2⟩, HW3, HK3, ⟨p1, p2⟩, HC.out, HMP.out⟩
        case round =>
          clear HW HK HW3 HK3 hRl c1 p1 p2 m1 m2 c0 f1 HC HMP
          obtain ⟨m, pp, rfl, ⟨m1, m2⟩, hw, hkp, hp, hc, hmp⟩ := hrel
          have HW := Lib.hid hw
          have HC := Lib.hid hc
          have HK := Lib.hid hkp
          have HM := Lib.hid hmp
          obtain ⟨A, c, c0, c1, ff, hRl⟩ := hw.cells
          have f1 := ff 1
          obtain ⟨p1, p2⟩ := hp
          clear hw hc hkp ff hmp
          by_cases hm : m < 0
          · by_cases hpl : 0 ≤ pp
            · go_wp2_with fail
              exact ⟨⟨m + 1, pp - 1, by go_num, ⟨by omega, by omega⟩, HW.out.place (pp - 1), HK.out.set (by simp) _, ⟨by omega, by omega⟩, by rw [← HC.out]; congr 1; omega, fun h => by omega⟩, by simp only [intOf]; omega⟩
            · have hcl : clampI L.length (p + k) = pp := by rw [← HC.out]; unfold clampI; rw [if_pos (by omega)]; omega
              have HCL := Lib.hid hcl
              clear hcl
              go_wp2_with fail
              exact bodyPost_end (v := .tuple #[]) (by simp [results, Try.results37, go_sem]) rfl ⟨rfl, by rw [HCL.out]; exact HW.out, HK.out⟩
          · have hcl : clampI L.length (p + k) = pp := by
              rw [← HC.out]
              by_cases h0 : 0 < m
              · obtain rfl := HM.out h0
                unfold clampI; rw [if_neg (by omega), if_pos (by omega)]
              · obtain rfl : m = 0 := by omega
                rw [Int.add_zero, clamp_in ⟨p1, p2⟩]
            have HCL := Lib.hid hcl
            clear hcl
            go_wp2_with fail
            exact bodyPost_end (v := .tuple #[]) (by simp [results, Try.results37, go_sem]) rfl ⟨rfl, by rw [HCL.out]; exact HW.out, HK.out⟩
    · have hd1 : decide (0 < m) = false := by simpa using hm
      have HMP : Hid (0 < m → pp = L.length) := Lib.hid (fun h => absurd h hm)
      go_wp2_with fail
      go_quiet (fail)
      go_wp2_with fail
      have HW3 := HW.out.ext ((Ext.refl wr).drewN nq)
      have HK3 := HK.out.trans (((Ext.refl wr).drewN nq).keep _)
      generalize wr.drewN nq = w3 at HW3 HK3
      go_loopw [1] (fun n wr => ∃ (m pp : Int), n = .int .i64 m ∧ InR m ∧ RW wr R lo L pp ∧ Keep (fun b => b ≠ R) w wr ∧ (-1 ≤ pp ∧ pp ≤ L.length) ∧ clampI L.length (pp + m) = clampI L.length (p + k) ∧ (0 < m → pp = L.length)) (fun n _ => (intOf n).natAbs)
      case atStart => exact ⟨m, pp, rfl, ⟨m1, m2⟩, HW3, HK3, ⟨p1, p2⟩, HC.out, HMP.out⟩
      case round =>
        clear HW HK HW3 HK3 hRl c1 p1 p2 m1 m2 c0 f1 HC HMP
        obtain ⟨m, pp, rfl, ⟨m1, m2⟩, hw, hkp, hp, hc, hmp⟩ := hrel
        have HW := Lib.hid hw
        have HC := Lib.hid hc
        have HK := Lib.hid hkp
        have HM := Lib.hid hmp
        obtain ⟨A, c, c0, c1, ff, hRl⟩ := hw.cells
        have f1 := ff 1
        obtain ⟨p1, p2⟩ := hp
        clear hw hc hkp ff hmp
        by_cases hm : m < 0
        · by_cases hpl : 0 ≤ pp
          · go_wp2_with fail
            exact ⟨⟨m + 1, pp - 1, by go_num, ⟨by omega, by omega⟩, HW.out.place (pp - 1), HK.out.set (by simp) _, ⟨by omega, by omega⟩, by rw [← HC.out]; congr 1; omega, fun h => by omega⟩, by simp only [intOf]; omega⟩
          · have hcl : clampI L.length (p + k) = pp := by rw [← HC.out]; unfold clampI; rw [if_pos (by omega)]; omega
            have HCL := Lib.hid hcl
            clear hcl
            go_wp2_with fail
            exact bodyPost_end (v := .tuple #[]) (by simp [results, Try.results37, go_sem]) rfl ⟨rfl, by rw [HCL.out]; exact HW.out, HK.out⟩
        · have hcl : clampI L.length (p + k) = pp := by
            rw [← HC.out]
            by_cases h0 : 0 < m
            · obtain rfl := HM.out h0
              unfold clampI; rw [if_neg (by omega), if_pos (by omega)]
            · obtain rfl : m = 0 := by omega
              rw [Int.add_zero, clamp_in ⟨p1, p2⟩]
          have HCL := Lib.hid hcl
          clear hcl
          go_wp2_with fail
          exact bodyPost_end (v := .tuple #[]) (by simp [results, Try.results37, go_sem]) rfl ⟨rfl, by rw [HCL.out]; exact HW.out, HK.out⟩
end
end Go.Proofs.Ytphpaaaaifpidaa
