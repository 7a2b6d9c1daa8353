/- The statement DrawOnce. -/
import Derived.Test.YtlehcagpddgamaaWalk08
namespace Go.Proofs.Ytlehcagpddgamaa
open Go.RowKit

theorem Sl.rows {α : Type} {enc : α → List Value} {w : World} {v : Value} {l : List α} {hi : Nat} (h : Sl enc w v l) (hh : w.heap.size ≤ hi) : SlB enc 0 hi w v l := by
  obtain ⟨A, c, rfl, hc, hr⟩ := h
  exact ⟨A, c, rfl, hc, fun hl => by obtain ⟨b, off, e, hb, hcs⟩ := hr hl; exact ⟨b, off, e, ⟨Nat.zero_le _, by omega, hb⟩, hcs⟩⟩
theorem drawn_nil : ∀ ks : List Int, drawn [] ks = ks.map fun k => ((ofB k).toNat : Int)
  | [] => rfl
  | k :: ks => by simp [drawn, drawV, drawn_nil ks]
/-- Each key has a number of its own. -/
theorem ofB_inj {a b : Int} (ha : (Lit.int .i64 a).wf = true) (hb : (Lit.int .i64 b).wf = true) : ((ofB a).toNat : Int) = ((ofB b).toNat : Int) ↔ a = b := by
  refine ⟨fun h => ?_, fun h => by rw [h]⟩
  have h1 : ofB a = ofB b := BitVec.eq_of_toNat_eq (by omega)
  have h2 := mix_inj h1
  have h3 : BitVec.ofInt 64 a = BitVec.ofInt 64 b := by
    have := congrArg (· - c3) h2
    simpa using this
  have h4 := congrArg BitVec.toNat h3
  rw [BitVec.toNat_ofInt, BitVec.toNat_ofInt] at h4
  simp [Lit.wf, IntKind.min, IntKind.max, IntKind.bits, IntKind.signed] at ha hb
  omega

set_option maxRecDepth 100000 in
set_option maxHeartbeats 4000000 in
theorem drawOnce_walk {l keys : List Int} {lv kv : Value} {w : World} (x : Int) (hl : Sl E64 w lv l) (hk : Sl EK w kv keys) (ml : l.length ≤ maxLen) (mk : keys.length ≤ maxLen) (wk : ∀ k ∈ keys, (Lit.int .i64 k).wf = true) :
    Calls Try.prog 10 #[lv, kv, .int .u64 x] w fun e w' => e = .returned (.bool true) ∧ Ext w w' := by
  have hl' := hl
  have hk' := hk
  obtain ⟨A, c, rfl, hc, hr⟩ := hl
  obtain ⟨A2, c2, rfl, hc2, hr2⟩ := hk
  simp only [maxLen] at ml mk
  by_cases h1 : 200 < l.length
  · have H1 : decide ((200 : Int) < (l.length : Int)) = true := by simp; omega
    go_enter Try.func10, Try.ntmps10
    go_wp2_with fail
    refine (alive08 _).mono ?_; rintro e w1 ⟨rfl, x1⟩
    go_wp2_with fail
    go_ret
    exact ⟨rfl, x1⟩
  by_cases h2 : 200 < keys.length
  · have H1 : decide ((200 : Int) < (l.length : Int)) = false := by simp; omega
    have H2 : decide ((200 : Int) < (keys.length : Int)) = true := by simp; omega
    go_enter Try.func10, Try.ntmps10
    go_wp2_with fail
    refine (alive08 _).mono ?_; rintro e w1 ⟨rfl, x1⟩
    go_wp2_with fail
    go_ret
    exact ⟨rfl, x1⟩
  have H1 : decide ((200 : Int) < (l.length : Int)) = false := by simp; omega
  have H2 : decide ((200 : Int) < (keys.length : Int)) = false := by simp; omega
  by_cases h3 : keys.length = 0
  · have H3 : ((keys.length : Int) == 0) = true := by simp; exact List.eq_nil_of_length_eq_zero h3
    go_enter Try.func10, Try.ntmps10
    go_wp2_with fail
    refine (alive08 _).mono ?_; rintro e w1 ⟨rfl, x1⟩
    go_wp2_with fail
    go_ret
    exact ⟨rfl, x1⟩
  have hkn : keys ≠ [] := fun e => h3 (by rw [e]; rfl)
  have H3 : ((keys.length : Int) == 0) = false := by simp; exact hkn
  go_enter Try.func10, Try.ntmps10
  go_wp2_with fail
  refine (own_any hl' (by omega)).mono ?_; rintro e w1 ⟨v1, rfl, x1, o1⟩
  obtain ⟨A1, c1, rfl, hc1, hr1⟩ := o1.sl E64_len (by omega)
  go_wp2_with fail
  refine (new_draws (o1.sl E64_len (by omega)) (by omega)).mono ?_; rintro e w2 ⟨R, D, V, rfl, x2, d2⟩
  have q := eql_draws (some ⟨D, 0, none⟩)
  have y2 := x1.trans x2
  have hz1 := x1.size
  have hz3 := d2.2
  have hz2 := d2.lt
  have hmine : l.length = 0 ∨ ∃ g cs, A1 = some ⟨g, 0, none⟩ ∧ w.heap.size ≤ g ∧ g < w1.heap.size ∧ Blk w2 g 29 cs ∧ l.length ≤ cs.size := by
    rcases o1.2 with ⟨_, h⟩ | ⟨g, cap, cur, hv, hg, hh, hnc, _, hcs, _⟩
    · exact .inl h
    · injection hv with e1 e2 e3
      have hb : Blk w1 g 29 cur := hh
      exact .inr ⟨g, cur, e1, hg, hb.lt, hb.ext x2, by omega⟩
  clear x1 x2 o1 hr1
  go_wp2_with fail
  have hR : ∀ s ∈ [R, D], w.heap.size ≤ s := fun s hs => by simp at hs; omega
  go_loopw [9] (fun i wr => ∃ j : Nat, j ≤ l.length ∧ i = .int .i64 j ∧ (l.length = 0 ∨ ∃ g cs, A1 = some ⟨g, 0, none⟩ ∧ w.heap.size ≤ g ∧ g < w1.heap.size ∧ Blk wr g 29 cs ∧ l.length ≤ cs.size) ∧ Dr wr w1.heap.size R D V l ∧ Ext w wr) (fun i _ => l.length - (intOf i).toNat)
  case atStart => exact ⟨0, Nat.zero_le _, rfl, hmine, d2, y2⟩
  case round =>
    clear d2 y2 hmine
    obtain ⟨j, hj, rfl, hmine, d2, y2⟩ := hrel
    by_cases hlt : j < l.length
    · rcases hmine with h0 | ⟨g, cs, rfl, hg1, hg2, hg, hgs⟩
      · omega
      have cg : wr.cell? ⟨g, j, none⟩ = some (cs[j]'(by omega)) := by rw [hg.cell]; exact Array.getElem?_eq_getElem (by omega)
      have fg := hg.frozen j
      generalize cs[j]'(by omega) = u at cg
      have HG := Lib.hid hg
      have HD := Lib.hid d2
      have HY := Lib.hid y2
      clear hg d2 y2
      go_wp2_with fail
      have ch : Chg [g] wr (wr.setCell ⟨g, j, none⟩ (.int .u64 x)) := (Chg.refl _ wr).set (by simp) _
      exact ⟨⟨j + 1, by omega, by go_num, .inr ⟨g, _, rfl, hg1, hg2, HG.out.set j _, by simpa using hgs⟩, HD.out.chg ch (fun s hs => .inl (by simp at hs; omega)), ch.ext HY.out (fun s hs => by simp at hs; omega)⟩, by simp [intOf]; omega⟩
    · go_wp2_with fail
      clear hmine
      go_loopw [10] (fun i wq => ∃ n : Nat, n ≤ l.length ∧ i = .int .i64 n ∧ Dr wq w1.heap.size R D V (l.drop n) ∧ Ext w wq) (fun i _ => l.length - (intOf i).toNat)
      case atStart => exact ⟨0, Nat.zero_le _, rfl, by simpa using d2, y2⟩
      case round =>
        clear d2 y2
        obtain ⟨n, hn, rfl, d2, y2⟩ := hrel
        by_cases hlt2 : n < l.length
        · obtain ⟨kk, hkk, hkl⟩ : ∃ kk : Nat, (n : Int) % (keys.length : Int) = kk ∧ kk < keys.length := ⟨n % keys.length, by simp, Nat.mod_lt _ (by omega)⟩
          have hkt : (n : Int).tmod (keys.length : Int) = kk := by rw [Int.tmod_eq_emod_of_nonneg (by omega), hkk]
          obtain ⟨_, _, e, _, hrk⟩ := hk'
          injection e with e1 e2 e3
          subst e1 e3
          obtain ⟨b, off, rfl, hb, hcs⟩ := hrk hkn
          obtain ⟨_, _, e, _, hrl⟩ := hl'
          injection e with e1 e2 e3
          subst e1 e3
          obtain ⟨b2, off2, rfl, hb2, hcs2⟩ := hrl (by intro h; rw [h] at hlt2; simp at hlt2)
          have hxk : keys[kk]? = some keys[kk] := List.getElem?_eq_getElem hkl
          have hyn : l[n]? = some l[n] := List.getElem?_eq_getElem hlt2
          have hdn : l.drop n = l[n] :: l.drop (n + 1) := List.drop_eq_getElem_cons hlt2
          have hll : ((l.drop n).length : Int) = (l.length : Int) - (n : Int) := by rw [List.length_drop]; omega
          generalize keys[kk] = z at hxk
          generalize l[n] = y at hyn hdn
          have cx := Cells.elem EK_len hcs hxk 0 _ rfl
          have cy := Cells.elem E64_len hcs2 hyn 0 _ rfl
          rw [Nat.mul_one, Nat.add_zero] at cx cy
          have cx0 := fun (W : World) (X : Ext w W) => (X.cell (p := ⟨b, off + kk, none⟩) hb).trans cx
          have cy0 := fun (W : World) (X : Ext w W) => (X.cell (p := ⟨b2, off2 + n, none⟩) hb2).trans cy
          have cx1 := cx0 _ y2
          have cy1 := cy0 _ y2
          have hkl2 : (kk : Int) < (keys.length : Int) := by omega
          have hwr : IntKind.i64.wrap ((l.length : Int) - (n : Int)) = (l.length : Int) - (n : Int) := by rw [IntKind.wrap_i64]; omega
          have HV := Lib.hid (show drawV (l.drop n) z = y by rw [hdn]; rfl)
          have HT := Lib.hid (show (l.drop n).tail = l.drop (n + 1) by rw [hdn]; rfl)
          have HL := Lib.hid hll
          have HCX := Lib.hid cx0
          have HCY := Lib.hid cy0
          have HD := Lib.hid d2
          have HY := Lib.hid y2
          clear hxk hyn hdn hll cx cy cx0 cy0 d2 y2 hcs hcs2 hrk hrl
          go_wp2_with fail
          go_region_held3 (fun w' => w'.cell? ⟨b, off + kk, none⟩ = some (.int .i64 z) ∧ w'.cell? ⟨b2, off2 + n, none⟩ = some (.int .u64 y)) (go_keep)
            (first
              | (go_at_call 55; refine (left_is (by first | exact HD.out | exact HD.out.ext (Ext.refl _).drew) HL.out).mono ?_; rintro e w' ⟨rfl, rfl⟩)
              | (go_at_call 56; refine (next_is (by first | exact HD.out | exact HD.out.ext (Ext.refl _).drew) HV.out HT.out).mono ?_; rintro e w5 ⟨rfl, d5, g5⟩; have y5 := (by first | exact g5.ext HY.out hR | exact g5.ext HY.out.drew hR); have k1 := HCX.out _ y5; have k2 := HCY.out _ y5))
          go_wp2_with fail
          exact ⟨⟨n + 1, by omega, by go_num, d5, y5⟩, by simp [intOf]; omega⟩
        · obtain rfl : n = l.length := by omega
          rw [List.drop_length] at d2
          have sk := (hk'.rows hz1).ext y2
          have hk9 : keys.length ≤ 1000 := by omega
          have HD := Lib.hid d2
          have HK := Lib.hid hk9
          clear d2
          go_wp2_with fail
          refine (many_any HD.out sk hk9).mono ?_; rintro e w6 ⟨va, rfl, d6, g6, o6⟩
          have y6 := g6.ext y2 hR
          have sk6 := (hk'.rows hz1).ext y6
          have hz6 := g6.size
          have hlt6 := HD.out.lt
          have hRw : ∀ s ∈ [R, D], s < wr.heap.size := fun s hs => by simp at hs; omega
          clear y2 sk
          go_wp2_with fail
          refine (many_any d6 sk6 hk9).mono ?_; rintro e w7 ⟨vb, rfl, d7, g7, o7⟩
          have y7 := g7.ext y6 hR
          have oa := (o6.chg g7 hRw).sl E64_len (by omega)
          have ob := o7.sl E64_len (by omega)
          rw [List.drop_nil] at ob d7
          rw [List.drop_nil] at d7
          have sab := fun (W : World) (X : Ext w7 W) => sameU_any (oa.ext X) (ob.ext X) (by rw [drawn_length]; omega) (by rw [drawn_length]; omega)
          simp only [decide_true] at sab
          obtain ⟨A7, c7, rfl, hc7, hr7⟩ := id oa
          rw [drawn_length] at sab
          simp only [drawn_length] at oa hc7 ⊢
          have l7 := fun (W : World) (X : Ext w7 W) => left_is (n := 0) (d7.ext X) rfl
          obtain ⟨b7, off7, rfl, hb7, hcs7⟩ := hr7 (by rw [drawn_nil]; simpa using hkn)
          obtain ⟨_, _, e, _, hrk⟩ := id hk'
          injection e with e1 e2 e3
          subst e1 e3
          obtain ⟨b, off, rfl, hb, hcs⟩ := hrk hkn
          have hne : ((keys.length : Int) != (keys.length : Int)) = false := by simp
          have HS := Lib.hid sab
          have HL := Lib.hid l7
          have HY := Lib.hid y7
          clear d6 sk6 o6 g6 y6 HD g7 o7 oa ob sab l7 d7 y7
          go_wp2_with fail
          refine (HS.out _ (Ext.refl _)).mono ?_; rintro e w8 ⟨rfl, x8⟩
          go_wp2_with fail
          refine (HL.out _ x8).mono ?_; rintro e w' ⟨rfl, rfl⟩
          go_wp2_with fail
          have CA : ∀ (W : World) (_ : Ext w7 W) (i : Nat) (z : Int), keys[i]? = some z → W.cell? ⟨b7, off7 + i, none⟩ = some (.int .u64 ((ofB z).toNat : Int)) := by
            intro W X i z hz
            have := Cells.elem E64_len hcs7 (i := i) (x := ((ofB z).toNat : Int)) (by rw [drawn_nil, List.getElem?_map, hz]; rfl) 0 _ rfl
            rw [Nat.mul_one, Nat.add_zero] at this
            exact (X.cell (p := ⟨b7, off7 + i, none⟩) hb7).trans this
          have CK : ∀ (W : World) (_ : Ext w7 W) (i : Nat) (z : Int), keys[i]? = some z → W.cell? ⟨b, off + i, none⟩ = some (.int .i64 z) := by
            intro W X i z hz
            have := Cells.elem EK_len hcs (i := i) (x := z) hz 0 _ rfl
            rw [Nat.mul_one, Nat.add_zero] at this
            exact ((HY.out.trans X).cell (p := ⟨b, off + i, none⟩) hb).trans this
          have HCA := Lib.hid CA
          have HCK := Lib.hid CK
          have HW := Lib.hid wk
          clear CA CK wk hcs hcs7 hr7 hrk HS HL
          go_loopw [13] (fun i wq => ∃ p : Nat, p ≤ keys.length ∧ i = .int .i64 p ∧ Ext w7 wq) (fun i _ => keys.length - (intOf i).toNat)
          case atStart => exact ⟨0, Nat.zero_le _, rfl, x8⟩
          case round =>
            clear x8
            obtain ⟨p, hp, rfl, x8⟩ := hrel
            by_cases hlp : p < keys.length
            · have HX := Lib.hid x8
              clear x8
              go_wp2_with fail
              go_loopw [14] (fun i wq => ∃ r : Nat, r ≤ p ∧ i = .int .i64 r ∧ Ext w7 wq) (fun i _ => p - (intOf i).toNat)
              case atStart => exact ⟨0, Nat.zero_le _, rfl, HX.out⟩
              case round =>
                clear HX
                obtain ⟨r, hr, rfl, x8⟩ := hrel
                by_cases hlr : r < p
                · have hlr2 : r < keys.length := by omega
                  have e1 : keys[p]? = some keys[p] := List.getElem?_eq_getElem hlp
                  have e2 : keys[r]? = some keys[r] := List.getElem?_eq_getElem hlr2
                  have m1 : (Lit.int .i64 keys[p]).wf = true := HW.out _ (List.getElem_mem hlp)
                  have m2 : (Lit.int .i64 keys[r]).wf = true := HW.out _ (List.getElem_mem hlr2)
                  generalize keys[p] = z1 at e1 m1
                  generalize keys[r] = z2 at e2 m2
                  have a1 := HCA.out _ x8 _ _ e1
                  have a2 := HCA.out _ x8 _ _ e2
                  have k1 := HCK.out _ x8 _ _ e1
                  have k2 := HCK.out _ x8 _ _ e2
                  have hij := ofB_inj m1 m2
                  have HX := Lib.hid x8
                  clear e1 e2 m1 m2 x8
                  by_cases hz : z1 = z2
                  · subst hz
                    clear hij
                    go_wp2_with fail
                    go_quiet (fail)
                    go_wp2_with fail
                    exact ⟨⟨r + 1, by omega, by go_num, HX.out.drewN nq⟩, by simp [intOf]; omega⟩
                  · have hz1 : (z1 == z2) = false := by simpa using hz
                    have hz2 : ((((ofB z1).toNat : Int)) == ((ofB z2).toNat : Int)) = false := by
                      have := mt hij.1 hz
                      simpa using this
                    generalize ((ofB z1).toNat : Int) = n1 at *
                    generalize ((ofB z2).toNat : Int) = n2 at *
                    clear hij hz
                    go_wp2_with fail
                    go_quiet (fail)
                    go_wp2_with fail
                    exact ⟨⟨r + 1, by omega, by go_num, HX.out.drewN nq⟩, by simp [intOf]; omega⟩
                · go_wp2_with fail
                  exact ⟨⟨p + 1, by omega, by go_num, x8⟩, by simp [intOf]; omega⟩
            · go_wp2_with fail
              refine (alive08 _).mono ?_; rintro e wz ⟨rfl, xz⟩
              go_wp2_with fail
              go_ret
              exact ⟨rfl, (HY.out.trans x8).trans xz⟩
end Go.Proofs.Ytlehcagpddgamaa
