/- The statement ShareAdds. -/
import Derived.Test.YtlehcagpddgamaaSome
import Derived.Deep.Cut
import Derived.Deep.CutBlock
namespace Go.Proofs.Ytlehcagpddgamaa
open Go.RowKit G

/-- What stands in a tree is a tree. -/
theorem GrS.sub {w : World} : ∀ {g : G} {v : Value}, GrS w v g → ∀ {c : Nat}, c ∈ g.ids → ∃ l r, GrS w (.pointer (some ⟨c, 0, none⟩)) (.nd c l r)
  | .nil, _, _, c, h => by simp [ids] at h
  | .nd b l r, v, hg, c, h => by
    obtain ⟨k, x, g, tl, tr, vl, vr, hv, ha, hl, hr⟩ := id hg
    simp only [ids, List.mem_cons, List.mem_append] at h
    rcases h with rfl | h | h
    · exact ⟨l, r, hv ▸ hg⟩
    · exact hl.sub h
    · exact hr.sub h
/-- Addresses, each with what stands there. -/
def prOf (f : Nat → G) (c : Nat) : Option Addr × G := (some ⟨c, 0, none⟩, f c)
theorem flat_pr (f : Nat → G) (L : List Nat) : flat EG (L.map (prOf f)) = flat EB L := by
  simp [flat, List.flatMap_map, EG, prOf]
  rfl
theorem Sl.pr {f : Nat → G} {w : World} {v : Value} {L : List Nat} (h : Sl EB w v L) : Sl EG w v (L.map (prOf f)) := by
  obtain ⟨A, c, rfl, hc, hr⟩ := h
  refine ⟨A, c, by rw [List.length_map], by rw [List.length_map]; exact hc, fun hn => ?_⟩
  obtain ⟨b, off, e, hb, hcs⟩ := hr (by rintro rfl; exact hn rfl)
  exact ⟨b, off, e, hb, by rw [flat_pr]; exact hcs⟩
theorem Sl.cutB {w : World} {A : Option Addr} {n c : Nat} {L : List Nat} (h : Sl EB w (.slice A n c) L) (k : Nat) (hk : k ≤ L.length) : Sl EB w (.slice A k c) (L.take k) := by
  obtain ⟨A', c', e, hc, hr⟩ := h
  injection e with e1 e2 e3
  subst e1 e3
  have hlk : (L.take k).length = k := by rw [List.length_take]; omega
  refine ⟨A, c, by rw [hlk], by omega, fun hn => ?_⟩
  obtain ⟨b, off, rfl, hb, hcs⟩ := hr (by rintro rfl; simp at hn)
  refine ⟨b, off, rfl, hb, ?_⟩
  have h2 : flat EB L = flat EB (L.take k) ++ flat EB (L.drop k) := by rw [← flat_append, List.take_append_drop]
  rw [h2, Cells.app] at hcs
  exact hcs.1
theorem map_pr (f : Nat → G) (L : List Nat) : (L.map (prOf f)).map Prod.snd = L.map f := by simp [prOf, Function.comp_def]
/-- New, of a tree that others stand ahead of. -/
theorem newL_is {f : Nat → G} {g : G} {q : Option Addr} {L : List Nat} {v : Value} {W : World} {n : Int} (h : Sl EB W v L) (hl : ∀ c ∈ L, GrS W (.pointer (some ⟨c, 0, none⟩)) (f c) ∧ byF f (f c)) (hq : GrS W (.pointer q) g) (hf : byF f g) (hm : L.length ≤ 1000000000) (hb : (allG (L.map f)).length ≤ 100000000) (hg : g.ids.length ≤ 1000000)
    (hn : ((newN g (allG (L.map f)) : Nat) : Int) = n) : Calls Try.prog 66 #[.pointer q, v] W fun e w' => e = .returned (.int .i64 n) ∧ Ext W w' := by
  subst hn
  have := newB_any (f := f) (h.pr (f := f)) (fun p hp => by
    obtain ⟨c, hc, rfl⟩ := List.mem_map.1 hp
    exact hl c hc) hq hf (by rw [List.length_map]; exact hm) (by rw [map_pr]; exact hb) hg
  rwa [map_pr] at this
theorem new_sum {f : Nat → G} {L : List Nat} {i c : Nat} (hc : L[i]? = some c) : (allG ((L.take i).map f)).length + newN (f c) (allG ((L.take i).map f)) = (allG ((L.take (i + 1)).map f)).length := by
  rw [List.take_add_one, hc, Option.toList_some, List.map_append, List.map_singleton, allG_snoc]
  unfold newN
  have := fr_len (f c) (allG ((L.take i).map f))
  omega
set_option maxRecDepth 100000 in
set_option maxHeartbeats 8000000 in
theorem shareAdds_walk {l : List NodeR} {v : Value} {a b o : Int} {w : World} (h : Sl NodeR.enc w v l) (wa : (Lit.int .u8 a).wf = true) (wb : (Lit.int .u8 b).wf = true) (wo : (Lit.int .u8 o).wf = true) :
    Calls Try.prog 12 #[v, .int .u8 a, .int .u8 b, .int .u8 o] w fun e w' => e = .returned (.bool true) ∧ Ext w w' := by
  have ha : 0 ≤ a ∧ a ≤ 255 := by simp [Lit.wf] at wa; exact wa
  have hb : 0 ≤ b ∧ b ≤ 255 := by simp [Lit.wf] at wb; exact wb
  have ho : 0 ≤ o ∧ o ≤ 255 := by simp [Lit.wf] at wo; exact wo
  have FW := few_any h
  have SM := Lib.hid (fun (hm : l.length ≤ 18) => some_any h hm)
  obtain ⟨A, c, rfl, _, _⟩ := h
  clear wa wb wo
  by_cases h0 : l.length = 0
  · rw [h0] at FW ⊢
    clear SM ha hb ho h0
    go_enter Try.func12, Try.ntmps12
    go_wp2_with fail
    refine FW.mono ?_; rintro e w' ⟨q, rfl, rfl, hq⟩
    cases q with
    | true =>
      go_wp2_with fail
      refine (alive13 _).mono ?_; rintro e w1 ⟨rfl, x1⟩
      go_wp2_with fail
      go_ret
      exact ⟨rfl, x1⟩
    | false =>
      go_wp2_with fail
      refine (alive13 _).mono ?_; rintro e w1 ⟨rfl, x1⟩
      go_wp2_with fail
      go_ret
      exact ⟨rfl, x1⟩
  · have d0 : ¬ ((l.length : Int) = 0) := by omega
    go_enter Try.func12, Try.ntmps12
    go_wp2_with fail
    refine FW.mono ?_; rintro e w' ⟨q, rfl, rfl, hq⟩
    cases q with
    | false =>
      go_wp2_with fail
      refine (alive13 _).mono ?_; rintro e w1 ⟨rfl, x1⟩
      go_wp2_with fail
      go_ret
      exact ⟨rfl, x1⟩
    | true =>
      have h18 := hq rfl
      clear hq FW
      go_wp2_with fail
      refine (SM.out h18).mono ?_; rintro e w1 ⟨L, v1, rfl, x1, hs, hL, hM⟩
      obtain ⟨A1, c1, rfl, hc1, hr1⟩ := hs
      obtain ⟨b1, off1, rfl, hb1, hcs⟩ := hr1 (by intro e; rw [e] at hL; simp at hL; omega)
      obtain ⟨i, hi, hil⟩ : ∃ i : Nat, a.tmod (l.length : Int) = i ∧ i < L.length := by
        have h1 := Int.emod_nonneg a d0
        have h2 := Int.emod_lt_of_pos a (show (0 : Int) < (l.length : Int) by omega)
        exact ⟨(a % (l.length : Int)).toNat, by rw [Int.tmod_eq_emod_of_nonneg ha.1]; omega, by omega⟩
      obtain ⟨j, hj, hjl⟩ : ∃ i : Nat, b.tmod (l.length : Int) = i ∧ i < L.length := by
        have h1 := Int.emod_nonneg b d0
        have h2 := Int.emod_lt_of_pos b (show (0 : Int) < (l.length : Int) by omega)
        exact ⟨(b % (l.length : Int)).toNat, by rw [Int.tmod_eq_emod_of_nonneg hb.1]; omega, by omega⟩
      obtain ⟨k, hk, hkl⟩ : ∃ i : Nat, o.tmod (l.length : Int) = i ∧ i < L.length := by
        have h1 := Int.emod_nonneg o d0
        have h2 := Int.emod_lt_of_pos o (show (0 : Int) < (l.length : Int) by omega)
        exact ⟨(o % (l.length : Int)).toNat, by rw [Int.tmod_eq_emod_of_nonneg ho.1]; omega, by omega⟩
      have wa : wrap64 a = a := by unfold wrap64; omega
      have wb : wrap64 b = b := by unfold wrap64; omega
      have wo : wrap64 o = o := by unfold wrap64; omega
      have hxi : L[i]? = some L[i] := List.getElem?_eq_getElem hil
      have hxj : L[j]? = some L[j] := List.getElem?_eq_getElem hjl
      have hxk : L[k]? = some L[k] := List.getElem?_eq_getElem hkl
      have hpt := hM L[i] (List.getElem_mem hil)
      have hqt := hM L[j] (List.getElem_mem hjl)
      have hot := hM L[k] (List.getElem_mem hkl)
      generalize L[i] = p at hxi hpt
      generalize L[j] = q at hxj hqt
      generalize L[k] = r at hxk hot
      have ci := Cells.elem EB_len hcs hxi 0 _ rfl
      have cj := Cells.elem EB_len hcs hxj 0 _ rfl
      have ck := Cells.elem EB_len hcs hxk 0 _ rfl
      simp only [Nat.mul_one, Nat.add_zero] at ci cj ck
      have hi2 : (i : Int) < (L.length : Int) := by omega
      have hj2 : (j : Int) < (L.length : Int) := by omega
      have hk2 : (k : Int) < (L.length : Int) := by omega
      have HL := Lib.hid hL
      have HM := Lib.hid (And.intro hpt (And.intro hqt hot))
      have H18 := Lib.hid h18
      have HX := Lib.hid x1
      clear hcs hr1 hM hpt hqt hot hxi hxj hxk hL x1 SM ha hb ho h0 h18
      go_wp2_with fail
      go_cut [10, 11, 12] from 28 to 52 (fun s10 s11 s12 wx => s10 = .pointer (some ⟨p, 0, none⟩) ∧ s11 = .pointer (some ⟨q, 0, none⟩) ∧ s12 = .pointer (some ⟨r, 0, none⟩) ∧ Ext w1 wx)
      case first =>
--R1
        go_quiet (fail)
        go_wp2_with fail
        go_meet
        exact ⟨rfl, rfl, rfl, (Ext.refl w1).drewN nq⟩
--E1
      case rest =>
        obtain ⟨rfl, rfl, rfl, xq⟩ := hcut
        obtain ⟨⟨tp', hp1, hp2⟩, ⟨tq, hq1, hq2⟩, ⟨tr, hr1, hr2⟩⟩ := HM.out
        have h2 : (2 : Nat) ^ l.length ≤ 262144 := Nat.pow_le_pow_right (by decide) H18.out
        have x01 := HX.out.trans xq
        have tP := hp1.ext xq
        have tQ := hq1.ext xq
        have tR := hr1.ext xq
        have Z := Lib.hid x01
        have H2 := Lib.hid h2
        clear HM hp1 hq1 hr1 hi hj hk hil hjl hkl wa wb wo ci cj ck hi2 hj2 hk2 x01 xq h2 HX hb1
        go_wp2_with fail
        refine (new_any 7 7 7 tP tQ).mono ?_; rintro e w2 ⟨u2, rfl, x2, bt, rfl, hbt, hat⟩
        obtain ⟨f, hf⟩ := GrS.all w2
        have tT := hat.tr (tP.ext x2) (tQ.ext x2)
        obtain ⟨gp, gsp⟩ := (tP.ext x2).grs
        obtain ⟨gq, gsq⟩ := (tQ.ext x2).grs
        obtain ⟨go, gso⟩ := (tR.ext x2).grs
        have gst : GrS w2 (.pointer (some ⟨bt, 0, none⟩)) (.nd bt gp gq) := ⟨_, _, _, _, _, _, _, rfl, hat, gsp, gsq⟩
        have n1 := Tr.grs_len (tP.ext x2) gsp
        have n2 := Tr.grs_len (tQ.ext x2) gsq
        have n3 := Tr.grs_len (tR.ext x2) gso
        have n4 := Tr.grs_len tT gst
        have h2 := H2.out
        simp only [T.size] at n4
        have k1 : gp.ids.length ≤ 1000000 := by omega
        have k2 : gq.ids.length ≤ 1000000 := by omega
        have k3 : go.ids.length ≤ 1000000 := by omega
        have k4 : (G.nd bt gp gq).ids.length ≤ 1000000 := by omega
        have fp := hf gsp
        have fq := hf gsq
        have fo := hf gso
        have ft := hf gst
        obtain ⟨e1, e2⟩ := new_above ft
        generalize hgt : G.nd bt gp gq = gt at *
        obtain ⟨Lt, hLt⟩ : ∃ Lt, (tp (allG [go]) gt [] []).2 = Lt := ⟨_, rfl⟩
        obtain ⟨e3, e4⟩ := tops_spec ft fo hLt
        have b1 := fr_le gt []
        have b2 := fr_le gp []
        have b3 := fr_le gq (allG [gp])
        have b4 := fr_le gt (allG [go])
        simp only [List.length_nil, Nat.zero_add] at b1 b2
        have q1 : newN gq (allG [gp]) ≤ 1000000 := by unfold newN; omega
        have q2 : newN gt (allG [go]) ≤ 1000000 := by unfold newN; omega
        obtain ⟨P, hP⟩ : ∃ P : Int, ((fr gp []).length : Int) = P := ⟨_, rfl⟩
        obtain ⟨B, hB⟩ : ∃ B : Int, ((newN gq (allG [gp]) : Nat) : Int) = B := ⟨_, rfl⟩
        obtain ⟨C, hC⟩ : ∃ C : Int, ((newN gt (allG [go]) : Nat) : Int) = C := ⟨_, rfl⟩
        obtain ⟨AA, hA⟩ : ∃ AA : Int, ((fr gt []).length : Int) = AA := ⟨_, rfl⟩
        obtain ⟨S, hS⟩ : ∃ S : Int, AA - C = S := ⟨_, rfl⟩
        have v1 : 1 + P + B = AA := by omega
        have v2 : C + S = AA := by omega
        have v3 : 0 ≤ P ∧ P ≤ 1000000 := by omega
        have v4 : 0 ≤ B ∧ B ≤ 1000000 := by omega
        have v5 : 0 ≤ C ∧ C ≤ 1000000 := by omega
        have v6 : 0 ≤ AA ∧ AA ≤ 1000000 := by omega
        have hLS : ((allG (Lt.map f)).length : Int) = S := by omega
        have hLl : Lt.length ≤ 1000000 := by have := tp_len (allG [go]) gt [] []; rw [hLt] at this; simp at this; omega
        have hsub : ∀ c ∈ Lt, GrS w2 (.pointer (some ⟨c, 0, none⟩)) (f c) ∧ byF f (f c) ∧ IsB w2 c ∧ decide (c ∈ go.ids) = true ∧ decide (c ∈ gt.ids) = true ∧ ((newN (f c) (allG [go]) : Nat) : Int) = 0 ∧ (f c).ids.length ≤ 1000000 := fun c hc => by
          obtain ⟨z1, z2, z3, z4⟩ := e3 c hc
          obtain ⟨gl, gr, z5⟩ := gst.sub z2
          have z6 := (hf z5).1
          have z7 := (at_mem ft z2).2.2.1
          rw [← ids_len, ← ids_len] at z7
          exact ⟨by rw [z6]; exact z5, z3, gst.isB c z2, decide_eq_true z1, decide_eq_true z2, by rw [z4]; rfl, by omega⟩
        have hmono : ∀ i, i ≤ Lt.length → (allG ((Lt.take i).map f)).length ≤ 1000000 := by
          have step : ∀ n i, i + n = Lt.length → (allG ((Lt.take i).map f)).length ≤ (allG (Lt.map f)).length := by
            intro n
            induction n with
            | zero => intro i hi; rw [show i = Lt.length from by omega, List.take_length]; exact Nat.le_refl _
            | succ n ih =>
              intro i hi
              have h1 := ih (i + 1) (by omega)
              have h2 := new_sum (f := f) (List.getElem?_eq_getElem (show i < Lt.length by omega))
              omega
          intro i hi
          have := step (Lt.length - i) i (by omega)
          omega
        have N1 := Lib.hid (fun (W : World) (X : Ext w2 W) => new2_is (f := f) (n := 1) (gst.ext X) ft (gsp.ext X) fp (gsq.ext X) fq k4 k1 k2 (by rw [e1]; rfl))
        have NT := Lib.hid (fun (W : World) (X : Ext w2 W) => nodes1_is (f := f) (n := AA) (gst.ext X) ft hA)
        have NP := Lib.hid (fun (W : World) (X : Ext w2 W) => nodes1_is (f := f) (n := P) (gsp.ext X) fp hP)
        have N2 := Lib.hid (fun (W : World) (X : Ext w2 W) => new1_is (f := f) (n := B) (gsq.ext X) fq (gsp.ext X) fp k2 k1 hB)
        have N3 := Lib.hid (fun (W : World) (X : Ext w2 W) => new1_is (f := f) (n := C) (gst.ext X) ft (gso.ext X) fo k4 k3 hC)
        have SM := Lib.hid (fun (W : World) (X : Ext w2 W) => same1_is (f := f) (n := S) (gst.ext X) ft (gso.ext X) fo k4 k3 (by rw [hA, hC]; exact hS))
        have TP := Lib.hid (fun (W : World) (X : Ext w2 W) => tops1_is (f := f) (L := Lt) (gst.ext X) (gso.ext X) fo k4 hLt)
        have HIO := Lib.hid (fun (c : Nat) (hc : c ∈ Lt) (W : World) (X : Ext w2 W) => in1_is (f := f) (gso.ext X) fo ((hsub c hc).2.2.1.ext X) (hsub c hc).2.2.2.1)
        have IT := Lib.hid (fun (c : Nat) (hc : c ∈ Lt) (W : World) (X : Ext w2 W) => in1_is (f := f) (gst.ext X) ft ((hsub c hc).2.2.1.ext X) (hsub c hc).2.2.2.2.1)
        have NO := Lib.hid (fun (c : Nat) (hc : c ∈ Lt) (W : World) (X : Ext w2 W) => new1_is (f := f) (n := 0) ((hsub c hc).1.ext X) (hsub c hc).2.1 (gso.ext X) fo (hsub c hc).2.2.2.2.2.2 k3 (hsub c hc).2.2.2.2.2.1)
        have HSUB := Lib.hid hsub
        have HMONO := Lib.hid hmono
        have HLS := Lib.hid hLS
        have HLl := Lib.hid hLl
        have Z2 := Lib.hid (Z.out.trans x2)
        obtain ⟨v3a, v3b⟩ := v3
        obtain ⟨v4a, v4b⟩ := v4
        obtain ⟨v5a, v5b⟩ := v5
        obtain ⟨v6a, v6b⟩ := v6
        clear hsub hmono hLS hLl hS hA hC hB hP q1 q2 b1 b2 b3 b4 e3 e4 hLt e1 e2 hgt fp fq fo ft k1 k2 k3 k4 n1 n2 n3 n4 h2 gsp gsq gso gst tT hf hat hbt x2 tP tQ tR
        clear hp2 hq2 hr2
        have y := Ext.refl w2
        go_wp2_with fail
        refine (N1.out _ y).mono ?_; rintro e w3 ⟨rfl, x3⟩
        have y := y.trans x3
        clear x3
        go_wp2_with fail
        refine (NT.out _ y).mono ?_; rintro e w4 ⟨rfl, x4⟩
        have y := y.trans x4
        clear x4
        go_wp2_with fail
        refine (NP.out _ y).mono ?_; rintro e w5 ⟨rfl, x5⟩
        have y := y.trans x5
        clear x5
        go_wp2_with fail
        refine (N2.out _ y).mono ?_; rintro e w6 ⟨rfl, x6⟩
        have y := y.trans x6
        clear x6
        go_wp2_with fail
        refine (N3.out _ y).mono ?_; rintro e w7 ⟨rfl, x7⟩
        have y := y.trans x7
        clear x7
        go_wp2_with fail
        refine (SM.out _ y).mono ?_; rintro e w8 ⟨rfl, x8⟩
        have y := y.trans x8
        clear x8
        go_wp2_with fail
        refine (NT.out _ y).mono ?_; rintro e w9 ⟨rfl, x9⟩
        have y := y.trans x9
        clear x9
        go_wp2_with fail
        refine (TP.out _ y).mono ?_; rintro e w10 ⟨A8, c8, rfl, x10, hsl⟩
        have y := y.trans x10
        clear x10
        have HY := Lib.hid y
        have HSL := Lib.hid hsl
        clear y hsl v3a v3b v4a v4b v5a v5b v6a v6b v1 v2 N1 NP N2 N3 NT TP
        go_wp2_with fail
        go_loopw [8, 15, 16] (fun s8 s15 s16 wr => ∃ i : Nat, i ≤ Lt.length ∧ s8 = .bool false ∧ s15 = .int .i64 ((allG ((Lt.take i).map f)).length : Int) ∧ s16 = .int .i64 (i : Int) ∧ Ext w10 wr) (fun _ _ i _ => Lt.length - (intOf i).toNat)
        case atStart => exact ⟨0, Nat.zero_le _, rfl, rfl, rfl, Ext.refl w10⟩
        case round =>
          obtain ⟨i, hi, rfl, rfl, rfl, hx⟩ := hrel
          by_cases hlt : i < Lt.length
          · have hci : Lt[i]? = some Lt[i] := List.getElem?_eq_getElem hlt
            have hcm : Lt[i] ∈ Lt := List.getElem_mem hlt
            generalize Lt[i] = t at hci hcm
            have hsum := new_sum (f := f) hci
            have m1 := HMONO.out i hi
            have m2 := HMONO.out (i + 1) (by omega)
            obtain ⟨b8, off8, c8', e0, hcc, hb8, hcs⟩ : ∃ b off c', (Value.slice A8 Lt.length c8 = .slice (some ⟨b, off, none⟩) Lt.length c') ∧ Lt.length ≤ c' ∧ b < w10.heap.size ∧ Cells w10 b off (flat EB Lt) := by
              obtain ⟨A', c', e, hc, hr⟩ := HSL.out
              obtain ⟨b, off, rfl, hb, hcs⟩ := hr (by intro e; rw [e] at hlt; simp at hlt)
              exact ⟨b, off, c', e, hc, hb, hcs⟩
            injection e0 with e1 e2 e3
            subst e1 e3
            clear e2
            have cx := Cells.elem EB_len hcs hci 0 _ rfl
            simp only [Nat.mul_one, Nat.add_zero] at cx
            have HC := Lib.hid (fun (W : World) (X : Ext w10 W) => (X.cell (p := ⟨b8, off8 + i, none⟩) hb8).trans cx)
            obtain ⟨i0, z0, hi0, _, hs0, _⟩ := ebE.info
            have ct := run_cut_h (P := Try.prog) ebE.ht hi0 hs0 (some ⟨b8, off8, none⟩) (n := Lt.length) (c := c8) (i : Int) i rfl (by omega)
            simp only [cutA_zero] at ct
            obtain ⟨M, hM⟩ : ∃ M : Int, ((allG ((Lt.take i).map f)).length : Int) = M := ⟨_, rfl⟩
            obtain ⟨N, hN⟩ : ∃ N : Int, ((newN (f t) (allG ((Lt.take i).map f)) : Nat) : Int) = N := ⟨_, rfl⟩
            have NL := Lib.hid (fun (W : World) (X : Ext w10 W) => newL_is (f := f) (n := N) ((HSL.out.ext X).cutB i hi) (fun c hc => ⟨(HSUB.out c (List.mem_of_mem_take hc)).1.ext (HY.out.trans X), (HSUB.out c (List.mem_of_mem_take hc)).2.1⟩) ((HSUB.out t hcm).1.ext (HY.out.trans X)) (HSUB.out t hcm).2.1 (by rw [List.length_take]; have := HLl.out; omega) (by omega) (HSUB.out t hcm).2.2.2.2.2.2 hN)
            obtain ⟨M2, hM2⟩ : ∃ M2 : Int, ((allG ((Lt.take (i + 1)).map f)).length : Int) = M2 := ⟨_, rfl⟩
            have s1 : M + N = M2 := by omega
            have s2 : 0 ≤ M := by omega
            have s3 : 0 ≤ N := by omega
            have s4 : M2 ≤ 1000000 := by omega
            have s5 : 0 ≤ M2 := by omega
            have s6 := HLl.out
            have HW := Lib.hid (show IntKind.i64.wrap M2 = M2 by rw [IntKind.wrap_i64]; omega)
            have hlt2 : (i : Int) < (Lt.length : Int) := by omega
            have HIO1 := Lib.hid (HIO.out t hcm)
            have IT1 := Lib.hid (IT.out t hcm)
            have NO1 := Lib.hid (NO.out t hcm)
            have cx1 := HC.out _ hx
            have HM2 := Lib.hid hM2
            have y := Ext.refl wr
            have HXR := Lib.hid hx
            rw [hM]
            clear hci hcm hsum m1 m2 hcs hcc hb8 cx hi0 hs0 hM hN hM2 hx
            go_wp2_with fail
            refine (HIO1.out _ (HY.out.trans (HXR.out.trans y))).mono ?_; rintro e wa ⟨rfl, xa⟩
            have y := y.trans xa
            have cx1 := HC.out _ (HXR.out.trans y)
            clear xa
            go_wp2_with fail
            refine (IT1.out _ (HY.out.trans (HXR.out.trans y))).mono ?_; rintro e wb ⟨rfl, xb⟩
            have y := y.trans xb
            have cx1 := HC.out _ (HXR.out.trans y)
            clear xb
            go_wp2_with fail
            refine (NO1.out _ (HY.out.trans (HXR.out.trans y))).mono ?_; rintro e wd ⟨rfl, xd⟩
            have y := y.trans xd
            have z := HXR.out.trans y
            clear xd y
            go_wp2_with fail
            go_region_held3 (fun W => W.cell? ⟨b8, off8 + i, none⟩ = some (.pointer (some ⟨t, 0, none⟩))) (first | exact HC.out _ z | exact HC.out _ (Ext.drew z))
              (first
                | (go_at_call 66; refine (NL.out _ (by first | exact z | exact Ext.drew z)).mono ?_; rintro e we ⟨rfl, xe⟩; have z := (by first | exact Ext.trans z xe | exact (Ext.drew z).trans xe))
                | fail)
            have ZE := Lib.hid z
            clear z xe
            go_wp2_with fail
            exact ⟨⟨i + 1, by omega, rfl, by rw [HM2.out, HW.out], by go_num, ZE.out⟩, by simp [intOf]; omega⟩
          · obtain rfl : i = Lt.length := by omega
            have hls := HLS.out
            rw [List.take_length, hls]
            have HX := Lib.hid hx
            clear hls hx
            go_wp2_with fail
            refine (SM.out _ (HY.out.trans HX.out)).mono ?_; rintro e wa ⟨rfl, xa⟩
            go_wp2_with fail
            refine (alive13 _).mono ?_; rintro e wb ⟨rfl, xb⟩
            go_wp2_with fail
            go_ret
            exact ⟨rfl, Z2.out.trans (HY.out.trans (HX.out.trans (xa.trans xb)))⟩
end Go.Proofs.Ytlehcagpddgamaa
