/- The document's answer of chapter 12: Rises, Ahead. -/
import Derived.Test.YtlehcagpddgamaaRef12C
import Derived.Test.YtlehcagpddgamaaWalk12b
namespace Go.Proofs.Ytlehcagpddgamaa
open Go.RowKit
set_option linter.unusedVariables false

theorem rise_not {o : Nat} {K : List Int} {q : Nat} (h : ¬ Rise o (K.take q)) : ¬ Rise o K := fun hr => h (List.Pairwise.sublist (List.take_sublist _ _) hr)
set_option maxRecDepth 100000 in
set_option maxHeartbeats 4000000 in
theorem refRises_any {o : Nat} (h1 : 1 ≤ o) (h2 : o ≤ 7) {P : List (Int × Int)} {v : Value} {w : World} (h : Sl EP w v P) (hm : P.length ≤ 1000000) (hP : ∀ p ∈ P, InR p.1) :
    Calls Try.prog 167 #[.int .u8 (o : Int), v] w fun e w' => e = .returned (.bool (decide (Rise o (P.map Prod.fst)))) ∧ Ext w w' := by
  obtain ⟨A, c, rfl, hc, hr⟩ := h
  have CK := Lib.hid (fun (x y : Int) (hx : InR x) (hy : InR y) (W : World) => rcompareK h1 h2 hx hy W)
  clear h1 h2
  go_enter Try.func167, Try.ntmps167
  go_wp2_with fail
  go_loopw [5] (fun i wr => ∃ q : Nat, i = .int .i64 ((q + 1 : Nat) : Int) ∧ (q + 1 ≤ P.length ∨ q = 0) ∧ Rise o ((P.map Prod.fst).take (q + 1)) ∧ Ext w wr) (fun i _ => P.length + 1 - (intOf i).toNat)
  case atStart => exact ⟨0, rfl, .inr rfl, rise_few, Ext.refl _⟩
  case round =>
    obtain ⟨q, rfl, hq, ht, hx⟩ := hrel
    have HT := Lib.hid ht
    clear ht
    by_cases hlt : q + 1 < P.length
    · obtain ⟨b, off, rfl, hb, hcs⟩ := hr (by intro h; rw [h] at hlt; simp at hlt)
      have hxk : P[q]? = some P[q] := List.getElem?_eq_getElem (by omega)
      have hyk : P[q + 1]? = some P[q + 1] := List.getElem?_eq_getElem hlt
      have hin := hP _ (List.getElem_mem (show q < P.length by omega))
      have hiy := hP _ (List.getElem_mem hlt)
      generalize P[q] = x at hxk hin
      generalize P[q + 1] = y at hyk hiy
      have RS := Lib.hid (rise_step (o := o) (K := P.map Prod.fst) (q := q) (x := x.1) (y := y.1) (by rw [List.getElem?_map, hxk]; rfl) (by rw [List.getElem?_map, hyk]; rfl))
      have HC : Hid (∀ W : World, Ext w W → W.cell? ⟨b, off + q * 2, none⟩ = some (.int .i64 x.1) ∧ W.cell? ⟨b, off + (q + 1) * 2, none⟩ = some (.int .i64 y.1)) := Lib.hid (by
        intro W X
        have h := Cells.elem EP_len (hcs.ext X hb) hxk
        have h' := Cells.elem EP_len (hcs.ext X hb) hyk
        exact ⟨h 0 _ rfl, h' 0 _ rfl⟩)
      have CC := Lib.hid (fun W => CK.out x.1 y.1 hin hiy W)
      have hlt2 : (q : Int) + 1 < (P.length : Int) := by omega
      have hqn : q + 1 < 1000000 := by omega
      have HX := Lib.hid hx
      have y0 := Ext.refl wr
      clear hcs hxk hyk hin hiy hr hx hP CK hb
      generalize cmpK o x.1 y.1 = cc at *
      have g2 : (q : Int) < (P.length : Int) := by omega
      have g3 : (0 : Int) ≤ (q : Int) + 1 := by omega
      have g4 : ((q : Int) + 1).toNat = q + 1 := by omega
      have g5 : (0 : Int) ≤ (q : Int) := by omega
      by_cases hz : 0 ≤ cc
      · have hno : ¬ Rise o (P.map Prod.fst) := rise_not (q := q + 2) (by rw [RS.out]; rintro ⟨_, h⟩; omega)
        have HN := Lib.hid hno
        clear hno
        have g1 : IntKind.i64.wrap (q : Int) = (q : Int) := IntWalk.i64_in _ (by omega)
        go_wp2_with fail
        go_region_held3 (fun W => W.cell? ⟨b, off + q * 2, none⟩ = some (.int .i64 x.1) ∧ W.cell? ⟨b, off + (q + 1) * 2, none⟩ = some (.int .i64 y.1)) (first | exact HC.out _ (HX.out.trans y0) | exact HC.out _ (HX.out.trans (Ext.drew y0)))
          (first
            | (go_at_call 98; refine (CC.out _).mono ?_; rintro e wa ⟨rfl, xa⟩; have y0 := (by first | exact Ext.trans y0 xa | exact (Ext.drew y0).trans xa)))
        clear g1 g2 g3 g4 g5
        go_wp2_with fail
        go_ret
        exact ⟨by rw [decide_eq_false HN.out]; rfl, HX.out.trans y0⟩
      · have hyes : Rise o ((P.map Prod.fst).take (q + 2)) := RS.out.2 ⟨HT.out, by omega⟩
        have HH := Lib.hid hyes
        clear hyes
        have g1 : IntKind.i64.wrap (q : Int) = (q : Int) := IntWalk.i64_in _ (by omega)
        go_wp2_with fail
        go_region_held3 (fun W => W.cell? ⟨b, off + q * 2, none⟩ = some (.int .i64 x.1) ∧ W.cell? ⟨b, off + (q + 1) * 2, none⟩ = some (.int .i64 y.1)) (first | exact HC.out _ (HX.out.trans y0) | exact HC.out _ (HX.out.trans (Ext.drew y0)))
          (first
            | (go_at_call 98; refine (CC.out _).mono ?_; rintro e wa ⟨rfl, xa⟩; have y0 := (by first | exact Ext.trans y0 xa | exact (Ext.drew y0).trans xa)))
        clear g1 g2 g3 g4 g5
        go_wp2_with fail
        exact ⟨⟨q + 1, by go_num, .inl (by omega), HH.out, HX.out.trans y0⟩, by simp only [intOf]; omega⟩
    · have hge : P.length ≤ q + 1 := by omega
      have hall : Rise o (P.map Prod.fst) := by
        have := HT.out
        rwa [List.take_of_length_le (by simpa using hge)] at this
      have HN := Lib.hid hall
      have hlt2 : (P.length : Int) ≤ (q : Int) + 1 := by omega
      clear hall hge
      go_wp2_with fail
      go_ret
      exact ⟨by rw [decide_eq_true HN.out]; rfl, hx⟩
section
variable {α : Type} {P : Program} {t e : TypeId} {sz bytes : Nat} {enc : α → List Value} (E : Elem P t e sz bytes enc)
include E
/-- An append behind a guard that says yes. -/
theorem wpList_appG {ops : Array Oper} {rest : List Oper} {o : Oper} {a : Act} {Q : Exit → Act → World → Prop} (s x : Operand)
    (ho : o.op = .call { callee := .builtin .append, args := #[s, x], argTypes := #[t, t] }) (hw : Region.wanted o (yielded ops a.tmps) = true)
    {w : World} {base : Nat} {v u : Value} {l m : List α} (hs : a.eval s = v) (hx : a.eval x = u) (hv : Own enc e sz base w v l) (hu : Sl enc w u m)
    (h63 : l.length + m.length ≤ maxLen) (hb : (l.length + m.length) * bytes ≤ 140737488355328) (hbase : base ≤ w.heap.size)
    (h : ∀ v' w', Own enc e sz base w' v' (l ++ m) → AppTo base w w' v v' → wpList P ops Q rest (a.put o.dst v') w') : wpList P ops Q (o :: rest) a w :=
  wpList_step fun K hK => by rw [if_pos hw]; exact wp_app E s x ho hs hx hv hu h63 hb hbase fun v' w' h2 h3 => hK _ _ (h v' w' h2 h3)
end
theorem pairs_in {t : T} (hk : KeysR t) : ∀ p ∈ t.pairs, InR p.1 := fun p hp => keys_in hk _ (by rw [← T.pairs_keys]; exact List.mem_map_of_mem hp)
set_option maxRecDepth 100000 in
set_option maxHeartbeats 4000000 in
theorem refAhead_any {o : Nat} (h1 : 1 ≤ o) (h2 : o ≤ 7) {a b : T} {la lb : List Bead} {va vb : Value} {w : World} (ha : Sl Bead.enc w va la) (hb : Sl Bead.enc w vb lb) (sa : Ser la a) (sb : Ser lb b) (ta : a.height ≤ 5001) (tb : b.height ≤ 5001)
    (ma : la.length ≤ 100000) (mb : lb.length ≤ 100000) (ka : KeysR a) (kb : KeysR b) :
    Calls Try.prog 110 #[.int .u8 (o : Int), va, vb] w fun e w' => e = .returned (.bool (aheadT o a b)) ∧ Ext w w' := by
  have IS := is02_any h1 h2 w
  have PA := refPairs_any a ha sa ta ma
  have PB := Lib.hid (fun (W : World) (X : Ext w W) => refPairs_any b (hb.ext X) sb tb mb)
  have la1 : a.pairs.length ≤ 100000 := by rw [T.pairs_length, ← sa.length]; exact ma
  have lb1 : b.pairs.length ≤ 100000 := by rw [T.pairs_length, ← sb.length]; exact mb
  have RI := Lib.hid (fun (W : World) (V : Value) (X : Sl EP W V (a.pairs ++ b.pairs)) => refRises_any h1 h2 X (by simp only [List.length_append]; omega) (fun p hp => by
    rcases List.mem_append.1 hp with hp | hp
    · exact pairs_in ka p hp
    · exact pairs_in kb p hp))
  simp only [List.map_append, T.pairs_keys] at RI
  change Hid (∀ (W : World) (V : Value), _ → Calls _ _ _ W fun e w' => e = .returned (.bool (aheadT o a b)) ∧ Ext W w') at RI
  generalize aheadT o a b = q at *
  clear ha hb sa sb ka kb ta tb ma mb h1 h2
  go_enter Try.func110, Try.ntmps110
  go_wp2_with fail
  refine IS.mono ?_; rintro e w' ⟨rfl, rfl⟩
  go_wp2_with fail
  refine PA.mono ?_; rintro e w1 ⟨ua, rfl, x1, oa⟩
  go_wp2_with fail
  refine (PB.out _ x1).mono ?_; rintro e w2 ⟨ub, rfl, x2, ob⟩
  have y2 := x1.trans x2
  have oa := oa.ext x2
  go_wp2_with (at_builtin; refine wpList_appG pairE (.tmp 12) (.tmp 14) rfl (by rfl) rfl rfl oa (ob.sl EP_len (by omega)) ?h1 ?h2 y2.size ?_; (case h1 => simp only [maxLen]; omega); (case h2 => omega); intro v3 w3 o3 a3)
  refine (RI.out _ _ (o3.sl EP_len (by omega))).mono ?_; rintro e w4 ⟨rfl, x4⟩
  have y3 := AppTo.ext a3 y2 oa
  go_wp2_with fail
  go_ret
  exact ⟨rfl, y3.trans x4⟩
theorem refAhead_bad {o : Int} {va vb : Value} {w : World} (h : ¬ (1 ≤ o ∧ o ≤ 7)) : Calls Try.prog 110 #[.int .u8 o, va, vb] w fun e w' => e = .returned (.bool false) ∧ Ext w w' := by
  have IS := is02_no h w
  clear h
  go_enter Try.func110, Try.ntmps110
  go_wp2_with fail
  refine IS.mono ?_; rintro e w' ⟨rfl, rfl⟩
  go_wp2_with fail
  go_ret
  exact ⟨rfl, Ext.refl w⟩
end Go.Proofs.Ytlehcagpddgamaa
