/- joinerylaw13: few, pick, some. -/
import Derived.Test.YtlehcagpddgamaaFrameE
import Derived.Test.YtlehcagpddgamaaAlive13
namespace Go.Proofs.Ytlehcagpddgamaa
open Go.RowKit G

set_option maxHeartbeats 2000000 in
theorem may13_any {l : List NodeR} {v : Value} {w : World} (h : Sl NodeR.enc w v l) (hm : l.length ≤ 1000) : Calls Try.prog 143 #[v] w fun e w' => ∃ q, e = .returned (.bool q) ∧ w' = w := by
  obtain ⟨A, c, rfl, hc, hr⟩ := h
  go_enter Try.func143, Try.ntmps143
  go_wp2_with fail
  go_loopw [2, 3] (fun o i wr => ∃ k : Nat, k ≤ l.length ∧ i = .int .i64 (k : Int) ∧ o = .bool false ∧ wr = w) (fun _ i _ => l.length - (intOf i).toNat)
  case atStart => exact ⟨0, Nat.zero_le _, rfl, rfl, rfl⟩
  case round =>
    obtain ⟨k, hk, rfl, rfl, rfl⟩ := hrel
    by_cases hlt : k < l.length
    · obtain ⟨b, off, rfl, hb, hcs⟩ := hr (by intro h; rw [h] at hlt; simp at hlt)
      have hxk : l[k]? = some l[k] := List.getElem?_eq_getElem hlt
      generalize l[k] = x at hxk
      have cel := Cells.elem NodeR.enc_len hcs hxk
      have c0 : wr.cell? ⟨b, off + k * 2, none⟩ = some (.int .i64 x.left) := by have := cel 0 _ rfl; simpa using this
      have c1 : wr.cell? ⟨b, off + k * 2 + 1, none⟩ = some (.int .i64 x.right) := cel 1 _ rfl
      have hlt2 : (k : Int) < (l.length : Int) := by omega
      clear hxk cel hcs hr
      by_cases h1 : x.left < (k : Int)
      · have d1 : ¬ ((k : Int) ≤ x.left) := by omega
        by_cases h2 : x.right < (k : Int)
        · have d2 : ¬ ((k : Int) ≤ x.right) := by omega
          go_wp2_with fail
          exact ⟨⟨k + 1, by omega, by go_num, rfl, by first | rfl | trivial⟩, by simp [intOf]; omega⟩
        · have d2 : (k : Int) ≤ x.right := by omega
          go_wp2_with fail
          go_ret
          exact ⟨.inl rfl, rfl⟩
      · have d1 : (k : Int) ≤ x.left := by omega
        go_wp2_with fail
        go_ret
        exact ⟨.inl rfl, rfl⟩
    · obtain rfl : k = l.length := by omega
      go_wp2_with fail
      go_ret
      exact ⟨_, rfl, rfl⟩
theorem few_any {l : List NodeR} {v : Value} {w : World} (h : Sl NodeR.enc w v l) : Calls Try.prog 63 #[v] w fun e w' => ∃ q, e = .returned (.bool q) ∧ w' = w ∧ (q = true → l.length ≤ 18) := by
  by_cases h18 : l.length ≤ 18
  · have MY := may13_any h (by omega)
    have d1 : (l.length : Int) ≤ 18 := by omega
    obtain ⟨A, c, rfl, hc, hr⟩ := h
    go_enter Try.func63, Try.ntmps63
    go_wp2_with fail
    refine MY.mono ?_; rintro e w' ⟨q, rfl, rfl⟩
    go_wp2_with fail
    go_ret
    exact ⟨_, rfl, rfl, fun _ => h18⟩
  · have d1 : ¬ ((l.length : Int) ≤ 18) := by omega
    obtain ⟨A, c, rfl, hc, hr⟩ := h
    go_enter Try.func63, Try.ntmps63
    go_wp2_with fail
    go_ret
    exact ⟨rfl, rfl⟩
/-- The node of a number. -/
def pickP (L : List Nat) (n : Int) : Option Addr := if n < 0 then none else (L[n.toNat]?).map fun b => ⟨b, 0, none⟩
theorem pickP_or (L : List Nat) (n : Int) : pickP L n = none ∨ ∃ b ∈ L, pickP L n = some ⟨b, 0, none⟩ := by
  unfold pickP
  split
  · exact .inl rfl
  · cases h : L[n.toNat]? with
    | none => exact .inl rfl
    | some b => exact .inr ⟨b, List.mem_of_getElem? h, rfl⟩
theorem pick_any {L : List Nat} {v : Value} {n : Int} {w : World} (h : Sl EB w v L) : Calls Try.prog 144 #[v, .int .i64 n] w fun e w' => e = .returned (.pointer (pickP L n)) ∧ w' = w := by
  obtain ⟨A, c, rfl, hc, hr⟩ := h
  unfold pickP
  by_cases h1 : n < 0
  · rw [if_pos h1]
    clear hr
    go_enter Try.func144, Try.ntmps144
    go_wp2_with fail
    go_ret
    exact ⟨rfl, rfl⟩
  · rw [if_neg h1]
    by_cases h2 : n < (L.length : Int)
    · have d2 : ¬ ((L.length : Int) ≤ n) := by omega
      obtain ⟨k, rfl⟩ : ∃ k : Nat, (k : Int) = n := ⟨n.toNat, by omega⟩
      have hk : k < L.length := by omega
      obtain ⟨b, off, rfl, hb, hcs⟩ := hr (by intro h; rw [h] at hk; simp at hk)
      have hxk : L[k]? = some L[k] := List.getElem?_eq_getElem hk
      rw [Int.toNat_natCast, hxk]
      generalize L[k] = x at hxk
      have cx := Cells.elem EB_len hcs hxk 0 _ rfl
      rw [Nat.mul_one, Nat.add_zero] at cx
      clear hxk hcs hr
      go_enter Try.func144, Try.ntmps144
      go_wp2_with fail
      go_ret
      exact ⟨rfl, rfl⟩
    · have d2 : (L.length : Int) ≤ n := by omega
      rw [List.getElem?_eq_none (by omega)]
      clear hr
      go_enter Try.func144, Try.ntmps144
      go_wp2_with fail
      go_ret
      exact ⟨rfl, rfl⟩
/-- The nodes that were made stand for trees that are not too large. -/
def Made (w : World) (L : List Nat) (k : Nat) : Prop := ∀ b ∈ L, ∃ t, Tr w (.pointer (some ⟨b, 0, none⟩)) t ∧ t.size + 1 ≤ 2 ^ k
theorem Made.ext {w w' : World} {L : List Nat} {k : Nat} (h : Made w L k) (x : Ext w w') : Made w' L k := fun b hb => by
  obtain ⟨t, h1, h2⟩ := h b hb
  exact ⟨t, h1.ext x, h2⟩
theorem Made.pick {w : World} {L : List Nat} {k : Nat} (h : Made w L k) (n : Int) : ∃ t, Tr w (.pointer (pickP L n)) t ∧ t.size + 1 ≤ 2 ^ k := by
  rcases pickP_or L n with e | ⟨b, hb, e⟩
  · rw [e]; exact ⟨.nil, rfl, by simp [T.size]; exact Nat.one_le_two_pow⟩
  · rw [e]; exact h b hb
theorem Made.more {w : World} {L : List Nat} {k b : Nat} {k' x g : Int} {l r : T} {vl vr : Value} (h : Made w L k) (ha : At w b k' x g l r vl vr) (hl : Tr w vl l) (hr : Tr w vr r) (sl : l.size + 1 ≤ 2 ^ k) (sr : r.size + 1 ≤ 2 ^ k) : Made w (L ++ [b]) (k + 1) := fun c hc => by
  rw [Nat.pow_succ]
  simp only [List.mem_append, List.mem_singleton] at hc
  rcases hc with hc | rfl
  · obtain ⟨t, h1, h2⟩ := h c hc
    exact ⟨t, h1, by omega⟩
  · exact ⟨_, ha.tr hl hr, by simp only [T.size]; omega⟩
theorem Tr.chgB {w w' : World} {S : List Nat} (k : Chg S w w') (hS : ∀ s ∈ S, ∀ t, (w.heap[s]?).any (fun o => match o with | .cells _ t' _ => t' == t | _ => false) = true → ¬ t = 145) : ∀ {t : T} {v : Value}, Tr w v t → Tr w' v t
  | .nil, _, h => h
  | .node _ _ _ _ _, _, ⟨b, vl, vr, hv, ha, hl, hr⟩ => ⟨b, vl, vr, hv, Chg.blk k ha (fun hm => hS b hm 145 (by
      have h2 : w.heap[b]? = _ := ha
      rw [h2]
      simp) rfl), hl.chgB k hS, hr.chgB k hS⟩
theorem tr_rowB {w w' : World} {base : Nat} {v : Value} {l : List Nat} (h : Own EB 26 1 base w v l) (hg : w.grownBy w' v.ownBlock) {t : T} {u : Value} (ht : Tr w u t) : Tr w' u t :=
  Tr.chgB (grown_chg hg) (fun s hs t' h' => by
    rcases h.2 with ⟨rfl, _⟩ | ⟨g, cap, cur, rfl, _, hh, _⟩
    · simp [Value.ownBlock] at hs
    · simp [Value.ownBlock] at hs
      subst hs
      rw [hh] at h'
      simp at h'
      subst h'
      decide) ht
theorem Made.row {w w' : World} {base : Nat} {v : Value} {l L : List Nat} {k : Nat} (hM : Made w L k) (h : Own EB 26 1 base w v l) (hg : w.grownBy w' v.ownBlock) : Made w' L k := fun b hb => by
  obtain ⟨t, h1, h2⟩ := hM b hb
  exact ⟨t, tr_rowB h hg h1, h2⟩
set_option maxRecDepth 100000 in
set_option maxHeartbeats 4000000 in
theorem some_any {l : List NodeR} {v : Value} {w : World} (h : Sl NodeR.enc w v l) (hm : l.length ≤ 18) : Calls Try.prog 65 #[v] w fun e w' => ∃ L v', e = .returned v' ∧ Ext w w' ∧ Sl EB w' v' L ∧ L.length = l.length ∧ Made w' L l.length := by
  obtain ⟨A, c, rfl, hc, hr⟩ := h
  go_enter Try.func65, Try.ntmps65
  go_wp2_with fail
  go_loopw [3, 4] (fun o i wr => ∃ (k : Nat) (L : List Nat), k ≤ l.length ∧ i = .int .i64 (k : Int) ∧ L.length = k ∧ Own EB 26 1 w.heap.size wr o L ∧ Made wr L k ∧ Ext w wr) (fun _ i _ => l.length - (intOf i).toNat)
  case atStart => exact ⟨0, [], Nat.zero_le _, rfl, rfl, Own.nil_ _ _ _, fun _ h => by simp at h, Ext.refl w⟩
  case round =>
    obtain ⟨k, L, hk, rfl, hL, ho, hM, hx⟩ := hrel
    by_cases hlt : k < l.length
    · obtain ⟨b, off, rfl, hb, hcs⟩ := hr (by intro h; rw [h] at hlt; simp at hlt)
      have hxk : l[k]? = some l[k] := List.getElem?_eq_getElem hlt
      generalize l[k] = x at hxk
      have hlt2 : (k : Int) < (l.length : Int) := by omega
      obtain ⟨t1, ht1, hs1⟩ := hM.pick x.left
      obtain ⟨t2, ht2, hs2⟩ := hM.pick x.right
      have hL18 : L.length ≤ 18 := by omega
      obtain ⟨A1, cc1, rfl, _, _⟩ := ho.sl EB_len (by omega)
      have PK1 := fun (W : World) (X : Ext wr W) => pick_any (n := x.left) ((ho.sl EB_len (by omega)).ext X)
      have PK2 := fun (W : World) (X : Ext wr W) => pick_any (n := x.right) ((ho.sl EB_len (by omega)).ext X)
      generalize pickP L x.left = p1 at *
      generalize pickP L x.right = p2 at *
      have PK1 := Lib.hid PK1
      have PK2 := Lib.hid PK2
      have HC := Lib.hid (show ∀ W : World, Ext w W → W.cell? ⟨b, off + k * 2, none⟩ = some (.int .i64 x.left) ∧ W.cell? ⟨b, off + k * 2 + 1, none⟩ = some (.int .i64 x.right) from fun W X => by
        have cel := Cells.elem NodeR.enc_len (hcs.ext X hb) hxk
        exact ⟨by have := cel 0 _ rfl; simpa using this, cel 1 _ rfl⟩)
      have HO := Lib.hid ho
      have HM := Lib.hid hM
      have HL := Lib.hid hL
      have HX := Lib.hid hx
      have HS := Lib.hid (And.intro hs1 hs2)
      have z := Ext.refl wr
      clear hxk hcs hr ho hM hx hs1 hs2 hL
      go_wp2_with fail
      go_region_held3 (fun W => W.cell? ⟨b, off + k * 2, none⟩ = some (.int .i64 x.left) ∧ W.cell? ⟨b, off + k * 2 + 1, none⟩ = some (.int .i64 x.right)) (first | exact HC.out _ (HX.out.trans z) | exact HC.out _ (HX.out.trans (Ext.drew z)) | exact HC.out _ (HX.out.trans (Ext.alloc z _)) | exact HC.out _ z4)
        (first
          | (go_at_call 144; first
              | ((with_reducible refine (PK1.out _ (by first | exact z | exact Ext.drew z)).mono ?_); rintro e w' ⟨rfl, rfl⟩)
              | ((with_reducible refine (PK2.out _ (by first | exact z | exact Ext.drew z)).mono ?_); rintro e w' ⟨rfl, rfl⟩))
          | (go_at_call 35; refine (new_any _ 0 0 (ht1.ext (by first | exact z | exact Ext.drew z)) (ht2.ext (by first | exact z | exact Ext.drew z))).mono ?_; rintro e w3 ⟨u3, rfl, x3, bn, rfl, hbn, hat⟩; have hgi := True.intro; have z := (by first | exact Ext.trans z x3 | exact (Ext.drew z).trans x3))
          | (have hgd := hgi
             rw [if_pos (by rfl)]
             go_must (refine wp_app ebE (v := .slice A1 L.length cc1) (.tmp 11) (.tmp 29) rfl rfl rfl (HO.out.ext (z.alloc _)) (lit_sl (enc := EB) bn rfl) ?hm3 ?hm4 (HX.out.trans (z.alloc _)).size ?_
                      (case hm3 => simp only [maxLen, List.length_singleton]; omega)
                      (case hm4 => simp only [List.length_singleton]; omega)
                      intro v4 w4 o4 a4
                      have z4 := AppTo.ext a4 (HX.out.trans (z.alloc _)) (HO.out.ext (z.alloc _))))
          | fail)
      have zz := z.alloc (.cells #[.pointer (some ⟨bn, 0, none⟩)] 26)
      have m4 : Made w4 (L ++ [bn]) (k + 1) := ((HM.out.ext zz).more (Blk.alloc hat _) (ht1.ext zz) (ht2.ext zz) HS.out.1 HS.out.2).row (HO.out.ext zz) a4.1
      have M4 := Lib.hid m4
      have O4 := Lib.hid o4
      have Z4 := Lib.hid z4
      clear zz m4 o4 z4 a4 hat ht1 ht2 z PK1 PK2 hbn x3
      go_wp2_with fail
      exact ⟨⟨k + 1, L ++ [bn], by omega, by go_num, by rw [List.length_append, HL.out]; rfl, O4.out, M4.out, Z4.out⟩, by simp [intOf]; omega⟩
    · obtain rfl : k = l.length := by omega
      have HM := Lib.hid hM
      have HO := Lib.hid ho
      clear hM ho
      go_wp2_with fail
      go_ret
      exact ⟨L, _, rfl, hx, HO.out.sl EB_len (by omega), hL, HM.out⟩
end Go.Proofs.Ytlehcagpddgamaa
