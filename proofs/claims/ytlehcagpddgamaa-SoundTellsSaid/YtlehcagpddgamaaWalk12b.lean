/- The statement SoundRises. -/
import Derived.Test.YtlehcagpddgamaaKeys12
import Derived.IntWalk
namespace Go.Proofs.Ytlehcagpddgamaa
open Go.RowKit
set_option linter.unusedVariables false

theorem long12_is {l : List Bead} {v : Value} {w : World} {b : Bool} (h : Sl Bead.enc w v l) (hm : l.length ≤ maxLen) (hb : (decide (400 < l.length) || !mayL l) = b) :
    Calls Try.prog 30 #[v] w fun e w' => e = .returned (.bool b) ∧ w = w' := by
  subst hb; exact long_any h (by simpa [maxLen] using hm)
theorem ser_keys : ∀ {t : T} {l : List Bead}, Ser l t → (∀ x ∈ l, InR x.key) → KeysR t
  | .nil, _, _, _ => trivial
  | .node k x g a b, _, ⟨y, la, lb, hl, hk, _, _, _, _, sa, sb⟩, h => by
    subst hl
    exact ⟨hk ▸ h y (by simp), ser_keys sa (fun z hz => h z (by simp [hz])), ser_keys sb (fun z hz => h z (by simp [hz]))⟩
theorem keys_in : ∀ {t : T}, KeysR t → ∀ x ∈ t.keys, InR x
  | .nil, _, x, h => by simp [T.keys] at h
  | .node k y g l r, ⟨h1, h2, h3⟩, x, h => by
    simp only [T.keys, List.mem_append, List.mem_cons] at h
    rcases h with h | h | h
    · exact keys_in h2 x h
    · exact h ▸ h1
    · exact keys_in h3 x h
theorem rise_step {o : Nat} {K : List Int} {q : Nat} {x y : Int} (hx : K[q]? = some x) (hy : K[q + 1]? = some y) : Rise o (K.take (q + 2)) ↔ Rise o (K.take (q + 1)) ∧ cmpK o x y < 0 := by
  have e1 : K.take (q + 1) = K.take q ++ [x] := by rw [List.take_add_one, hx]; rfl
  have e2 : K.take (q + 2) = K.take (q + 1) ++ [y] := by rw [List.take_add_one, hy]; rfl
  constructor
  · intro h
    have h1 : Rise o (K.take (q + 1)) := by rw [e2] at h; exact (List.pairwise_append.1 h).1
    refine ⟨h1, ?_⟩
    rw [e2, e1] at h
    rw [e1] at h1
    exact cmpK_lt.2 ((rise_app h1 (by simp [Rise])).1 h)
  · rintro ⟨h1, h2⟩
    rw [e2, e1]
    rw [e1] at h1
    exact (rise_app h1 (by simp [Rise])).2 (cmpK_lt.1 h2)
theorem rise_few {o : Nat} {K : List Int} : Rise o (K.take 1) := by
  cases K with
  | nil => simp [Rise]
  | cons a K => simp [Rise]
set_option maxRecDepth 100000 in
set_option maxHeartbeats 8000000 in
theorem soundRises_yes {o : Nat} {l : List Bead} {v : Value} {w : World} (h1 : 1 ≤ o) (h2 : o ≤ 7) (hl : Sl Bead.enc w v l) (ml : l.length ≤ maxLen)
    (hL : (decide (400 < l.length) || !mayL l) = false) (t : T) (st : Ser l t) (l400 : l.length ≤ 400) (sz : t.size ≤ 400) (ht : t.height ≤ 400) (kl : ∀ x ∈ l, InR x.key) (hr : Rise o t.keys) :
    Calls Try.prog 27 #[.int .u8 (o : Int), v] w fun e w' => e = .returned (.bool true) ∧ Ext w w' := by
  have lg := long12_is hl ml hL
  have kt := ser_keys st kl
  have hlen := st.length
  have kn := T.keys_length t
  have MK := Lib.hid (make_any t hl st (by omega) (by omega))
  have hE : chkE o t = 0 := by unfold chkE; rw [if_pos hr]
  obtain ⟨m, hm⟩ : ∃ m : Nat, chkA o t = m := ⟨_, rfl⟩
  have hA := (chk_ok o t)
  rw [hm] at hA
  have hA2 : m ≤ t.size := by rw [← hm, ← seqW_length o t []]; exact lead_le _
  have d1 : ¬ ((o : Int) < 1) := by omega
  have d2 : ¬ ((7 : Int) < (o : Int)) := by omega
  have d3 : ¬ ((m : Int) < 0) := by omega
  have d4 : ¬ ((l.length : Int) < (m : Int)) := by omega
  have d5 : (m : Int) = (l.length : Int) := by have := hA.2 hr; omega
  have KI := Lib.hid (keys_in kt)
  obtain ⟨A, c, rfl, hc, hcs⟩ := hl
  have CT := Lib.hid (fun (W : World) (V : Value) (X : Tr W V t) => check_is (o := o) (w := W) h1 h2 rfl X kt (by omega) (congrArg (fun n : Nat => (n : Int)) hm) hE)
  have CK := Lib.hid (fun (x y : Int) (hx : InR x) (hy : InR y) (W : World) => compareK h1 h2 hx hy W)
  have KS := Lib.hid (fun (W : World) (V : Value) (X : Tr W V t) => keys_any (a := W) (v := .slice none 0 0) (l := []) t X (Ext.refl W) (Own.nil_ _ _ _) (by simp; omega))
  have HK := Lib.hid kn
  have HR := Lib.hid hr
  have HT := Lib.hid (And.intro kt sz)
  have H12 := Lib.hid (And.intro h1 h2)
  clear ml hL kl st hcs hc hE hm hA hA2 kn hlen ht hr kt sz h1 h2
  go_enter Try.func27, Try.ntmps27
  go_wp2_with fail
  refine lg.mono ?_; rintro e w' ⟨rfl, rfl⟩
  go_wp2_with fail
  refine MK.out.mono ?_; rintro e w1 ⟨u, rfl, x1, ta⟩
  go_wp2_with fail
  refine (CT.out _ _ ta).mono ?_; rintro e w2 ⟨rfl, x2⟩
  have x2 := x1.trans x2
  have ta := ta.ext ‹Ext w1 w2›
  go_wp2_with fail
  refine (KS.out _ _ ta).mono ?_; rintro e w3 ⟨v3, rfl, x3, o3⟩
  have tb := ta.ext x3
  have x3 := x2.trans x3
  have ob : w2.heap.size ≤ w3.heap.size := Ext.size ‹Ext w2 w3›
  rw [List.nil_append] at o3
  obtain ⟨A3, c3, hv3, hc3, hcs3⟩ := o3.sl E12_len (by omega)
  subst hv3
  have hcell : ∀ W : World, Ext w3 W → ∀ (q : Nat) (x : Int), t.keys[q]? = some x → ∃ b off : Nat, A3 = some ⟨b, off, none⟩ ∧ W.cell? ⟨b, off + q, none⟩ = some (.int .i64 x) := by
    intro W X q x hx
    obtain ⟨b, off, e, hb, hcs⟩ := hcs3 (by intro h; rw [h] at hx; simp at hx)
    have := Cells.elem E12_len (hcs.ext X hb) hx 0 (.int .i64 x) rfl
    rw [Nat.mul_one, Nat.add_zero] at this
    exact ⟨b, off, e, this⟩
  have HC := Lib.hid hcell
  have HX := Lib.hid (And.intro x3 tb)
  have HN := HK.out
  clear hcell hcs3 o3 x1 x2 x3 ta tb ob
  go_wp2_with fail
  go_loopw [10, 11] (fun r i wr => ∃ q : Nat, i = .int .i64 ((q + 1 : Nat) : Int) ∧ (q + 1 ≤ t.keys.length ∨ q = 0) ∧ r = .bool (decide (Rise o (t.keys.take (q + 1)))) ∧ Ext w3 wr) (fun _ i _ => t.keys.length + 1 - (intOf i).toNat)
  case atStart => exact ⟨0, rfl, .inr rfl, by rw [decide_eq_true rise_few], Ext.refl _⟩
  case round =>
    obtain ⟨q, rfl, hq, rfl, y0⟩ := hrel
    by_cases hlt : q + 1 < t.keys.length
    · have hx : t.keys[q]? = some t.keys[q] := List.getElem?_eq_getElem (by omega)
      have hy : t.keys[q + 1]? = some t.keys[q + 1] := List.getElem?_eq_getElem hlt
      have kx : InR t.keys[q] := KI.out _ (List.getElem_mem _)
      have ky : InR t.keys[q + 1] := KI.out _ (List.getElem_mem _)
      generalize t.keys[q] = x at hx kx
      generalize t.keys[q + 1] = y at hy ky
      have RS := Lib.hid (rise_step (o := o) hx hy)
      obtain ⟨b, off, hA3, _⟩ := HC.out _ (Ext.refl _) _ _ hx
      subst hA3
      have HCC : ∀ W : World, Ext w3 W → W.cell? ⟨b, off + q, none⟩ = some (.int .i64 x) ∧ W.cell? ⟨b, off + (q + 1), none⟩ = some (.int .i64 y) := by
        intro W X
        obtain ⟨b1, off1, e1, c1⟩ := HC.out W X _ _ hx
        obtain ⟨b2, off2, e2, c2⟩ := HC.out W X _ _ hy
        simp at e1 e2
        obtain ⟨rfl, rfl⟩ := e1
        obtain ⟨rfl, rfl⟩ := e2
        exact ⟨c1, c2⟩
      have HCC := Lib.hid HCC
      have CXY := Lib.hid (fun W => CK.out x y kx ky W)
      have hlt2 : (q : Int) + 1 < (t.keys.length : Int) := by omega
      have hqn : q + 1 < 500 := by have := HT.out.2; omega
      clear hx hy kx ky hq
      cases hd : decide (Rise o (t.keys.take (q + 1))) with
      | true =>
        have g2 : (q : Int) < (t.keys.length : Int) := by omega
        have g6 : (q : Int) < (t.size : Int) := by omega
        have g7 : (q : Int) + 1 < (t.size : Int) := by omega
        have g8 : q < t.size := by omega
        have g3 : (0 : Int) ≤ (q : Int) + 1 := by omega
        have g4 : ((q : Int) + 1).toNat = q + 1 := by omega
        have g5 : (0 : Int) ≤ (q : Int) := by omega
        have g1 : IntKind.i64.wrap (q : Int) = (q : Int) := IntWalk.i64_in _ (by omega)
        go_wp2_with fail
        go_region_held3 (fun W => W.cell? ⟨b, off + q, none⟩ = some (.int .i64 x) ∧ W.cell? ⟨b, off + (q + 1), none⟩ = some (.int .i64 y)) (first | exact HCC.out _ y0 | exact HCC.out _ (Ext.drew y0))
          (first
            | (go_at_call 97; refine (CXY.out _).mono ?_; rintro e wa ⟨rfl, xa⟩; have y0 := (by first | exact Ext.trans y0 xa | exact (Ext.drew y0).trans xa)))
        clear g1 g2 g3 g4 g5 g6 g7 g8
        go_wp2_with fail
        have hd := of_decide_eq_true hd
        refine ⟨⟨q + 1, by go_num, .inl (by omega), by congr 1; rw [decide_eq_decide, RS.out]; exact ⟨fun h => ⟨hd, h⟩, fun h => h.2⟩, y0⟩, by simp only [intOf]; omega⟩
      | false =>
        go_wp2_with fail
        go_quiet (fail)
        go_wp2_with fail
        refine ⟨⟨q + 1, by go_num, .inl (by omega), by congr 1; symm; rw [decide_eq_false_iff_not, RS.out]; exact fun h => of_decide_eq_false hd h.1, y0.drewN _⟩, by simp only [intOf]; omega⟩
    · have hge : t.keys.take (q + 1) = t.keys := by
        rcases hq with h | h
        · exact List.take_of_length_le (by omega)
        · exact List.take_of_length_le (by omega)
      rw [hge, decide_eq_true HR.out]
      obtain ⟨xx, tc⟩ := HX.out
      have tc := tc.ext y0
      have xx := Lib.hid (xx.trans y0)
      have hlt2 : (t.keys.length : Int) ≤ (q : Int) + 1 := by omega
      clear hge hq y0
      obtain ⟨kt, sz⟩ := HT.out
      obtain ⟨h1, h2⟩ := H12.out
      have hr := HR.out
      clear MK CT KS CK KI HK HT H12 HR HC lg
      cases t with
      | nil =>
        obtain rfl : u = .pointer none := tc
        clear kt sz h1 h2 hr
        go_wp2_with fail
        refine (alive12 _).mono ?_; rintro e w5 ⟨rfl, x5⟩
        go_wp2_with fail
        go_ret
        exact ⟨rfl, xx.out.trans x5⟩
      | node k y g a b =>
        have KY := Lib.hid (fun (W : World) (X : Ext wr W) => key_any (tc.ext X))
        obtain ⟨bn, vl, vr, rfl, hat, hla, hlb⟩ := tc
        obtain ⟨pl, rfl⟩ := hla.ptr
        obtain ⟨pr, rfl⟩ := hlb.ptr
        have LE := Lib.hid (fun (W : World) (X : Ext wr W) => left_at (hat.ext X))
        have RE := Lib.hid (fun (W : World) (X : Ext wr W) => right_at (hat.ext X))
        have WI := Lib.hid (fun (W : World) (X : Ext wr W) => with_at k 0 (hat.ext X) (hla.ext X) (hlb.ext X))
        have hah : aheadT o a b = true := decide_eq_true (List.Pairwise.sublist (List.Sublist.append_left (List.sublist_cons_self _ _) _) hr)
        simp only [T.size] at sz
        have AH := Lib.hid (fun (W : World) (X : Ext wr W) => hah ▸ ahead_any h1 h2 (hla.ext X) (hlb.ext X) kt.2.1 kt.2.2 (by omega) (by omega))
        have y1 := Ext.refl wr
        clear hat hla hlb hah kt sz h1 h2 hr
        go_wp2_with fail
        refine (LE.out _ y1).mono ?_; rintro e w' ⟨rfl, rfl⟩
        go_wp2_with fail
        refine (RE.out _ y1).mono ?_; rintro e w' ⟨rfl, rfl⟩
        go_wp2_with fail
        refine (AH.out _ y1).mono ?_; rintro e w5 ⟨rfl, x5⟩
        have y1 := y1.trans x5
        go_wp2_with fail
        refine (LE.out _ y1).mono ?_; rintro e w' ⟨rfl, rfl⟩
        go_wp2_with fail
        refine (KY.out _ y1).mono ?_; rintro e w6 ⟨rfl, x6⟩
        have y1 := y1.trans x6
        go_wp2_with fail
        refine (WI.out _ y1).mono ?_; rintro e w7 ⟨v7, rfl, x7, b7, rfl, hb7, at7⟩
        have y1 := y1.trans x7
        have RR := right_at at7
        clear at7 hb7 x5 x6 x7
        go_wp2_with fail
        refine RR.mono ?_; rintro e w' ⟨rfl, rfl⟩
        go_wp2_with fail
        refine (AH.out _ y1).mono ?_; rintro e w8 ⟨rfl, x8⟩
        have y1 := y1.trans x8
        go_wp2_with fail
        refine (alive12 _).mono ?_; rintro e w9 ⟨rfl, x9⟩
        go_wp2_with fail
        go_ret
        exact ⟨rfl, xx.out.trans (y1.trans x9)⟩
set_option maxRecDepth 100000 in
set_option maxHeartbeats 8000000 in
theorem soundRises_no {o : Nat} {l : List Bead} {v : Value} {w : World} (h1 : 1 ≤ o) (h2 : o ≤ 7) (hl : Sl Bead.enc w v l) (ml : l.length ≤ maxLen)
    (hL : (decide (400 < l.length) || !mayL l) = false) (t : T) (st : Ser l t) (l400 : l.length ≤ 400) (sz : t.size ≤ 400) (ht : t.height ≤ 400) (kl : ∀ x ∈ l, InR x.key) (hr : ¬ Rise o t.keys) :
    Calls Try.prog 27 #[.int .u8 (o : Int), v] w fun e w' => e = .returned (.bool true) ∧ Ext w w' := by
  have lg := long12_is hl ml hL
  have kt := ser_keys st kl
  have hlen := st.length
  have kn := T.keys_length t
  have MK := Lib.hid (make_any t hl st (by omega) (by omega))
  have hE : chkE o t = 120 := by unfold chkE; rw [if_neg hr]
  obtain ⟨m, hm⟩ : ∃ m : Nat, chkA o t = m := ⟨_, rfl⟩
  have hA := (chk_ok o t)
  rw [hm] at hA
  have hA2 : m ≤ t.size := by rw [← hm, ← seqW_length o t []]; exact lead_le _
  have d1 : ¬ ((o : Int) < 1) := by omega
  have d2 : ¬ ((7 : Int) < (o : Int)) := by omega
  have d3 : ¬ ((m : Int) < 0) := by omega
  have d4 : ¬ ((l.length : Int) < (m : Int)) := by omega
  have d5 : ¬ (m : Int) = (l.length : Int) := by intro h; exact hr (hA.1 (by omega))
  have d6 : ((m : Int) == (l.length : Int)) = false := by simpa using d5
  have KI := Lib.hid (keys_in kt)
  obtain ⟨A, c, rfl, hc, hcs⟩ := hl
  have CT := Lib.hid (fun (W : World) (V : Value) (X : Tr W V t) => check_is (o := o) (w := W) h1 h2 rfl X kt (by omega) (congrArg (fun n : Nat => (n : Int)) hm) hE)
  have CK := Lib.hid (fun (x y : Int) (hx : InR x) (hy : InR y) (W : World) => compareK h1 h2 hx hy W)
  have KS := Lib.hid (fun (W : World) (V : Value) (X : Tr W V t) => keys_any (a := W) (v := .slice none 0 0) (l := []) t X (Ext.refl W) (Own.nil_ _ _ _) (by simp; omega))
  have HK := Lib.hid kn
  have HR := Lib.hid hr
  have HT := Lib.hid (And.intro kt sz)
  have H12 := Lib.hid (And.intro h1 h2)
  clear ml hL kl st hcs hc hE hm hA hA2 kn hlen ht hr kt sz h1 h2
  go_enter Try.func27, Try.ntmps27
  go_wp2_with fail
  refine lg.mono ?_; rintro e w' ⟨rfl, rfl⟩
  go_wp2_with fail
  refine MK.out.mono ?_; rintro e w1 ⟨u, rfl, x1, ta⟩
  go_wp2_with fail
  refine (CT.out _ _ ta).mono ?_; rintro e w2 ⟨rfl, x2⟩
  have x2 := x1.trans x2
  have ta := ta.ext ‹Ext w1 w2›
  go_wp2_with fail
  refine (KS.out _ _ ta).mono ?_; rintro e w3 ⟨v3, rfl, x3, o3⟩
  have tb := ta.ext x3
  have x3 := x2.trans x3
  have ob : w2.heap.size ≤ w3.heap.size := Ext.size ‹Ext w2 w3›
  rw [List.nil_append] at o3
  obtain ⟨A3, c3, hv3, hc3, hcs3⟩ := o3.sl E12_len (by omega)
  subst hv3
  have hcell : ∀ W : World, Ext w3 W → ∀ (q : Nat) (x : Int), t.keys[q]? = some x → ∃ b off : Nat, A3 = some ⟨b, off, none⟩ ∧ W.cell? ⟨b, off + q, none⟩ = some (.int .i64 x) := by
    intro W X q x hx
    obtain ⟨b, off, e, hb, hcs⟩ := hcs3 (by intro h; rw [h] at hx; simp at hx)
    have := Cells.elem E12_len (hcs.ext X hb) hx 0 (.int .i64 x) rfl
    rw [Nat.mul_one, Nat.add_zero] at this
    exact ⟨b, off, e, this⟩
  have HC := Lib.hid hcell
  have HX := Lib.hid (And.intro x3 tb)
  have HN := HK.out
  clear hcell hcs3 o3 x1 x2 x3 ta tb ob
  go_wp2_with fail
  clear d5 d6
  generalize decide ((o : Int) < 1) = c1
  generalize decide (7 < (o : Int)) = c2
  generalize decide ((m : Int) < 0) = c3
  generalize decide (l.length < m) = c4
  generalize (c1 || c2) = c5
  generalize (c3 || c4) = c6
  clear d1 d2 d3 d4
  go_loopw [10, 11] (fun r i wr => ∃ q : Nat, i = .int .i64 ((q + 1 : Nat) : Int) ∧ (q + 1 ≤ t.keys.length ∨ q = 0) ∧ r = .bool (decide (Rise o (t.keys.take (q + 1)))) ∧ Ext w3 wr) (fun _ i _ => t.keys.length + 1 - (intOf i).toNat)
  case atStart => exact ⟨0, rfl, .inr rfl, by rw [decide_eq_true rise_few], Ext.refl _⟩
  case round =>
    obtain ⟨q, rfl, hq, rfl, y0⟩ := hrel
    by_cases hlt : q + 1 < t.keys.length
    · have hx : t.keys[q]? = some t.keys[q] := List.getElem?_eq_getElem (by omega)
      have hy : t.keys[q + 1]? = some t.keys[q + 1] := List.getElem?_eq_getElem hlt
      have kx : InR t.keys[q] := KI.out _ (List.getElem_mem _)
      have ky : InR t.keys[q + 1] := KI.out _ (List.getElem_mem _)
      generalize t.keys[q] = x at hx kx
      generalize t.keys[q + 1] = y at hy ky
      have RS := Lib.hid (rise_step (o := o) hx hy)
      obtain ⟨b, off, hA3, _⟩ := HC.out _ (Ext.refl _) _ _ hx
      subst hA3
      have HCC : ∀ W : World, Ext w3 W → W.cell? ⟨b, off + q, none⟩ = some (.int .i64 x) ∧ W.cell? ⟨b, off + (q + 1), none⟩ = some (.int .i64 y) := by
        intro W X
        obtain ⟨b1, off1, e1, c1⟩ := HC.out W X _ _ hx
        obtain ⟨b2, off2, e2, c2⟩ := HC.out W X _ _ hy
        simp at e1 e2
        obtain ⟨rfl, rfl⟩ := e1
        obtain ⟨rfl, rfl⟩ := e2
        exact ⟨c1, c2⟩
      have HCC := Lib.hid HCC
      have CXY := Lib.hid (fun W => CK.out x y kx ky W)
      have hlt2 : (q : Int) + 1 < (t.keys.length : Int) := by omega
      have hqn : q + 1 < 500 := by have := HT.out.2; omega
      clear hx hy kx ky hq
      cases hd : decide (Rise o (t.keys.take (q + 1))) with
      | true =>
        have g2 : (q : Int) < (t.keys.length : Int) := by omega
        have g6 : (q : Int) < (t.size : Int) := by omega
        have g7 : (q : Int) + 1 < (t.size : Int) := by omega
        have g8 : q < t.size := by omega
        have g3 : (0 : Int) ≤ (q : Int) + 1 := by omega
        have g4 : ((q : Int) + 1).toNat = q + 1 := by omega
        have g5 : (0 : Int) ≤ (q : Int) := by omega
        have g1 : IntKind.i64.wrap (q : Int) = (q : Int) := IntWalk.i64_in _ (by omega)
        go_wp2_with fail
        go_region_held3 (fun W => W.cell? ⟨b, off + q, none⟩ = some (.int .i64 x) ∧ W.cell? ⟨b, off + (q + 1), none⟩ = some (.int .i64 y)) (first | exact HCC.out _ y0 | exact HCC.out _ (Ext.drew y0))
          (first
            | (go_at_call 97; refine (CXY.out _).mono ?_; rintro e wa ⟨rfl, xa⟩; have y0 := (by first | exact Ext.trans y0 xa | exact (Ext.drew y0).trans xa)))
        clear g1 g2 g3 g4 g5 g6 g7 g8
        go_wp2_with fail
        have hd := of_decide_eq_true hd
        refine ⟨⟨q + 1, by go_num, .inl (by omega), by congr 1; rw [decide_eq_decide, RS.out]; exact ⟨fun h => ⟨hd, h⟩, fun h => h.2⟩, y0⟩, by simp only [intOf]; omega⟩
      | false =>
        go_wp2_with fail
        go_quiet (fail)
        go_wp2_with fail
        refine ⟨⟨q + 1, by go_num, .inl (by omega), by congr 1; symm; rw [decide_eq_false_iff_not, RS.out]; exact fun h => of_decide_eq_false hd h.1, y0.drewN _⟩, by simp only [intOf]; omega⟩
    · have hge : t.keys.take (q + 1) = t.keys := by
        rcases hq with h | h
        · exact List.take_of_length_le (by omega)
        · exact List.take_of_length_le (by omega)
      rw [hge, decide_eq_false HR.out]
      obtain ⟨xx, tc⟩ := HX.out
      have tc := tc.ext y0
      have xx := Lib.hid (xx.trans y0)
      have hlt2 : (t.keys.length : Int) ≤ (q : Int) + 1 := by omega
      clear hge hq y0
      go_wp2_with fail
      refine (alive12 _).mono ?_; rintro e w5 ⟨rfl, x5⟩
      go_wp2_with fail
      go_ret
      exact ⟨rfl, xx.out.trans x5⟩
set_option maxRecDepth 100000 in
set_option maxHeartbeats 4000000 in
theorem soundRises_walk {o : Int} {l : List Bead} {v : Value} {w : World} (hl : Sl Bead.enc w v l) (ml : l.length ≤ maxLen) (kl : ∀ x ∈ l, x.wf) (wo : (Lit.int .u8 o).wf = true) :
    Calls Try.prog 27 #[.int .u8 o, v] w fun e w' => e = .returned (.bool true) ∧ Ext w w' := by
  have ho : 0 ≤ o ∧ o ≤ 255 := by simp [Lit.wf] at wo; exact wo
  cases hL : (decide (400 < l.length) || !mayL l) with
  | true =>
    have lg := long12_is hl ml hL
    clear hL hl
    go_enter Try.func27, Try.ntmps27
    go_wp2_with fail
    refine lg.mono ?_; rintro e w' ⟨rfl, rfl⟩
    go_wp2_with fail
    refine (alive12 _).mono ?_; rintro e w1 ⟨rfl, x1⟩
    go_wp2_with fail
    go_ret
    exact ⟨rfl, x1⟩
  | false =>
      by_cases h : 1 ≤ o ∧ o ≤ 7
      · obtain ⟨n, rfl⟩ : ∃ n : Nat, (n : Int) = o := ⟨o.toNat, by omega⟩
        obtain ⟨l400, t, st, sz, ht⟩ := short12 hL
        by_cases hr : Rise n t.keys
        · exact soundRises_yes (by omega) (by omega) hl ml hL t st l400 sz ht (fun x hx => wf_i64 (kl x hx).key) hr
        · exact soundRises_no (by omega) (by omega) hl ml hL t st l400 sz ht (fun x hx => wf_i64 (kl x hx).key) hr
      · have lg := long12_is hl ml hL
        clear hL hl
        by_cases h1 : o < 1
        · clear h
          go_enter Try.func27, Try.ntmps27
          go_wp2_with fail
          refine lg.mono ?_; rintro e w' ⟨rfl, rfl⟩
          go_wp2_with fail
          refine (alive12 _).mono ?_; rintro e w1 ⟨rfl, x1⟩
          go_wp2_with fail
          go_ret
          exact ⟨rfl, x1⟩
        · have h2 : 7 < o := by omega
          clear h
          go_enter Try.func27, Try.ntmps27
          go_wp2_with fail
          refine lg.mono ?_; rintro e w' ⟨rfl, rfl⟩
          go_wp2_with fail
          refine (alive12 _).mono ?_; rintro e w1 ⟨rfl, x1⟩
          go_wp2_with fail
          go_ret
          exact ⟨rfl, x1⟩
end Go.Proofs.Ytlehcagpddgamaa
