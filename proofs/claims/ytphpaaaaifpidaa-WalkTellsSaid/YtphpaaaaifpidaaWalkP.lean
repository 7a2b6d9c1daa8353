/- The statement WalkTells. -/
import Derived.Test.YtphpaaaaifpidaaWalkO
import Derived.Test.YtphpaaaaifpidaaFrameB
namespace Go.Proofs.Ytphpaaaaifpidaa
open Go.RowKit
set_option linter.unusedVariables false

theorem ser_keys : ∀ {t : T} {l : List Bead}, Ser l t → (∀ x ∈ l, InR x.key) → KeysR t
  | .nil, _, _, _ => trivial
  | .node k x g a b, _, ⟨y, la, lb, hl, hk, _, _, _, _, sa, sb⟩, h => by
    subst hl
    exact ⟨hk ▸ h y (by simp), ser_keys sa (fun z hz => h z (by simp [hz])), ser_keys sb (fun z hz => h z (by simp [hz]))⟩
theorem long35_is {l : List Bead} {v : Value} {w : World} {b : Bool} (h : Sl Bead.enc w v l) (hm : l.length ≤ maxLen) (hb : (decide (400 < l.length) || !mayL l) = b) :
    Calls Try.prog 7 #[v] w fun e w' => e = .returned (.bool b) ∧ w = w' := by
  subst hb; exact long_any h (by simpa [maxLen] using hm)
theorem short35 {l : List Bead} (h : (decide (400 < l.length) || !mayL l) = false) : l.length ≤ 400 ∧ ∃ t : T, Ser l t ∧ t.size ≤ 400 ∧ t.height ≤ 400 := by
  simp only [Bool.or_eq_false_iff, decide_eq_false_iff_not, Bool.not_eq_false'] at h
  obtain ⟨t, ht⟩ := mayL_ser h.2
  have := ht.length
  have := t.height_le_size
  exact ⟨by omega, t, ht, by omega, by omega⟩
theorem AP.more2 {w w' : World} {a : A} (h : AP (fun b => b < w.heap.size) w a) (x : Ext w w') : AP (fun b => b < w'.heap.size) w' a :=
  (h.keep (x.keep _)).sub (fun k h1 h2 => h1)
theorem make35 {l : List Bead} {v : Value} {w : World} {t : T} (h : Sl Bead.enc w v l) (hs : Ser l t) (hm : l.length ≤ 400) (hh : t.height ≤ 400) :
    Calls Try.prog 10 #[v] w fun e w' => ∃ a : A, e = .returned (.pointer a.ptr) ∧ Ext w w' ∧ a.tree = t ∧ AP (fun b => b < w'.heap.size) w' a := by
  refine (make_any t h hs (by omega) (by omega)).mono ?_
  rintro e w' ⟨v, rfl, x, tr⟩
  obtain ⟨a, h1, rfl, h3⟩ := AP.of_tr tr
  exact ⟨a, rfl, x, h1, h3⟩
set_option maxRecDepth 100000 in
set_option maxHeartbeats 16000000 in
theorem walkTells_from {oi key begin_ p0 : Int} {l : List Bead} {st : List Stp} {v u : Value} {w : World} {t : T} (hl : Sl Bead.enc w v l) (hu : Sl Stp.enc w u st) (ml : l.length ≤ maxLen) (hL : (decide (400 < l.length) || !mayL l) = false) (hst : st.length ≤ 80)
    (wst : ∀ x ∈ st, (x.d.tmod 4 = 0 ∨ x.d.tmod 4 = 1 ∨ x.d.tmod 4 = 2 ∨ x.d.tmod 4 = 3) ∧ InR x.n) (l400 : l.length ≤ 400) (sa : Ser l t) (asz : t.size ≤ 400) (ah : t.height ≤ 400)
    (FR : ∀ (W : World) (a : A), a.tree = t → Ext w W → AP (fun b => b < W.heap.size) W a → Calls Try.prog 31 #[.int .u8 oi, .pointer a.ptr, .int .i64 key] W fun e w' => ∃ B, e = .returned (.pointer (some ⟨B, 0, none⟩)) ∧ NewW W w' B a p0)
    (RF : ∀ W : World, Ext w W → Calls Try.prog 32 #[.int .u8 oi, v, .int .i64 key] W fun e w' => ∃ R, e = .returned (.pointer (some ⟨R, 0, none⟩)) ∧ Ext W w' ∧ RW w' R W.heap.size t.pairs p0)
    (hb : begin_.tmod 3 = 0) :
    Calls Try.prog 6 #[v, .int .u8 oi, .int .i64 key, .int .u8 begin_, u] w fun e w' => e = .returned (.bool true) ∧ Ext w w' := by
  have lg := long35_is hl ml hL
  have MK := Lib.hid (make35 hl sa l400 ah)
  have OF := Lib.hid (fun (W : World) (X : Ext w W) => of_beads t (hl.ext X) sa (by omega) (by omega))
  have FR := Lib.hid FR
  have RF := Lib.hid RF
  have H4 := Lib.hid (And.intro asz l400)

  obtain ⟨AA0, c, rfl, hc, hr⟩ := hl
  obtain ⟨A4, c4, rfl, hc4, hr4⟩ := hu
  have hr4 := Lib.hid hr4
  clear hL hr sa ah ml hc hc4 l400 asz
  go_enter Try.func6, Try.ntmps6
  go_wp2_with fail
  refine lg.mono ?_; rintro e w' ⟨rfl, rfl⟩
  go_wp2_with fail
  refine MK.out.mono ?_; rintro e w0 ⟨a, rfl, xw, hat, ha⟩
  have HA := Lib.hid ha
  have HT := Lib.hid hat
  have XW := Lib.hid xw
  have HM : Hid (a.size ≤ 100000) := Lib.hid (by have := H4.out.1; rw [← HT.out, A.size_tree] at this; omega)
  clear ha hat xw
  go_wp2_with fail
  refine (FR.out _ a HT.out XW.out HA.out).mono ?_; rintro e w1 ⟨B1, rfl, n1⟩
  go_wp2_with fail
  refine (RF.out _ (XW.out.trans n1.1)).mono ?_; rintro e w2 ⟨R1, rfl, x2, r2⟩
  rw [← HT.out] at r2
  have S1 := St.start (Ext.refl w0) n1 x2 r2
  clear n1 x2 r2
  have q := eql_walk B1
  go_wp2_with fail
  refine (S1.stands HA.out HM.out).mono ?_; rintro e w5 ⟨rfl, x5⟩
  have S0 := S1.ext x5
  clear S1 x5
  go_wp2_with fail
  go_loopw [12, 14] (fun tv iv wr => ∃ (i : Nat) (B R lo : Nat) (p : Int) (P : Nat → Prop), i ≤ st.length ∧ iv = .int .i64 (i : Int) ∧ tv = .pointer (some ⟨B, 0, none⟩) ∧ R = R1 ∧ St w0 wr P B R lo a p) (fun _ iv _ => st.length - (intOf iv).toNat)
  case atStart => exact ⟨0, B1, R1, _, _, _, Nat.zero_le _, rfl, rfl, rfl, S0⟩
  case round =>
    clear S0
    obtain ⟨i, B, R, lo, p, P, hi, rfl, rfl, rfl, hS⟩ := hrel
    have SS := Lib.hid hS
    have q := eql_walk B
    clear hS
    by_cases hlt : i < st.length
    · obtain ⟨b, off, rfl, hb, hcs⟩ := hr4.out (by intro h; rw [h] at hlt; simp at hlt)
      have hxk : st[i]? = some st[i] := List.getElem?_eq_getElem hlt
      obtain ⟨hdo, hin⟩ := wst _ (List.getElem_mem hlt)
      generalize st[i] = y at hxk hdo hin
      have hce := Cells.elem Stp.enc_len (hcs.ext (XW.out.trans SS.out.x) hb) hxk
      have c0 := hce 0 _ rfl
      have c1 := hce 1 _ rfl
      rw [Nat.add_zero] at c0
      have HIN := Lib.hid hin
      have hlt2 : (i : Int) < (st.length : Int) := by omega
      have hi8 : i < 80 := by omega
      have ST := Lib.hid (fun (W : World) (P : Nat → Prop) (B R lo : Nat) (p : Int) (S : St w0 W P B R lo a p) => S.stands HA.out HM.out)
      have rng := Lib.hid SS.out.k.range
      clear hce hcs hxk hin
      rcases hdo with hd | hd | hd | hd
      · have NX := Lib.hid (SS.out.next HA.out HM.out)
        have HR := Lib.hid (fun (W : World) (S : St w0 W P B R lo a (moveI a.size true p)) => S.here HM.out)
        have ML := Lib.hid (move_right rng.out)
        generalize (decide (0 ≤ moveI a.size true p ∧ moveI a.size true p < (a.size : Int))) = rr at *
        generalize moveI a.size true p = p2 at *
        have hrr : (rr != rr) = false := by simp
        go_wp2_with fail
        refine NX.out.mono ?_; rintro e w1 ⟨rfl, h1⟩
        go_wp2_with fail
        refine (h1.go rng.out HM.out (by simp [InR]) ML.out).mono ?_; rintro e w2 ⟨rfl, h2⟩
        go_wp2_with fail
        refine (HR.out _ h2).mono ?_; rintro e w3 ⟨hk, hx, rfl, x3⟩
        have S3 := Lib.hid ((h2.ext x3).ext ((Ext.refl w3).alloc (.cells #[.int .i64 hk, .int .i64 hx] 48)))
        clear h1 h2 x3
        go_wp2_with fail
        refine (ST.out _ _ _ _ _ _ S3.out).mono ?_; rintro e wz ⟨rfl, xz⟩
        go_wp2_with fail
        exact ⟨⟨i + 1, B, R, lo, _, P, by omega, by go_num, rfl, rfl, S3.out.ext xz⟩, by simp only [intOf]; omega⟩
      · have NX := Lib.hid (SS.out.prev HA.out HM.out)
        have HR := Lib.hid (fun (W : World) (S : St w0 W P B R lo a (moveI a.size false p)) => S.here HM.out)
        have ML := Lib.hid (move_left rng.out)
        generalize (decide (0 ≤ moveI a.size false p ∧ moveI a.size false p < (a.size : Int))) = rr at *
        generalize moveI a.size false p = p2 at *
        have hrr : (rr != rr) = false := by simp
        go_wp2_with fail
        refine NX.out.mono ?_; rintro e w1 ⟨rfl, h1⟩
        go_wp2_with fail
        refine (h1.go rng.out HM.out (by simp [InR]) ML.out).mono ?_; rintro e w2 ⟨rfl, h2⟩
        go_wp2_with fail
        refine (HR.out _ h2).mono ?_; rintro e w3 ⟨hk, hx, rfl, x3⟩
        have S3 := Lib.hid ((h2.ext x3).ext ((Ext.refl w3).alloc (.cells #[.int .i64 hk, .int .i64 hx] 48)))
        clear h1 h2 x3
        go_wp2_with fail
        refine (ST.out _ _ _ _ _ _ S3.out).mono ?_; rintro e wz ⟨rfl, xz⟩
        go_wp2_with fail
        exact ⟨⟨i + 1, B, R, lo, _, P, by omega, by go_num, rfl, rfl, S3.out.ext xz⟩, by simp only [intOf]; omega⟩
      · go_wp2_with fail
        refine (SS.out.go HA.out HM.out HIN.out).mono ?_; rintro e w1 ⟨rfl, h1⟩
        go_wp2_with fail
        refine (h1.go rng.out HM.out HIN.out rfl).mono ?_; rintro e w2 ⟨rfl, h2⟩
        have S3 := Lib.hid h2
        clear h1 h2
        go_wp2_with fail
        refine (ST.out _ _ _ _ _ _ S3.out).mono ?_; rintro e wz ⟨rfl, xz⟩
        go_wp2_with fail
        exact ⟨⟨i + 1, B, R, lo, _, P, by omega, by go_num, rfl, rfl, S3.out.ext xz⟩, by simp only [intOf]; omega⟩
      · go_wp2_with fail
        refine (SS.out.copy HM.out).mono ?_; rintro e w1 ⟨B2, rfl, n1⟩
        have q2 := eql_walk B2
        go_wp2_with fail
        refine (SS.out.gone n1 HA.out HM.out HIN.out).mono ?_; rintro e w2 ⟨rfl, h2⟩
        have S3 := Lib.hid h2
        clear n1 h2
        go_wp2_with fail
        refine (ST.out _ _ _ _ _ _ S3.out).mono ?_; rintro e wz ⟨rfl, xz⟩
        go_wp2_with fail
        exact ⟨⟨i + 1, B2, R, lo, _, P, by omega, by go_num, rfl, rfl, S3.out.ext xz⟩, by simp only [intOf]; omega⟩
    · have hlt2 : ¬ (i : Int) < (st.length : Int) := by omega
      have y0 := XW.out.trans SS.out.x
      have TR := Lib.hid (fun (W : World) (X : Ext w0 W) => (HA.out.tr).ext X)
      go_wp2_with fail
      refine (OF.out _ y0).mono ?_; rintro e w1 ⟨v1, rfl, x1, o1⟩
      go_wp2_with fail
      refine (is_yes (TR.out _ (SS.out.x.trans x1)) (by rw [HT.out]; have := H4.out; omega) (o1.sl Bead.enc_len (by omega)) (by rw [bOf_length]; have := H4.out; omega) (by rw [HT.out])).mono ?_; rintro e w2 ⟨rfl, x2⟩
      go_wp2_with fail
      refine (alive35 _).mono ?_; rintro e w3 ⟨rfl, x3⟩
      go_wp2_with fail
      go_ret
      exact ⟨rfl, ((y0.trans x1).trans x2).trans x3⟩
set_option maxRecDepth 100000 in
set_option maxHeartbeats 16000000 in
theorem walkTells_first {oi key begin_ p0 : Int} {l : List Bead} {st : List Stp} {v u : Value} {w : World} {t : T} (hl : Sl Bead.enc w v l) (hu : Sl Stp.enc w u st) (ml : l.length ≤ maxLen) (hL : (decide (400 < l.length) || !mayL l) = false) (hst : st.length ≤ 80)
    (wst : ∀ x ∈ st, (x.d.tmod 4 = 0 ∨ x.d.tmod 4 = 1 ∨ x.d.tmod 4 = 2 ∨ x.d.tmod 4 = 3) ∧ InR x.n) (l400 : l.length ≤ 400) (sa : Ser l t) (asz : t.size ≤ 400) (ah : t.height ≤ 400)
    (FR : ∀ (W : World) (a : A), a.tree = t → Ext w W → AP (fun b => b < W.heap.size) W a → Calls Try.prog 31 #[.int .u8 oi, .pointer a.ptr, .int .i64 key] W fun e w' => ∃ B, e = .returned (.pointer (some ⟨B, 0, none⟩)) ∧ NewW W w' B a p0)
    (RF : ∀ W : World, Ext w W → Calls Try.prog 32 #[.int .u8 oi, v, .int .i64 key] W fun e w' => ∃ R, e = .returned (.pointer (some ⟨R, 0, none⟩)) ∧ Ext W w' ∧ RW w' R W.heap.size t.pairs p0)
    (hb : begin_.tmod 3 = 1) :
    Calls Try.prog 6 #[v, .int .u8 oi, .int .i64 key, .int .u8 begin_, u] w fun e w' => e = .returned (.bool true) ∧ Ext w w' := by
  have lg := long35_is hl ml hL
  have MK := Lib.hid (make35 hl sa l400 ah)
  have OF := Lib.hid (fun (W : World) (X : Ext w W) => of_beads t (hl.ext X) sa (by omega) (by omega))
  have FR := Lib.hid FR
  have RF := Lib.hid RF
  have H4 := Lib.hid (And.intro asz l400)
  have RS := Lib.hid (fun (W : World) (X : Ext w W) => rfirst_any (hl.ext X) sa (by omega) (by omega))
  obtain ⟨AA0, c, rfl, hc, hr⟩ := hl
  obtain ⟨A4, c4, rfl, hc4, hr4⟩ := hu
  have hr4 := Lib.hid hr4
  clear hL hr sa ah ml hc hc4 l400 asz
  go_enter Try.func6, Try.ntmps6
  go_wp2_with fail
  refine lg.mono ?_; rintro e w' ⟨rfl, rfl⟩
  go_wp2_with fail
  refine MK.out.mono ?_; rintro e w0 ⟨a, rfl, xw, hat, ha⟩
  have HA := Lib.hid ha
  have HT := Lib.hid hat
  have XW := Lib.hid xw
  have HM : Hid (a.size ≤ 100000) := Lib.hid (by have := H4.out.1; rw [← HT.out, A.size_tree] at this; omega)
  clear ha hat xw
  go_wp2_with fail
  refine (FR.out _ a HT.out XW.out HA.out).mono ?_; rintro e w1 ⟨B1, rfl, n1⟩
  go_wp2_with fail
  refine (RF.out _ (XW.out.trans n1.1)).mono ?_; rintro e w2 ⟨R1, rfl, x2, r2⟩
  rw [← HT.out] at r2
  have S1 := St.start (Ext.refl w0) n1 x2 r2
  clear n1 x2 r2
  go_wp2_with fail
  refine (first_any (HA.out.more2 S1.x) HM.out).mono ?_; rintro e w3 ⟨B3, rfl, n3⟩
  go_wp2_with fail
  refine (RS.out _ (XW.out.trans (S1.x.trans n3.1))).mono ?_; rintro e w4 ⟨R3, rfl, x4, r4⟩
  rw [← HT.out] at r4
  have S1 := St.start S1.x n3 x4 r4
  clear n3 x4 r4
  have q := eql_walk B3
  go_wp2_with fail
  refine (S1.stands HA.out HM.out).mono ?_; rintro e w5 ⟨rfl, x5⟩
  have S0 := S1.ext x5
  clear S1 x5
  go_wp2_with fail
  go_loopw [12, 14] (fun tv iv wr => ∃ (i : Nat) (B R lo : Nat) (p : Int) (P : Nat → Prop), i ≤ st.length ∧ iv = .int .i64 (i : Int) ∧ tv = .pointer (some ⟨B, 0, none⟩) ∧ R = R3 ∧ St w0 wr P B R lo a p) (fun _ iv _ => st.length - (intOf iv).toNat)
  case atStart => exact ⟨0, B3, R3, _, _, _, Nat.zero_le _, rfl, rfl, rfl, S0⟩
  case round =>
    clear S0
    obtain ⟨i, B, R, lo, p, P, hi, rfl, rfl, rfl, hS⟩ := hrel
    have SS := Lib.hid hS
    have q := eql_walk B
    clear hS
    by_cases hlt : i < st.length
    · obtain ⟨b, off, rfl, hb, hcs⟩ := hr4.out (by intro h; rw [h] at hlt; simp at hlt)
      have hxk : st[i]? = some st[i] := List.getElem?_eq_getElem hlt
      obtain ⟨hdo, hin⟩ := wst _ (List.getElem_mem hlt)
      generalize st[i] = y at hxk hdo hin
      have hce := Cells.elem Stp.enc_len (hcs.ext (XW.out.trans SS.out.x) hb) hxk
      have c0 := hce 0 _ rfl
      have c1 := hce 1 _ rfl
      rw [Nat.add_zero] at c0
      have HIN := Lib.hid hin
      have hlt2 : (i : Int) < (st.length : Int) := by omega
      have hi8 : i < 80 := by omega
      have ST := Lib.hid (fun (W : World) (P : Nat → Prop) (B R lo : Nat) (p : Int) (S : St w0 W P B R lo a p) => S.stands HA.out HM.out)
      have rng := Lib.hid SS.out.k.range
      clear hce hcs hxk hin
      rcases hdo with hd | hd | hd | hd
      · have NX := Lib.hid (SS.out.next HA.out HM.out)
        have HR := Lib.hid (fun (W : World) (S : St w0 W P B R lo a (moveI a.size true p)) => S.here HM.out)
        have ML := Lib.hid (move_right rng.out)
        generalize (decide (0 ≤ moveI a.size true p ∧ moveI a.size true p < (a.size : Int))) = rr at *
        generalize moveI a.size true p = p2 at *
        have hrr : (rr != rr) = false := by simp
        go_wp2_with fail
        refine NX.out.mono ?_; rintro e w1 ⟨rfl, h1⟩
        go_wp2_with fail
        refine (h1.go rng.out HM.out (by simp [InR]) ML.out).mono ?_; rintro e w2 ⟨rfl, h2⟩
        go_wp2_with fail
        refine (HR.out _ h2).mono ?_; rintro e w3 ⟨hk, hx, rfl, x3⟩
        have S3 := Lib.hid ((h2.ext x3).ext ((Ext.refl w3).alloc (.cells #[.int .i64 hk, .int .i64 hx] 48)))
        clear h1 h2 x3
        go_wp2_with fail
        refine (ST.out _ _ _ _ _ _ S3.out).mono ?_; rintro e wz ⟨rfl, xz⟩
        go_wp2_with fail
        exact ⟨⟨i + 1, B, R, lo, _, P, by omega, by go_num, rfl, rfl, S3.out.ext xz⟩, by simp only [intOf]; omega⟩
      · have NX := Lib.hid (SS.out.prev HA.out HM.out)
        have HR := Lib.hid (fun (W : World) (S : St w0 W P B R lo a (moveI a.size false p)) => S.here HM.out)
        have ML := Lib.hid (move_left rng.out)
        generalize (decide (0 ≤ moveI a.size false p ∧ moveI a.size false p < (a.size : Int))) = rr at *
        generalize moveI a.size false p = p2 at *
        have hrr : (rr != rr) = false := by simp
        go_wp2_with fail
        refine NX.out.mono ?_; rintro e w1 ⟨rfl, h1⟩
        go_wp2_with fail
        refine (h1.go rng.out HM.out (by simp [InR]) ML.out).mono ?_; rintro e w2 ⟨rfl, h2⟩
        go_wp2_with fail
        refine (HR.out _ h2).mono ?_; rintro e w3 ⟨hk, hx, rfl, x3⟩
        have S3 := Lib.hid ((h2.ext x3).ext ((Ext.refl w3).alloc (.cells #[.int .i64 hk, .int .i64 hx] 48)))
        clear h1 h2 x3
        go_wp2_with fail
        refine (ST.out _ _ _ _ _ _ S3.out).mono ?_; rintro e wz ⟨rfl, xz⟩
        go_wp2_with fail
        exact ⟨⟨i + 1, B, R, lo, _, P, by omega, by go_num, rfl, rfl, S3.out.ext xz⟩, by simp only [intOf]; omega⟩
      · go_wp2_with fail
        refine (SS.out.go HA.out HM.out HIN.out).mono ?_; rintro e w1 ⟨rfl, h1⟩
        go_wp2_with fail
        refine (h1.go rng.out HM.out HIN.out rfl).mono ?_; rintro e w2 ⟨rfl, h2⟩
        have S3 := Lib.hid h2
        clear h1 h2
        go_wp2_with fail
        refine (ST.out _ _ _ _ _ _ S3.out).mono ?_; rintro e wz ⟨rfl, xz⟩
        go_wp2_with fail
        exact ⟨⟨i + 1, B, R, lo, _, P, by omega, by go_num, rfl, rfl, S3.out.ext xz⟩, by simp only [intOf]; omega⟩
      · go_wp2_with fail
        refine (SS.out.copy HM.out).mono ?_; rintro e w1 ⟨B2, rfl, n1⟩
        have q2 := eql_walk B2
        go_wp2_with fail
        refine (SS.out.gone n1 HA.out HM.out HIN.out).mono ?_; rintro e w2 ⟨rfl, h2⟩
        have S3 := Lib.hid h2
        clear n1 h2
        go_wp2_with fail
        refine (ST.out _ _ _ _ _ _ S3.out).mono ?_; rintro e wz ⟨rfl, xz⟩
        go_wp2_with fail
        exact ⟨⟨i + 1, B2, R, lo, _, P, by omega, by go_num, rfl, rfl, S3.out.ext xz⟩, by simp only [intOf]; omega⟩
    · have hlt2 : ¬ (i : Int) < (st.length : Int) := by omega
      have y0 := XW.out.trans SS.out.x
      have TR := Lib.hid (fun (W : World) (X : Ext w0 W) => (HA.out.tr).ext X)
      go_wp2_with fail
      refine (OF.out _ y0).mono ?_; rintro e w1 ⟨v1, rfl, x1, o1⟩
      go_wp2_with fail
      refine (is_yes (TR.out _ (SS.out.x.trans x1)) (by rw [HT.out]; have := H4.out; omega) (o1.sl Bead.enc_len (by omega)) (by rw [bOf_length]; have := H4.out; omega) (by rw [HT.out])).mono ?_; rintro e w2 ⟨rfl, x2⟩
      go_wp2_with fail
      refine (alive35 _).mono ?_; rintro e w3 ⟨rfl, x3⟩
      go_wp2_with fail
      go_ret
      exact ⟨rfl, ((y0.trans x1).trans x2).trans x3⟩
set_option maxRecDepth 100000 in
set_option maxHeartbeats 16000000 in
theorem walkTells_last {oi key begin_ p0 : Int} {l : List Bead} {st : List Stp} {v u : Value} {w : World} {t : T} (hl : Sl Bead.enc w v l) (hu : Sl Stp.enc w u st) (ml : l.length ≤ maxLen) (hL : (decide (400 < l.length) || !mayL l) = false) (hst : st.length ≤ 80)
    (wst : ∀ x ∈ st, (x.d.tmod 4 = 0 ∨ x.d.tmod 4 = 1 ∨ x.d.tmod 4 = 2 ∨ x.d.tmod 4 = 3) ∧ InR x.n) (l400 : l.length ≤ 400) (sa : Ser l t) (asz : t.size ≤ 400) (ah : t.height ≤ 400)
    (FR : ∀ (W : World) (a : A), a.tree = t → Ext w W → AP (fun b => b < W.heap.size) W a → Calls Try.prog 31 #[.int .u8 oi, .pointer a.ptr, .int .i64 key] W fun e w' => ∃ B, e = .returned (.pointer (some ⟨B, 0, none⟩)) ∧ NewW W w' B a p0)
    (RF : ∀ W : World, Ext w W → Calls Try.prog 32 #[.int .u8 oi, v, .int .i64 key] W fun e w' => ∃ R, e = .returned (.pointer (some ⟨R, 0, none⟩)) ∧ Ext W w' ∧ RW w' R W.heap.size t.pairs p0)
    (hb : begin_.tmod 3 = 2) :
    Calls Try.prog 6 #[v, .int .u8 oi, .int .i64 key, .int .u8 begin_, u] w fun e w' => e = .returned (.bool true) ∧ Ext w w' := by
  have lg := long35_is hl ml hL
  have MK := Lib.hid (make35 hl sa l400 ah)
  have OF := Lib.hid (fun (W : World) (X : Ext w W) => of_beads t (hl.ext X) sa (by omega) (by omega))
  have FR := Lib.hid FR
  have RF := Lib.hid RF
  have H4 := Lib.hid (And.intro asz l400)
  have RS := Lib.hid (fun (W : World) (X : Ext w W) => rlast_any (hl.ext X) sa (by omega) (by omega))
  obtain ⟨AA0, c, rfl, hc, hr⟩ := hl
  obtain ⟨A4, c4, rfl, hc4, hr4⟩ := hu
  have hr4 := Lib.hid hr4
  clear hL hr sa ah ml hc hc4 l400 asz
  go_enter Try.func6, Try.ntmps6
  go_wp2_with fail
  refine lg.mono ?_; rintro e w' ⟨rfl, rfl⟩
  go_wp2_with fail
  refine MK.out.mono ?_; rintro e w0 ⟨a, rfl, xw, hat, ha⟩
  have HA := Lib.hid ha
  have HT := Lib.hid hat
  have XW := Lib.hid xw
  have HM : Hid (a.size ≤ 100000) := Lib.hid (by have := H4.out.1; rw [← HT.out, A.size_tree] at this; omega)
  clear ha hat xw
  go_wp2_with fail
  refine (FR.out _ a HT.out XW.out HA.out).mono ?_; rintro e w1 ⟨B1, rfl, n1⟩
  go_wp2_with fail
  refine (RF.out _ (XW.out.trans n1.1)).mono ?_; rintro e w2 ⟨R1, rfl, x2, r2⟩
  rw [← HT.out] at r2
  have S1 := St.start (Ext.refl w0) n1 x2 r2
  clear n1 x2 r2
  go_wp2_with fail
  refine (last_any (HA.out.more2 S1.x) HM.out).mono ?_; rintro e w3 ⟨B3, rfl, n3⟩
  go_wp2_with fail
  refine (RS.out _ (XW.out.trans (S1.x.trans n3.1))).mono ?_; rintro e w4 ⟨R3, rfl, x4, r4⟩
  rw [← HT.out, A.size_tree] at r4
  have S1 := St.start S1.x n3 x4 r4
  clear n3 x4 r4
  have q := eql_walk B3
  go_wp2_with fail
  refine (S1.stands HA.out HM.out).mono ?_; rintro e w5 ⟨rfl, x5⟩
  have S0 := S1.ext x5
  clear S1 x5
  go_wp2_with fail
  go_loopw [12, 14] (fun tv iv wr => ∃ (i : Nat) (B R lo : Nat) (p : Int) (P : Nat → Prop), i ≤ st.length ∧ iv = .int .i64 (i : Int) ∧ tv = .pointer (some ⟨B, 0, none⟩) ∧ R = R3 ∧ St w0 wr P B R lo a p) (fun _ iv _ => st.length - (intOf iv).toNat)
  case atStart => exact ⟨0, B3, R3, _, _, _, Nat.zero_le _, rfl, rfl, rfl, S0⟩
  case round =>
    clear S0
    obtain ⟨i, B, R, lo, p, P, hi, rfl, rfl, rfl, hS⟩ := hrel
    have SS := Lib.hid hS
    have q := eql_walk B
    clear hS
    by_cases hlt : i < st.length
    · obtain ⟨b, off, rfl, hb, hcs⟩ := hr4.out (by intro h; rw [h] at hlt; simp at hlt)
      have hxk : st[i]? = some st[i] := List.getElem?_eq_getElem hlt
      obtain ⟨hdo, hin⟩ := wst _ (List.getElem_mem hlt)
      generalize st[i] = y at hxk hdo hin
      have hce := Cells.elem Stp.enc_len (hcs.ext (XW.out.trans SS.out.x) hb) hxk
      have c0 := hce 0 _ rfl
      have c1 := hce 1 _ rfl
      rw [Nat.add_zero] at c0
      have HIN := Lib.hid hin
      have hlt2 : (i : Int) < (st.length : Int) := by omega
      have hi8 : i < 80 := by omega
      have ST := Lib.hid (fun (W : World) (P : Nat → Prop) (B R lo : Nat) (p : Int) (S : St w0 W P B R lo a p) => S.stands HA.out HM.out)
      have rng := Lib.hid SS.out.k.range
      clear hce hcs hxk hin
      rcases hdo with hd | hd | hd | hd
      · have NX := Lib.hid (SS.out.next HA.out HM.out)
        have HR := Lib.hid (fun (W : World) (S : St w0 W P B R lo a (moveI a.size true p)) => S.here HM.out)
        have ML := Lib.hid (move_right rng.out)
        generalize (decide (0 ≤ moveI a.size true p ∧ moveI a.size true p < (a.size : Int))) = rr at *
        generalize moveI a.size true p = p2 at *
        have hrr : (rr != rr) = false := by simp
        go_wp2_with fail
        refine NX.out.mono ?_; rintro e w1 ⟨rfl, h1⟩
        go_wp2_with fail
        refine (h1.go rng.out HM.out (by simp [InR]) ML.out).mono ?_; rintro e w2 ⟨rfl, h2⟩
        go_wp2_with fail
        refine (HR.out _ h2).mono ?_; rintro e w3 ⟨hk, hx, rfl, x3⟩
        have S3 := Lib.hid ((h2.ext x3).ext ((Ext.refl w3).alloc (.cells #[.int .i64 hk, .int .i64 hx] 48)))
        clear h1 h2 x3
        go_wp2_with fail
        refine (ST.out _ _ _ _ _ _ S3.out).mono ?_; rintro e wz ⟨rfl, xz⟩
        go_wp2_with fail
        exact ⟨⟨i + 1, B, R, lo, _, P, by omega, by go_num, rfl, rfl, S3.out.ext xz⟩, by simp only [intOf]; omega⟩
      · have NX := Lib.hid (SS.out.prev HA.out HM.out)
        have HR := Lib.hid (fun (W : World) (S : St w0 W P B R lo a (moveI a.size false p)) => S.here HM.out)
        have ML := Lib.hid (move_left rng.out)
        generalize (decide (0 ≤ moveI a.size false p ∧ moveI a.size false p < (a.size : Int))) = rr at *
        generalize moveI a.size false p = p2 at *
        have hrr : (rr != rr) = false := by simp
        go_wp2_with fail
        refine NX.out.mono ?_; rintro e w1 ⟨rfl, h1⟩
        go_wp2_with fail
        refine (h1.go rng.out HM.out (by simp [InR]) ML.out).mono ?_; rintro e w2 ⟨rfl, h2⟩
        go_wp2_with fail
        refine (HR.out _ h2).mono ?_; rintro e w3 ⟨hk, hx, rfl, x3⟩
        have S3 := Lib.hid ((h2.ext x3).ext ((Ext.refl w3).alloc (.cells #[.int .i64 hk, .int .i64 hx] 48)))
        clear h1 h2 x3
        go_wp2_with fail
        refine (ST.out _ _ _ _ _ _ S3.out).mono ?_; rintro e wz ⟨rfl, xz⟩
        go_wp2_with fail
        exact ⟨⟨i + 1, B, R, lo, _, P, by omega, by go_num, rfl, rfl, S3.out.ext xz⟩, by simp only [intOf]; omega⟩
      · go_wp2_with fail
        refine (SS.out.go HA.out HM.out HIN.out).mono ?_; rintro e w1 ⟨rfl, h1⟩
        go_wp2_with fail
        refine (h1.go rng.out HM.out HIN.out rfl).mono ?_; rintro e w2 ⟨rfl, h2⟩
        have S3 := Lib.hid h2
        clear h1 h2
        go_wp2_with fail
        refine (ST.out _ _ _ _ _ _ S3.out).mono ?_; rintro e wz ⟨rfl, xz⟩
        go_wp2_with fail
        exact ⟨⟨i + 1, B, R, lo, _, P, by omega, by go_num, rfl, rfl, S3.out.ext xz⟩, by simp only [intOf]; omega⟩
      · go_wp2_with fail
        refine (SS.out.copy HM.out).mono ?_; rintro e w1 ⟨B2, rfl, n1⟩
        have q2 := eql_walk B2
        go_wp2_with fail
        refine (SS.out.gone n1 HA.out HM.out HIN.out).mono ?_; rintro e w2 ⟨rfl, h2⟩
        have S3 := Lib.hid h2
        clear n1 h2
        go_wp2_with fail
        refine (ST.out _ _ _ _ _ _ S3.out).mono ?_; rintro e wz ⟨rfl, xz⟩
        go_wp2_with fail
        exact ⟨⟨i + 1, B2, R, lo, _, P, by omega, by go_num, rfl, rfl, S3.out.ext xz⟩, by simp only [intOf]; omega⟩
    · have hlt2 : ¬ (i : Int) < (st.length : Int) := by omega
      have y0 := XW.out.trans SS.out.x
      have TR := Lib.hid (fun (W : World) (X : Ext w0 W) => (HA.out.tr).ext X)
      go_wp2_with fail
      refine (OF.out _ y0).mono ?_; rintro e w1 ⟨v1, rfl, x1, o1⟩
      go_wp2_with fail
      refine (is_yes (TR.out _ (SS.out.x.trans x1)) (by rw [HT.out]; have := H4.out; omega) (o1.sl Bead.enc_len (by omega)) (by rw [bOf_length]; have := H4.out; omega) (by rw [HT.out])).mono ?_; rintro e w2 ⟨rfl, x2⟩
      go_wp2_with fail
      refine (alive35 _).mono ?_; rintro e w3 ⟨rfl, x3⟩
      go_wp2_with fail
      go_ret
      exact ⟨rfl, ((y0.trans x1).trans x2).trans x3⟩
set_option maxRecDepth 100000 in
set_option maxHeartbeats 4000000 in
theorem walkTells_walk {o key begin_ : Int} {l : List Bead} {st : List Stp} {v u : Value} {w : World} (hl : Sl Bead.enc w v l) (hu : Sl Stp.enc w u st) (ml : l.length ≤ maxLen) (mu : st.length ≤ maxLen) (wl : ∀ x ∈ l, x.wf) (wu : ∀ x ∈ st, (Lit.int .u8 x.d).wf = true ∧ (Lit.int .i64 x.n).wf = true)
    (wo : (Lit.int .u8 o).wf = true) (wkey : (Lit.int .i64 key).wf = true) (wb : (Lit.int .u8 begin_).wf = true) :
    Calls Try.prog 6 #[v, .int .u8 o, .int .i64 key, .int .u8 begin_, u] w fun e w' => e = .returned (.bool true) ∧ Ext w w' := by
  have ho : 0 ≤ o ∧ o ≤ 255 := by simp [Lit.wf] at wo; exact wo
  have hbg : 0 ≤ begin_ ∧ begin_ ≤ 255 := by simp [Lit.wf] at wb; exact wb
  have hkey : InR key := wf_i64 wkey
  cases hL : (decide (400 < l.length) || !mayL l) with
  | true =>
    have lg := long35_is hl ml hL
    clear hL hl hu
    go_enter Try.func6, Try.ntmps6
    go_wp2_with fail
    refine lg.mono ?_; rintro e w' ⟨rfl, rfl⟩
    go_wp2_with fail
    refine (alive35 _).mono ?_; rintro e w1 ⟨rfl, x1⟩
    go_wp2_with fail
    go_ret
    exact ⟨rfl, x1⟩
  | false =>
    by_cases hst : st.length ≤ 80
    · obtain ⟨l400, t, sa, asz, ah⟩ := short35 hL
      have kt := ser_keys sa (fun x hx => wf_i64 (wl x hx).key)
      have wst : ∀ x ∈ st, (x.d.tmod 4 = 0 ∨ x.d.tmod 4 = 1 ∨ x.d.tmod 4 = 2 ∨ x.d.tmod 4 = 3) ∧ InR x.n := fun x hx => by
        obtain ⟨h1, h2⟩ := wu x hx
        have h3 : 0 ≤ x.d ∧ x.d ≤ 255 := by simp [Lit.wf] at h1; exact h1
        rw [Int.tmod_eq_emod_of_nonneg h3.1]
        exact ⟨by omega, wf_i64 h2⟩
      have hb3 : begin_.tmod 3 = 0 ∨ begin_.tmod 3 = 1 ∨ begin_.tmod 3 = 2 := by
        rw [Int.tmod_eq_emod_of_nonneg hbg.1]; omega
      by_cases h : 1 ≤ o ∧ o ≤ 7
      · obtain ⟨n, rfl⟩ : ∃ n : Nat, (n : Int) = o := ⟨o.toNat, by omega⟩
        have FR := fun (W : World) (a : A) (ht : a.tree = t) (X : Ext w W) (ha : AP (fun b => b < W.heap.size) W a) => from_any (o := n) (key := key) (by omega) (by omega) ha (by rw [← A.size_tree, ht]; omega) (by rw [ht]; exact kt) hkey
        have FR2 : ∀ (W : World) (a : A), a.tree = t → Ext w W → AP (fun b => b < W.heap.size) W a → Calls Try.prog 31 #[.int .u8 (n : Int), .pointer a.ptr, .int .i64 key] W fun e w' => ∃ B, e = .returned (.pointer (some ⟨B, 0, none⟩)) ∧ NewW W w' B a (fromP (fun k => cmpK n key k) t) := fun W a ht X ha => by
          have := FR W a ht X ha; rwa [ht] at this
        have RF := fun (W : World) (X : Ext w W) => rfrom_any (o := n) (by omega) (by omega) hkey (hl.ext X) sa (by omega) (by omega) kt
        rcases hb3 with hb | hb | hb
        · exact walkTells_from hl hu ml hL hst wst l400 sa asz ah FR2 RF hb
        · exact walkTells_first hl hu ml hL hst wst l400 sa asz ah FR2 RF hb
        · exact walkTells_last hl hu ml hL hst wst l400 sa asz ah FR2 RF hb
      · have FR2 : ∀ (W : World) (a : A), a.tree = t → Ext w W → AP (fun b => b < W.heap.size) W a → Calls Try.prog 31 #[.int .u8 o, .pointer a.ptr, .int .i64 key] W fun e w' => ∃ B, e = .returned (.pointer (some ⟨B, 0, none⟩)) ∧ NewW W w' B a (t.size : Int) := fun W a ht X ha => by
          have := from_bad (key := key) h ha (by rw [← A.size_tree, ht]; omega); rwa [← A.size_tree, ht] at this
        have RF := fun (W : World) (X : Ext w W) => rfrom_bad (key := key) h (hl.ext X) sa (by omega) (by omega)
        rcases hb3 with hb | hb | hb
        · exact walkTells_from hl hu ml hL hst wst l400 sa asz ah FR2 RF hb
        · exact walkTells_first hl hu ml hL hst wst l400 sa asz ah FR2 RF hb
        · exact walkTells_last hl hu ml hL hst wst l400 sa asz ah FR2 RF hb
    · have lg := long35_is hl ml hL
      obtain ⟨A4, c4, rfl, hc4, hr4⟩ := hu
      have hd : decide ((80 : Int) < (st.length : Int)) = true := by simp; omega
      clear hL hl hr4
      go_enter Try.func6, Try.ntmps6
      go_wp2_with fail
      refine lg.mono ?_; rintro e w' ⟨rfl, rfl⟩
      go_wp2_with fail
      refine (alive35 _).mono ?_; rintro e w1 ⟨rfl, x1⟩
      go_wp2_with fail
      go_ret
      exact ⟨rfl, x1⟩
end Go.Proofs.Ytphpaaaaifpidaa
