/- Package shape: a reader takes a number, a tag. -/
import Derived.Test.YtgpegcjgmoiglaaDoorReadB
import Derived.Test.YtgpegcjgmoiglaaDoorChg
namespace Go.Proofs.YtgpegcjgmoiglaaDoor
open Go.RowKit Go.Lib
set_option linter.unusedVariables false

theorem Rd.cut {w : World} {R : Nat} {l l' : List UInt8} {m : Int} (h : Rd w R l m) : Rd (w.setCell ⟨R, 0, none⟩ (.string ⟨⟨l'⟩⟩)) R l' m := by
  have := Blk.set h 0 (.string ⟨⟨l'⟩⟩)
  unfold Rd
  simpa using this
theorem Rd.chg {w : World} {R : Nat} {l : List UInt8} {m : Int} (h : Rd w R l m) (l' : List UInt8) : Chg [R] w (w.setCell ⟨R, 0, none⟩ (.string ⟨⟨l'⟩⟩)) := (Chg.refl [R] w).set (p := ⟨R, 0, none⟩) (by simp) _
theorem Chg.over {w0 w w' : World} {R : Nat} (x : Ext w0 w) (hR : w0.heap.size ≤ R) (h : Chg [R] w w') : Ext w0 w' := h.ext x (fun s hs => by simp at hs; rw [hs]; exact hR)
theorem wordL_len (l : List UInt8) : (wordL l).length ≤ l.length := by
  have := congrArg List.length (word_rest l)
  simp at this; omega
theorem restL_len (l : List UInt8) : (restL l).length ≤ l.length := by
  have := congrArg List.length (word_rest l)
  simp at this; omega
theorem str_size (l : List UInt8) : (⟨⟨l⟩⟩ : ByteArray).size = l.length := rfl
set_option maxRecDepth 100000 in
set_option maxHeartbeats 4000000 in
theorem num_any {w0 w : World} {R : Nat} {l : List UInt8} {m : Int} (hl : Laid w0) (x : Ext w0 w) (hR : w0.heap.size ≤ R) (h : Rd w R l m) (hm : l.length ≤ 1000000000) :
    Calls Tryd.prog 57 #[.pointer (some ⟨R, 0, none⟩)] w fun e w' => Chg [R] w w' ∧
      (match numR l with
        | none => e = .panicked thrown
        | some (n, l') => e = .returned (.int .i64 n) ∧ Rd w' R l' m) := by
  have WD := Lib.hid (word_any h hm)
  have hc := h.chg (restL l)
  have h1 : Rd (w.setCell ⟨R, 0, none⟩ (.string ⟨⟨restL l⟩⟩)) R (restL l) m := h.cut
  have hwl : (⟨⟨wordL l⟩⟩ : ByteArray).size ≤ 281474976710656 := by rw [str_size]; have := wordL_len l; omega
  have x1 := Chg.over x hR hc
  have H1 := Lib.hid (And.intro hc (And.intro h1 x1))
  clear hc h1 x1 h
  cases hp : parseIntB 64 (wordL l) with
  | ok n =>
    have PI := Lib.hid (fun (W : World) => parseI_ok (w := W) ⟨⟨wordL l⟩⟩ hwl hp)
    have hb := parseI_bounds hp
    have FI := Lib.hid (fun (W : World) (X : Ext w0 W) => fmtI n hb.1 hb.2 (hl.ext X))
    by_cases he : itoa n = wordL l
    · have hn : numR l = some (n, restL l) := by unfold numR; rw [hp]; simp [he]
      rw [hn]
      rw [he] at FI
      clear hp hb he hn hwl hm
      go_enter Tryd.func57, Tryd.ntmps57
      go_wp2_with fail
      refine WD.out.mono ?_; rintro e w1 ⟨rfl, rfl⟩
      go_wp2_with fail
      refine (PI.out _).mono ?_; rintro e w2 ⟨rfl, x2⟩
      go_wp2_with fail
      refine (FI.out _ (H1.out.2.2.trans x2)).mono ?_; rintro e w3 ⟨rfl, x3⟩
      go_wp2_with fail
      refine (must_ok _).mono ?_; rintro e w4 ⟨rfl, rfl⟩
      go_wp2_with fail
      go_ret
      exact ⟨H1.out.1.trans ((x2.trans x3).chg _), rfl, Blk.ext H1.out.2.1 (x2.trans x3)⟩
    · have hn : numR l = none := by unfold numR; rw [hp]; simp [he]
      rw [hn]
      have hbe : (itoa n == wordL l) = false := beq_eq_false_iff_ne.2 he
      clear hp hb he hn hwl hm
      go_enter Tryd.func57, Tryd.ntmps57
      go_wp2_with fail
      refine WD.out.mono ?_; rintro e w1 ⟨rfl, rfl⟩
      go_wp2_with fail
      refine (PI.out _).mono ?_; rintro e w2 ⟨rfl, x2⟩
      go_wp2_with fail
      refine (FI.out _ (H1.out.2.2.trans x2)).mono ?_; rintro e w3 ⟨rfl, x3⟩
      go_wp2_with fail
      refine (must_no _).mono ?_; rintro e w4 ⟨rfl, rfl⟩
      go_wp2_with fail
      exact ⟨rfl, H1.out.1.trans ((x2.trans x3).chg _), rfl⟩
  | _ =>
    have hn : numR l = none := by unfold numR; rw [hp]
    rw [hn]
    have PI := Lib.hid (fun (W : World) (X : Ext w0 W) => parseI_err (w := W) ⟨⟨wordL l⟩⟩ hwl (fun n e => by rw [hp] at e; cases e) (hl.ext X))
    clear hp hn hwl hm
    go_enter Tryd.func57, Tryd.ntmps57
    go_wp2_with fail
    refine WD.out.mono ?_; rintro e w1 ⟨rfl, rfl⟩
    go_wp2_with fail
    refine (PI.out _ H1.out.2.2).mono ?_; rintro e w2 ⟨n2, T2, N2, _, rfl, x2⟩
    go_wp2_with fail
    refine (must_no _).mono ?_; rintro e w4 ⟨rfl, rfl⟩
    go_wp2_with fail
    exact ⟨rfl, H1.out.1.trans (x2.chg _), rfl⟩
theorem byte_ne (c d : UInt8) (l : List UInt8) (h : 0 < (⟨⟨d :: l⟩⟩ : ByteArray).size) : ((((⟨⟨d :: l⟩⟩ : ByteArray)[0].toNat : Nat) : Int) != ((c.toNat : Nat) : Int)) = !decide (d = c) := by
  unfold bne; rw [byte_eq c d l h]
set_option maxRecDepth 100000 in
set_option maxHeartbeats 4000000 in
theorem tag_rd {w0 w : World} {R : Nat} {l : List UInt8} {m : Int} (hl : Laid w0) (x : Ext w0 w) (hR : w0.heap.size ≤ R) (h : Rd w R l m) (hm : l.length ≤ 1000000000) :
    Calls Tryd.prog 58 #[.pointer (some ⟨R, 0, none⟩)] w fun e w' => Chg [R] w w' ∧
      (match tagR l with
        | none => e = .panicked thrown
        | some (n, l') => e = .returned (.int .u64 n) ∧ Rd w' R l' m) := by
  have c0 := h.cell 0
  have f0 := h.frozen 0
  cases l with
  | nil =>
    have HH := Lib.hid h
    clear h
    simp only [tagR]
    go_enter Tryd.func58, Tryd.ntmps58
    go_wp2_with fail
    go_ret
    exact ⟨Chg.refl _ _, rfl, HH.out⟩
  | cons d s =>
    by_cases hd : d = 35
    · subst hd
      have hb := byte_ne 35 35 s
      simp only [decide_true, Bool.not_true] at hb
      have hb : ∀ (h : 0 < (⟨⟨35 :: s⟩⟩ : ByteArray).size), ((((⟨⟨35 :: s⟩⟩ : ByteArray)[0].toNat : Nat) : Int) != 35) = false := hb
      have h1 : Rd (w.setCell ⟨R, 0, none⟩ (.string ⟨⟨s⟩⟩)) R s m := h.cut
      have hc1 := h.chg s
      have hs : s.length ≤ 1000000000 := by simp at hm; omega
      have et : (⟨⟨35 :: s⟩⟩ : ByteArray).extract 1 (s.length + 1) = ⟨⟨s⟩⟩ := by rw [cut_eq, List.drop_one, List.tail_cons, List.take_of_length_le (by simp)]
      have WD := Lib.hid (word_any h1 hs)
      have hc := hc1.trans (h1.chg (restL s))
      have h2 : Rd ((w.setCell ⟨R, 0, none⟩ (.string ⟨⟨s⟩⟩)).setCell ⟨R, 0, none⟩ (.string ⟨⟨restL s⟩⟩)) R (restL s) m := h1.cut
      have hwl : (⟨⟨wordL s⟩⟩ : ByteArray).size ≤ 281474976710656 := by rw [str_size]; have := wordL_len s; omega
      have x1 := Chg.over x hR hc
      have H1 := Lib.hid (And.intro hc (And.intro h2 x1))
      clear hc h1 h2 x1 h hc1
      simp only [tagR, if_true]
      cases hp : parseUintB 64 (wordL s) with
      | ok n =>
        have PI := Lib.hid (fun (W : World) => parseU_ok (w := W) ⟨⟨wordL s⟩⟩ hwl hp)
        have hb2 := parseU_lt hp
        have FI := Lib.hid (fun (W : World) (X : Ext w0 W) => fmtU n hb2 (hl.ext X))
        by_cases hn0 : 0 < n
        · have hn9 : (0 : Int) < (n : Int) := by omega
          by_cases he : decDigits n = wordL s
          · simp only [hn0, he, and_self, if_true]
            rw [he] at FI
            clear hp hb2 he hwl hm hn0 hs
            go_enter Tryd.func58, Tryd.ntmps58
            go_wp2_with fail
            refine WD.out.mono ?_; rintro e w1 ⟨rfl, rfl⟩
            go_wp2_with fail
            refine (PI.out _).mono ?_; rintro e w2 ⟨rfl, x2⟩
            go_wp2_with fail
            refine (FI.out _ (H1.out.2.2.trans x2)).mono ?_; rintro e w3 ⟨rfl, x3⟩
            go_wp2_with fail
            refine (must_ok _).mono ?_; rintro e w4 ⟨rfl, rfl⟩
            go_wp2_with fail
            go_ret
            exact ⟨H1.out.1.trans ((x2.trans x3).chg _), rfl, Blk.ext H1.out.2.1 (x2.trans x3)⟩
          · simp only [he, and_false, if_false]
            have hbe : (decDigits n == wordL s) = false := beq_eq_false_iff_ne.2 he
            clear hp hb2 he hwl hm hn0 hs
            go_enter Tryd.func58, Tryd.ntmps58
            go_wp2_with fail
            refine WD.out.mono ?_; rintro e w1 ⟨rfl, rfl⟩
            go_wp2_with fail
            refine (PI.out _).mono ?_; rintro e w2 ⟨rfl, x2⟩
            go_wp2_with fail
            refine (FI.out _ (H1.out.2.2.trans x2)).mono ?_; rintro e w3 ⟨rfl, x3⟩
            go_wp2_with fail
            refine (must_no _).mono ?_; rintro e w4 ⟨rfl, rfl⟩
            go_wp2_with fail
            exact ⟨rfl, H1.out.1.trans ((x2.trans x3).chg _), rfl⟩
        · simp only [hn0, false_and, if_false]
          have hn9 : ¬ (0 : Int) < (n : Int) := by omega
          obtain rfl : n = 0 := by omega
          clear hp hb2 hwl hm hn0 hs hn9
          go_enter Tryd.func58, Tryd.ntmps58
          go_wp2_with fail
          refine WD.out.mono ?_; rintro e w1 ⟨rfl, rfl⟩
          go_wp2_with fail
          refine (PI.out _).mono ?_; rintro e w2 ⟨rfl, x2⟩
          go_wp2_with fail
          refine (must_no _).mono ?_; rintro e w4 ⟨rfl, rfl⟩
          go_wp2_with fail
          exact ⟨rfl, H1.out.1.trans (x2.chg _), rfl⟩
      | _ =>
        have PI := Lib.hid (fun (W : World) (X : Ext w0 W) => parseU_err (w := W) ⟨⟨wordL s⟩⟩ hwl (fun n e => by rw [hp] at e; cases e) (hl.ext X))
        clear hp hwl hm hs
        go_enter Tryd.func58, Tryd.ntmps58
        go_wp2_with fail
        refine WD.out.mono ?_; rintro e w1 ⟨rfl, rfl⟩
        go_wp2_with fail
        refine (PI.out _ H1.out.2.2).mono ?_; rintro e w2 ⟨n2, T2, N2, _, rfl, x2⟩
        go_wp2_with fail
        refine (must_no _).mono ?_; rintro e w4 ⟨rfl, rfl⟩
        go_wp2_with fail
        exact ⟨rfl, H1.out.1.trans (x2.chg _), rfl⟩
    · have hb := byte_ne 35 d s
      rw [decide_eq_false hd] at hb
      have hb : ∀ (h : 0 < (⟨⟨d :: s⟩⟩ : ByteArray).size), ((((⟨⟨d :: s⟩⟩ : ByteArray)[0].toNat : Nat) : Int) != 35) = true := hb
      have HH := Lib.hid h
      simp only [tagR, if_neg hd]
      clear hd h
      go_enter Tryd.func58, Tryd.ntmps58
      go_wp2_with fail
      go_ret
      exact ⟨Chg.refl _ _, rfl, HH.out⟩
end Go.Proofs.YtgpegcjgmoiglaaDoor
