/- shape.Make takes a tree's beads, one by one. -/
import Derived.Test.YtgpegcjgmoiglaaDoorMade
import Derived.Test.YtgpegcjgmoiglaaDoorTakeLaw
import Derived.Test.YtgpegcjgmoiglaaDoorSee
import Derived.Test.YtgpegcjgmoiglaaDoorChart
import Derived.Laws.EntriesVeiled
namespace Go.Proofs.YtgpegcjgmoiglaaDoor
open Go.RowKit Go.Lib
set_option linter.unusedVariables false

/-- The function that takes. -/
def takeF (L P : Nat) : Value := .func (.func 47) #[] #[.pointer (some ⟨L, 0, none⟩), .pointer (some ⟨P, 0, none⟩)]
/-- How taking ends. -/
def EndK (w0 : World) (L : Nat) (w : World) (res : Option (T × List Bead)) (e : Ending) (w' : World) : Prop := Chg [L] w w' ∧
  (match res with
    | none => e = .panicked thrown
    | some (t, l') => ∃ v v', e = .returned v ∧ TrX L w' v t ∧ Blk w' L 22 #[v'] ∧ Sl Bead.enc w0 v' l')
theorem EndK.no {w0 : World} {L : Nat} {w w' : World} {res : Option (T × List Bead)} (h : res = none) (c : Chg [L] w w') : EndK w0 L w res (.panicked thrown) w' := by subst h; exact ⟨c, rfl⟩
theorem EndK.yes {w0 : World} {L : Nat} {w w' : World} {res : Option (T × List Bead)} {t : T} {l' : List Bead} {v v' : Value} (h : res = some (t, l')) (c : Chg [L] w w') (ht : TrX L w' v t) (hb : Blk w' L 22 #[v']) (hs : Sl Bead.enc w0 v' l') : EndK w0 L w res (.returned v) w' := by subst h; exact ⟨c, v, v', rfl, ht, hb, hs⟩
/-- What has been taken, and what is left. -/
def Tk (w0 : World) (L : Nat) (w : World) (v : Value) (t : T) (l : List Bead) : Prop := TrX L w v t ∧ ∃ v2, Blk w L 22 #[v2] ∧ Sl Bead.enc w0 v2 l
theorem Tk.ext {w0 : World} {L : Nat} {w w' : World} {v : Value} {t : T} {l : List Bead} (h : Tk w0 L w v t l) (x : Ext w w') : Tk w0 L w' v t l := by
  obtain ⟨h1, v2, h2, h3⟩ := h
  exact ⟨h1.chg (x.chg _), v2, h2.ext x, h3⟩
theorem takeS_len {left : Nat} {is : Bool} {l l1 : List Bead} {t : T} (h : takeS left is l = some (t, l1)) : l1.length ≤ l.length := by
  obtain ⟨m, rfl, _⟩ := takeS_some h
  simp
set_option maxRecDepth 100000 in
set_option maxHeartbeats 16000000 in
theorem take_any {w0 : World} {L P : Nat} (hL : w0.heap.size ≤ L) (hLP : L ≠ P) (left : Nat) : ∀ {w : World} {is : Bool} {l : List Bead} {v : Value} {iL : Int}, Ext w0 w → Blk w L 22 #[v] → Blk w P 79 #[takeF L P] → Sl Bead.enc w0 v l → l.length ≤ 1000000000 → left ≤ 5000 → (left : Int) = iL →
    Calls Tryd.prog 47 #[.bool is, .int .i64 iL, .pointer (some ⟨L, 0, none⟩), .pointer (some ⟨P, 0, none⟩)] w (EndK w0 L w (takeS left is l)) := by
  induction left with
  | zero =>
    intro w is l v iL x hb hp hs hm hlf hiL
    have hiL : iL = 0 := by omega
    subst hiL
    have c0 := hb.cell 0
    have f0 := hb.frozen 0
    cases is with
    | false =>
      have F := Lib.hid (And.intro hb hs)
      clear hb hp hs c0 f0
      go_enter Tryd.func47, Tryd.ntmps47
      go_wp2_with fail
      go_ret
      exact EndK.yes (t := .nil) rfl (Chg.refl _ _) rfl F.out.1 F.out.2
    | true =>
      obtain ⟨A, c, rfl, hc, hr⟩ := hs
      clear hb hp hr
      go_enter Tryd.func47, Tryd.ntmps47
      go_wp2_with fail
      all_goals (refine (must_not (by simp) _).mono ?_; rintro e wz ⟨rfl, rfl⟩; go_wp2_with fail; exact ⟨rfl, EndK.no (by cases l <;> rfl) (Chg.refl _ _)⟩)
  | succ left ih =>
    intro w is l v iL x hb hp hs hm hlf hiL
    have c0 := hb.cell 0
    have f0 := hb.frozen 0
    cases is with
    | false =>
      have F := Lib.hid (And.intro hb hs)
      clear hb hp hs c0 f0
      go_enter Tryd.func47, Tryd.ntmps47
      go_wp2_with fail
      go_ret
      exact EndK.yes (t := .nil) rfl (Chg.refl _ _) rfl F.out.1 F.out.2
    | true =>
      cases l with
      | nil =>
        obtain ⟨A, c, rfl, hc, hr⟩ := hs
        clear hb hp hr
        go_enter Tryd.func47, Tryd.ntmps47
        go_wp2_with fail
        all_goals (refine (must_not (by simp) _).mono ?_; rintro e wz ⟨rfl, rfl⟩; go_wp2_with fail; exact ⟨rfl, EndK.no rfl (Chg.refl _ _)⟩)
      | cons y s =>
        have hs0 := hs
        obtain ⟨A, c, rfl, hc, hr⟩ := hs
        have hp0 : w.cell? ⟨P, 0, none⟩ = some (.func (.func 47) #[] #[.pointer (some ⟨L, 0, none⟩), .pointer (some ⟨P, 0, none⟩)]) := hp.cell 0
        have hr1 := hr.cut Bead.enc_len 1 hc
        obtain ⟨b, off, rfl, hblt, hcells⟩ := hr (by simp)
        obtain ⟨d0, d1, d2, d3, d4, d5, d6⟩ := bead_cells (hcells.ext x hblt) (i := 0) (x := y) rfl
        simp only [Nat.zero_mul, Nat.add_zero] at d0 d1 d2 d3 d4 d5 d6
        obtain ⟨i0, hi0, hz0, hz1, hz2⟩ := info_parts info_bead
        have hs2 := run_cut_l (P := Tryd.prog) Tryd.underlying22 hi0 hz1 (some ⟨b, off, none⟩) (n := (y :: s).length) (c := c) 1 1 rfl (by simp only [List.length_cons]; omega)
        have hlen1 : (y :: s).length - 1 = s.length := by simp
        have hn1 : Sl Bead.enc w0 (.slice (cutA 7 (some ⟨b, off, none⟩) c 1) s.length (c - 1)) s := ⟨_, _, rfl, by simp at hc; omega, by simpa using hr1⟩
        rw [hlen1] at hs2
        generalize cutA 7 (some ⟨b, off, none⟩) c 1 = A1 at *
        have hpos : (0 : Int) < ((y :: s).length : Int) := by simp only [List.length_cons]; omega
        have hil : (0 : Int) < iL := by omega
        have hil9 : iL ≤ 6000 := by omega
        have hLw := hb.lt
        have hPw := hp.lt
        generalize hn : (y :: s).length = n at *
        have F := Lib.hid (And.intro hb (And.intro hp (And.intro hn1 (And.intro x (And.intro (show s.length ≤ 1000000000 by omega) (And.intro hlf hiL))))))
        clear hb hp hs0 hr1 hn1 hr hcells hm hlf hiL hlen1 hc x hn hi0 hz0 hz1 hz2
        go_enter Tryd.func47, Tryd.ntmps47
        go_wp2_with fail
        refine (must_yes (by simp) _).mono ?_; rintro e wz ⟨rfl, rfl⟩
        go_wp2_with fail
        obtain ⟨kb, kp, kn, kx, km, kf, ki⟩ := F.out
        have j1 := (kb.set 0 (.slice A1 s.length (c - 1))).alloc (.cells #[.int .i64 y.key, .int .i64 y.val, .int .i64 y.sum, .int .i64 y.size, .int .u64 y.tag, .bool y.left, .bool y.right] 44)
        have j2 := (kp.far (p := ⟨L, 0, none⟩) (fun e => hLP e.symm) (.slice A1 s.length (c - 1))).alloc (.cells #[.int .i64 y.key, .int .i64 y.val, .int .i64 y.sum, .int .i64 y.size, .int .u64 y.tag, .bool y.left, .bool y.right] 44)
        have j3 := Blk.new (wz.setCell ⟨L, 0, none⟩ (.slice A1 s.length (c - 1))) 44 #[.int .i64 y.key, .int .i64 y.val, .int .i64 y.sum, .int .i64 y.size, .int .u64 y.tag, .bool y.left, .bool y.right]
        have j4 : Chg [L] wz ((wz.setCell ⟨L, 0, none⟩ (.slice A1 s.length (c - 1))).alloc (.cells #[.int .i64 y.key, .int .i64 y.val, .int .i64 y.sum, .int .i64 y.size, .int .u64 y.tag, .bool y.left, .bool y.right] 44)) :=
          ((Chg.refl [L] wz).set (p := ⟨L, 0, none⟩) (by simp) _).trans (((Ext.refl _).alloc _).chg _)
        have hXs : (wz.setCell ⟨L, 0, none⟩ (.slice A1 s.length (c - 1))).heap.size = wz.heap.size := by simp
        rw [hXs] at j3
        generalize ((wz.setCell ⟨L, 0, none⟩ (.slice A1 s.length (c - 1))).alloc (.cells #[.int .i64 y.key, .int .i64 y.val, .int .i64 y.sum, .int .i64 y.size, .int .u64 y.tag, .bool y.left, .bool y.right] 44)) = w1 at *
        generalize wz.heap.size = X at *
        have HT : Hid (takeS (left + 1) true (y :: s) = match takeS left y.left s with
          | none => none
          | some (a, l1) => match takeS left y.right l1 with
            | none => none
            | some (b, l2) => some (.node y.key y.val y.tag a b, l2)) := Lib.hid rfl
        generalize takeS (left + 1) true (y :: s) = res at *
        have hXL : X ≠ L := by omega
        have hXP : X ≠ P := by omega
        have IL := Lib.hid (show (left : Int) = iL - 1 by omega)
        have xw := Chg.over kx hL j4
        clear hs2 hpos f0 hp0 d0 d1 d2 d3 d4 d5 d6 hblt kb kp ki
        refine (ih xw (by simpa using j1) j2 kn km (by omega) IL.out).mono ?_
        rintro e w2 ⟨cg, p⟩
        have HT1 := HT.out
        clear HT
        have HT := HT1
        clear HT1
        cases ec : takeS left y.left s with
        | none =>
          rw [ec] at p
          subst p
          simp only [ec] at HT
          have G := Lib.hid (And.intro HT (j4.trans cg))
          clear HT j4 cg ec
          go_wp2_with fail
          exact ⟨rfl, EndK.no G.out.1 G.out.2⟩
        | some q =>
          obtain ⟨a, l1⟩ := q
          rw [ec] at p
          obtain ⟨va, v1, rfl, ta, kb1, kn1⟩ := p
          simp only [ec] at HT
          obtain ⟨pa, rfl⟩ := ta.ptr
          have hl1 : l1.length ≤ 1000000000 := Nat.le_trans (takeS_len ec) km
          have kp1 := cg.blk j2 (by simpa using fun e => hLP e.symm)
          have kX1 := cg.blk j3 (by simpa using hXL)
          have cg1 := j4.trans cg
          clear cg j4 j3 j2 j1 ec xw kn km
          have xw2 := Chg.over kx hL cg1
          have HQ := Lib.hid HT
          clear c0 F kx HT
          go_wp2_with fail
          --R1
          refine (wpIn_wide (n := 8)).1 ?_
          refine wpIn_chart (by kernel_rfl) (fun dn aq wq => Chg [L] w2 wq ∧ (¬ dn 12 → Blk wq L 22 #[v1]) ∧ ((dn 13 → dn 12) ∧ (dn 14 → dn 13)) ∧ ∃ u30 u31 u32 u33 u34 u35 u36 u37 u38 u39 u40 u41 u42 u43 u6, aq = { tmps := List.toArray ((.bool true) :: (.int .i64 iL) :: (.pointer (some ⟨L, 0, none⟩)) :: (.pointer (some ⟨P, 0, none⟩)) :: (undef) :: (undef) :: (u6) :: (.pointer (some ⟨X, 0, none⟩)) :: (.pointer pa) :: (.bool true) :: (.bool false) :: (.slice (some ⟨b, off, none⟩) n c) :: (.int .i64 (n : Int)) :: (.bool true) :: (.bool true) :: (.int .i64 iL) :: (.bool true) :: (.bool true) :: (.tuple #[]) :: (.slice (some ⟨b, off, none⟩) n c) :: (.pointer (some ⟨b, off, none⟩)) :: (.agg #[.int .i64 y.key, .int .i64 y.val, .int .i64 y.sum, .int .i64 y.size, .int .u64 y.tag, .bool y.left, .bool y.right]) :: (.slice (some ⟨b, off, none⟩) n c) :: (.slice A1 s.length (c - 1)) :: (.func (.func 47) #[] #[.pointer (some ⟨L, 0, none⟩), .pointer (some ⟨P, 0, none⟩)]) :: (.pointer (some ⟨X, 5, none⟩)) :: (.bool y.left) :: (.int .i64 iL) :: (.int .i64 (iL - 1)) :: (.pointer pa) :: (u30) :: (u31) :: (u32) :: (u33) :: (u34) :: (u35) :: (u36) :: (u37) :: (u38) :: (u39) :: (u40) :: (u41) :: (u42) :: (u43) :: []), defers := [] } ∧ (dn 0 → u30 = .pointer pa) ∧ (dn 1 → u31 = .pointer (some ⟨X, 0, none⟩)) ∧ (dn 2 → u32 = .int .i64 y.key) ∧ (dn 3 → u33 = .pointer (some ⟨X, 1, none⟩)) ∧ (dn 4 → u34 = .int .i64 y.val) ∧ (dn 5 → u35 = .pointer (some ⟨X, 4, none⟩)) ∧ (dn 6 → u36 = .int .u64 y.tag) ∧ (dn 7 → u37 = .func (.func 47) #[] #[.pointer (some ⟨L, 0, none⟩), .pointer (some ⟨P, 0, none⟩)]) ∧ (dn 8 → u38 = .pointer (some ⟨X, 6, none⟩)) ∧ (dn 9 → u39 = .bool y.right) ∧ (dn 10 → u40 = .int .i64 iL) ∧ (dn 11 → u41 = .int .i64 (iL - 1)) ∧ (dn 12 → ∃ b2 l2 vb, takeS left y.right l1 = some (b2, l2) ∧ u42 = .pointer vb ∧ Tk w0 L wq (.pointer vb) b2 l2) ∧ (dn 13 → ∃ b2 l2 vb, takeS left y.right l1 = some (b2, l2) ∧ u43 = .pointer vb ∧ Tk w0 L wq (.pointer vb) (.node y.key y.val y.tag a b2) l2) ∧ (dn 14 → ∃ b2 l2 vb, takeS left y.right l1 = some (b2, l2) ∧ u6 = .pointer vb ∧ Tk w0 L wq (.pointer vb) (.node y.key y.val y.tag a b2) l2)) ?at0 ?lex ?step ?fin
          case at0 =>
            exact ⟨(Ext.refl w2).drew.chg _, fun _ => kb1.drew, ⟨fun h => h.elim, fun h => h.elim⟩, _, _, _, _, _, _, _, _, _, _, _, _, _, _, _, rfl, fun h => h.elim, fun h => h.elim, fun h => h.elim, fun h => h.elim, fun h => h.elim, fun h => h.elim, fun h => h.elim, fun h => h.elim, fun h => h.elim, fun h => h.elim, fun h => h.elim, fun h => h.elim, fun h => h.elim, fun h => h.elim, fun h => h.elim⟩
          case lex =>
            intro i o ho
            rcases i with _ | _ | _ | _ | _ | _ | _ | _ | _ | _ | _ | _ | _ | _ | _ | i
            all_goals (first | (cases ho; decide) | (simp at ho))
          case step =>
            rintro dn aq wq i o ⟨hx, hw, ⟨hc1, hc2⟩, u30, u31, u32, u33, u34, u35, u36, u37, u38, u39, u40, u41, u42, u43, u6, rfl, h0, h1, h2, h3, h4, h5, h6, h7, h8, h9, h10, h11, h12, h13, h14⟩ ho hni hbf K hK
            have bX := hx.blk kX1 (by simpa using hXL)
            have bP := hx.blk kp1 (by simpa using fun e => hLP e.symm)
            have g0 : wq.cell? ⟨X, 0, none⟩ = some (.int .i64 y.key) := bX.cell 0
            have g1 : wq.cell? ⟨X, 1, none⟩ = some (.int .i64 y.val) := bX.cell 1
            have g4 : wq.cell? ⟨X, 4, none⟩ = some (.int .u64 y.tag) := bX.cell 4
            have g6 : wq.cell? ⟨X, 6, none⟩ = some (.bool y.right) := bX.cell 6
            have gp : wq.cell? ⟨P, 0, none⟩ = some (.func (.func 47) #[] #[.pointer (some ⟨L, 0, none⟩), .pointer (some ⟨P, 0, none⟩)]) := bP.cell 0
            clear bX
            rcases i with _ | _ | _ | _ | _ | _ | _ | _ | _ | _ | _ | _ | _ | _ | _ | i
            · simp only [List.getElem?_toArray, List.getElem?_cons_zero, Option.some.injEq] at ho
              subst ho
              rw [if_pos (by rfl)]
              gi_big_op
              exact hK _ _ ⟨hx.trans ((Ext.refl wq).chg _), fun y => (hw (fun z => y (.inr z))).ext (Ext.refl wq), ⟨fun x => .inr (hc1 (x.elim (fun e => absurd e (by decide)) id)), fun x => .inr (hc2 (x.elim (fun e => absurd e (by decide)) id))⟩, _, _, _, _, _, _, _, _, _, _, _, _, _, _, _, rfl, fun _ => rfl, fun h => h.elim (fun e => absurd e (by decide)) h1, fun h => h.elim (fun e => absurd e (by decide)) h2, fun h => h.elim (fun e => absurd e (by decide)) h3, fun h => h.elim (fun e => absurd e (by decide)) h4, fun h => h.elim (fun e => absurd e (by decide)) h5, fun h => h.elim (fun e => absurd e (by decide)) h6, fun h => h.elim (fun e => absurd e (by decide)) h7, fun h => h.elim (fun e => absurd e (by decide)) h8, fun h => h.elim (fun e => absurd e (by decide)) h9, fun h => h.elim (fun e => absurd e (by decide)) h10, fun h => h.elim (fun e => absurd e (by decide)) h11, fun h => h.elim (fun e => absurd e (by decide)) (fun d => by obtain ⟨b2, l2, vb, e1, e2, e3⟩ := h12 d; exact ⟨b2, l2, vb, e1, e2, e3.ext (Ext.refl wq)⟩), fun h => h.elim (fun e => absurd e (by decide)) (fun d => by obtain ⟨b2, l2, vb, e1, e2, e3⟩ := h13 d; exact ⟨b2, l2, vb, e1, e2, e3.ext (Ext.refl wq)⟩), fun h => h.elim (fun e => absurd e (by decide)) (fun d => by obtain ⟨b2, l2, vb, e1, e2, e3⟩ := h14 d; exact ⟨b2, l2, vb, e1, e2, e3.ext (Ext.refl wq)⟩)⟩
            · simp only [List.getElem?_toArray, List.getElem?_cons_zero, List.getElem?_cons_succ, Option.some.injEq] at ho
              subst ho
              rw [if_pos (by rfl)]
              gi_big_op
              exact hK _ _ ⟨hx.trans ((Ext.refl wq).chg _), fun y => (hw (fun z => y (.inr z))).ext (Ext.refl wq), ⟨fun x => .inr (hc1 (x.elim (fun e => absurd e (by decide)) id)), fun x => .inr (hc2 (x.elim (fun e => absurd e (by decide)) id))⟩, _, _, _, _, _, _, _, _, _, _, _, _, _, _, _, rfl, fun h => h.elim (fun e => absurd e (by decide)) h0, fun _ => rfl, fun h => h.elim (fun e => absurd e (by decide)) h2, fun h => h.elim (fun e => absurd e (by decide)) h3, fun h => h.elim (fun e => absurd e (by decide)) h4, fun h => h.elim (fun e => absurd e (by decide)) h5, fun h => h.elim (fun e => absurd e (by decide)) h6, fun h => h.elim (fun e => absurd e (by decide)) h7, fun h => h.elim (fun e => absurd e (by decide)) h8, fun h => h.elim (fun e => absurd e (by decide)) h9, fun h => h.elim (fun e => absurd e (by decide)) h10, fun h => h.elim (fun e => absurd e (by decide)) h11, fun h => h.elim (fun e => absurd e (by decide)) (fun d => by obtain ⟨b2, l2, vb, e1, e2, e3⟩ := h12 d; exact ⟨b2, l2, vb, e1, e2, e3.ext (Ext.refl wq)⟩), fun h => h.elim (fun e => absurd e (by decide)) (fun d => by obtain ⟨b2, l2, vb, e1, e2, e3⟩ := h13 d; exact ⟨b2, l2, vb, e1, e2, e3.ext (Ext.refl wq)⟩), fun h => h.elim (fun e => absurd e (by decide)) (fun d => by obtain ⟨b2, l2, vb, e1, e2, e3⟩ := h14 d; exact ⟨b2, l2, vb, e1, e2, e3.ext (Ext.refl wq)⟩)⟩
            · simp only [List.getElem?_toArray, List.getElem?_cons_zero, List.getElem?_cons_succ, Option.some.injEq] at ho
              subst ho
              have b1 : dn 1 := hbf ⟨1, .data⟩ (by simp) rfl
              obtain rfl := h1 b1
              rw [if_pos (by rfl)]
              gi_big_op
              exact hK _ _ ⟨hx.trans ((Ext.refl wq).chg _), fun y => (hw (fun z => y (.inr z))).ext (Ext.refl wq), ⟨fun x => .inr (hc1 (x.elim (fun e => absurd e (by decide)) id)), fun x => .inr (hc2 (x.elim (fun e => absurd e (by decide)) id))⟩, _, _, _, _, _, _, _, _, _, _, _, _, _, _, _, rfl, fun h => h.elim (fun e => absurd e (by decide)) h0, fun h => h.elim (fun e => absurd e (by decide)) (fun _ => rfl), fun _ => rfl, fun h => h.elim (fun e => absurd e (by decide)) h3, fun h => h.elim (fun e => absurd e (by decide)) h4, fun h => h.elim (fun e => absurd e (by decide)) h5, fun h => h.elim (fun e => absurd e (by decide)) h6, fun h => h.elim (fun e => absurd e (by decide)) h7, fun h => h.elim (fun e => absurd e (by decide)) h8, fun h => h.elim (fun e => absurd e (by decide)) h9, fun h => h.elim (fun e => absurd e (by decide)) h10, fun h => h.elim (fun e => absurd e (by decide)) h11, fun h => h.elim (fun e => absurd e (by decide)) (fun d => by obtain ⟨b2, l2, vb, e1, e2, e3⟩ := h12 d; exact ⟨b2, l2, vb, e1, e2, e3.ext (Ext.refl wq)⟩), fun h => h.elim (fun e => absurd e (by decide)) (fun d => by obtain ⟨b2, l2, vb, e1, e2, e3⟩ := h13 d; exact ⟨b2, l2, vb, e1, e2, e3.ext (Ext.refl wq)⟩), fun h => h.elim (fun e => absurd e (by decide)) (fun d => by obtain ⟨b2, l2, vb, e1, e2, e3⟩ := h14 d; exact ⟨b2, l2, vb, e1, e2, e3.ext (Ext.refl wq)⟩)⟩
            · simp only [List.getElem?_toArray, List.getElem?_cons_zero, List.getElem?_cons_succ, Option.some.injEq] at ho
              subst ho
              rw [if_pos (by rfl)]
              gi_big_op
              exact hK _ _ ⟨hx.trans ((Ext.refl wq).chg _), fun y => (hw (fun z => y (.inr z))).ext (Ext.refl wq), ⟨fun x => .inr (hc1 (x.elim (fun e => absurd e (by decide)) id)), fun x => .inr (hc2 (x.elim (fun e => absurd e (by decide)) id))⟩, _, _, _, _, _, _, _, _, _, _, _, _, _, _, _, rfl, fun h => h.elim (fun e => absurd e (by decide)) h0, fun h => h.elim (fun e => absurd e (by decide)) h1, fun h => h.elim (fun e => absurd e (by decide)) h2, fun _ => rfl, fun h => h.elim (fun e => absurd e (by decide)) h4, fun h => h.elim (fun e => absurd e (by decide)) h5, fun h => h.elim (fun e => absurd e (by decide)) h6, fun h => h.elim (fun e => absurd e (by decide)) h7, fun h => h.elim (fun e => absurd e (by decide)) h8, fun h => h.elim (fun e => absurd e (by decide)) h9, fun h => h.elim (fun e => absurd e (by decide)) h10, fun h => h.elim (fun e => absurd e (by decide)) h11, fun h => h.elim (fun e => absurd e (by decide)) (fun d => by obtain ⟨b2, l2, vb, e1, e2, e3⟩ := h12 d; exact ⟨b2, l2, vb, e1, e2, e3.ext (Ext.refl wq)⟩), fun h => h.elim (fun e => absurd e (by decide)) (fun d => by obtain ⟨b2, l2, vb, e1, e2, e3⟩ := h13 d; exact ⟨b2, l2, vb, e1, e2, e3.ext (Ext.refl wq)⟩), fun h => h.elim (fun e => absurd e (by decide)) (fun d => by obtain ⟨b2, l2, vb, e1, e2, e3⟩ := h14 d; exact ⟨b2, l2, vb, e1, e2, e3.ext (Ext.refl wq)⟩)⟩
            · simp only [List.getElem?_toArray, List.getElem?_cons_zero, List.getElem?_cons_succ, Option.some.injEq] at ho
              subst ho
              have b3 : dn 3 := hbf ⟨3, .data⟩ (by simp) rfl
              obtain rfl := h3 b3
              rw [if_pos (by rfl)]
              gi_big_op
              exact hK _ _ ⟨hx.trans ((Ext.refl wq).chg _), fun y => (hw (fun z => y (.inr z))).ext (Ext.refl wq), ⟨fun x => .inr (hc1 (x.elim (fun e => absurd e (by decide)) id)), fun x => .inr (hc2 (x.elim (fun e => absurd e (by decide)) id))⟩, _, _, _, _, _, _, _, _, _, _, _, _, _, _, _, rfl, fun h => h.elim (fun e => absurd e (by decide)) h0, fun h => h.elim (fun e => absurd e (by decide)) h1, fun h => h.elim (fun e => absurd e (by decide)) h2, fun h => h.elim (fun e => absurd e (by decide)) (fun _ => rfl), fun _ => rfl, fun h => h.elim (fun e => absurd e (by decide)) h5, fun h => h.elim (fun e => absurd e (by decide)) h6, fun h => h.elim (fun e => absurd e (by decide)) h7, fun h => h.elim (fun e => absurd e (by decide)) h8, fun h => h.elim (fun e => absurd e (by decide)) h9, fun h => h.elim (fun e => absurd e (by decide)) h10, fun h => h.elim (fun e => absurd e (by decide)) h11, fun h => h.elim (fun e => absurd e (by decide)) (fun d => by obtain ⟨b2, l2, vb, e1, e2, e3⟩ := h12 d; exact ⟨b2, l2, vb, e1, e2, e3.ext (Ext.refl wq)⟩), fun h => h.elim (fun e => absurd e (by decide)) (fun d => by obtain ⟨b2, l2, vb, e1, e2, e3⟩ := h13 d; exact ⟨b2, l2, vb, e1, e2, e3.ext (Ext.refl wq)⟩), fun h => h.elim (fun e => absurd e (by decide)) (fun d => by obtain ⟨b2, l2, vb, e1, e2, e3⟩ := h14 d; exact ⟨b2, l2, vb, e1, e2, e3.ext (Ext.refl wq)⟩)⟩
            · simp only [List.getElem?_toArray, List.getElem?_cons_zero, List.getElem?_cons_succ, Option.some.injEq] at ho
              subst ho
              rw [if_pos (by rfl)]
              gi_big_op
              exact hK _ _ ⟨hx.trans ((Ext.refl wq).chg _), fun y => (hw (fun z => y (.inr z))).ext (Ext.refl wq), ⟨fun x => .inr (hc1 (x.elim (fun e => absurd e (by decide)) id)), fun x => .inr (hc2 (x.elim (fun e => absurd e (by decide)) id))⟩, _, _, _, _, _, _, _, _, _, _, _, _, _, _, _, rfl, fun h => h.elim (fun e => absurd e (by decide)) h0, fun h => h.elim (fun e => absurd e (by decide)) h1, fun h => h.elim (fun e => absurd e (by decide)) h2, fun h => h.elim (fun e => absurd e (by decide)) h3, fun h => h.elim (fun e => absurd e (by decide)) h4, fun _ => rfl, fun h => h.elim (fun e => absurd e (by decide)) h6, fun h => h.elim (fun e => absurd e (by decide)) h7, fun h => h.elim (fun e => absurd e (by decide)) h8, fun h => h.elim (fun e => absurd e (by decide)) h9, fun h => h.elim (fun e => absurd e (by decide)) h10, fun h => h.elim (fun e => absurd e (by decide)) h11, fun h => h.elim (fun e => absurd e (by decide)) (fun d => by obtain ⟨b2, l2, vb, e1, e2, e3⟩ := h12 d; exact ⟨b2, l2, vb, e1, e2, e3.ext (Ext.refl wq)⟩), fun h => h.elim (fun e => absurd e (by decide)) (fun d => by obtain ⟨b2, l2, vb, e1, e2, e3⟩ := h13 d; exact ⟨b2, l2, vb, e1, e2, e3.ext (Ext.refl wq)⟩), fun h => h.elim (fun e => absurd e (by decide)) (fun d => by obtain ⟨b2, l2, vb, e1, e2, e3⟩ := h14 d; exact ⟨b2, l2, vb, e1, e2, e3.ext (Ext.refl wq)⟩)⟩
            · simp only [List.getElem?_toArray, List.getElem?_cons_zero, List.getElem?_cons_succ, Option.some.injEq] at ho
              subst ho
              have b5 : dn 5 := hbf ⟨5, .data⟩ (by simp) rfl
              obtain rfl := h5 b5
              rw [if_pos (by rfl)]
              gi_big_op
              exact hK _ _ ⟨hx.trans ((Ext.refl wq).chg _), fun y => (hw (fun z => y (.inr z))).ext (Ext.refl wq), ⟨fun x => .inr (hc1 (x.elim (fun e => absurd e (by decide)) id)), fun x => .inr (hc2 (x.elim (fun e => absurd e (by decide)) id))⟩, _, _, _, _, _, _, _, _, _, _, _, _, _, _, _, rfl, fun h => h.elim (fun e => absurd e (by decide)) h0, fun h => h.elim (fun e => absurd e (by decide)) h1, fun h => h.elim (fun e => absurd e (by decide)) h2, fun h => h.elim (fun e => absurd e (by decide)) h3, fun h => h.elim (fun e => absurd e (by decide)) h4, fun h => h.elim (fun e => absurd e (by decide)) (fun _ => rfl), fun _ => rfl, fun h => h.elim (fun e => absurd e (by decide)) h7, fun h => h.elim (fun e => absurd e (by decide)) h8, fun h => h.elim (fun e => absurd e (by decide)) h9, fun h => h.elim (fun e => absurd e (by decide)) h10, fun h => h.elim (fun e => absurd e (by decide)) h11, fun h => h.elim (fun e => absurd e (by decide)) (fun d => by obtain ⟨b2, l2, vb, e1, e2, e3⟩ := h12 d; exact ⟨b2, l2, vb, e1, e2, e3.ext (Ext.refl wq)⟩), fun h => h.elim (fun e => absurd e (by decide)) (fun d => by obtain ⟨b2, l2, vb, e1, e2, e3⟩ := h13 d; exact ⟨b2, l2, vb, e1, e2, e3.ext (Ext.refl wq)⟩), fun h => h.elim (fun e => absurd e (by decide)) (fun d => by obtain ⟨b2, l2, vb, e1, e2, e3⟩ := h14 d; exact ⟨b2, l2, vb, e1, e2, e3.ext (Ext.refl wq)⟩)⟩
            · simp only [List.getElem?_toArray, List.getElem?_cons_zero, List.getElem?_cons_succ, Option.some.injEq] at ho
              subst ho
              rw [if_pos (by rfl)]
              gi_big_op
              exact hK _ _ ⟨hx.trans ((Ext.refl wq).chg _), fun y => (hw (fun z => y (.inr z))).ext (Ext.refl wq), ⟨fun x => .inr (hc1 (x.elim (fun e => absurd e (by decide)) id)), fun x => .inr (hc2 (x.elim (fun e => absurd e (by decide)) id))⟩, _, _, _, _, _, _, _, _, _, _, _, _, _, _, _, rfl, fun h => h.elim (fun e => absurd e (by decide)) h0, fun h => h.elim (fun e => absurd e (by decide)) h1, fun h => h.elim (fun e => absurd e (by decide)) h2, fun h => h.elim (fun e => absurd e (by decide)) h3, fun h => h.elim (fun e => absurd e (by decide)) h4, fun h => h.elim (fun e => absurd e (by decide)) h5, fun h => h.elim (fun e => absurd e (by decide)) h6, fun _ => rfl, fun h => h.elim (fun e => absurd e (by decide)) h8, fun h => h.elim (fun e => absurd e (by decide)) h9, fun h => h.elim (fun e => absurd e (by decide)) h10, fun h => h.elim (fun e => absurd e (by decide)) h11, fun h => h.elim (fun e => absurd e (by decide)) (fun d => by obtain ⟨b2, l2, vb, e1, e2, e3⟩ := h12 d; exact ⟨b2, l2, vb, e1, e2, e3.ext (Ext.refl wq)⟩), fun h => h.elim (fun e => absurd e (by decide)) (fun d => by obtain ⟨b2, l2, vb, e1, e2, e3⟩ := h13 d; exact ⟨b2, l2, vb, e1, e2, e3.ext (Ext.refl wq)⟩), fun h => h.elim (fun e => absurd e (by decide)) (fun d => by obtain ⟨b2, l2, vb, e1, e2, e3⟩ := h14 d; exact ⟨b2, l2, vb, e1, e2, e3.ext (Ext.refl wq)⟩)⟩
            · simp only [List.getElem?_toArray, List.getElem?_cons_zero, List.getElem?_cons_succ, Option.some.injEq] at ho
              subst ho
              rw [if_pos (by rfl)]
              gi_big_op
              exact hK _ _ ⟨hx.trans ((Ext.refl wq).chg _), fun y => (hw (fun z => y (.inr z))).ext (Ext.refl wq), ⟨fun x => .inr (hc1 (x.elim (fun e => absurd e (by decide)) id)), fun x => .inr (hc2 (x.elim (fun e => absurd e (by decide)) id))⟩, _, _, _, _, _, _, _, _, _, _, _, _, _, _, _, rfl, fun h => h.elim (fun e => absurd e (by decide)) h0, fun h => h.elim (fun e => absurd e (by decide)) h1, fun h => h.elim (fun e => absurd e (by decide)) h2, fun h => h.elim (fun e => absurd e (by decide)) h3, fun h => h.elim (fun e => absurd e (by decide)) h4, fun h => h.elim (fun e => absurd e (by decide)) h5, fun h => h.elim (fun e => absurd e (by decide)) h6, fun h => h.elim (fun e => absurd e (by decide)) h7, fun _ => rfl, fun h => h.elim (fun e => absurd e (by decide)) h9, fun h => h.elim (fun e => absurd e (by decide)) h10, fun h => h.elim (fun e => absurd e (by decide)) h11, fun h => h.elim (fun e => absurd e (by decide)) (fun d => by obtain ⟨b2, l2, vb, e1, e2, e3⟩ := h12 d; exact ⟨b2, l2, vb, e1, e2, e3.ext (Ext.refl wq)⟩), fun h => h.elim (fun e => absurd e (by decide)) (fun d => by obtain ⟨b2, l2, vb, e1, e2, e3⟩ := h13 d; exact ⟨b2, l2, vb, e1, e2, e3.ext (Ext.refl wq)⟩), fun h => h.elim (fun e => absurd e (by decide)) (fun d => by obtain ⟨b2, l2, vb, e1, e2, e3⟩ := h14 d; exact ⟨b2, l2, vb, e1, e2, e3.ext (Ext.refl wq)⟩)⟩
            · simp only [List.getElem?_toArray, List.getElem?_cons_zero, List.getElem?_cons_succ, Option.some.injEq] at ho
              subst ho
              have b8 : dn 8 := hbf ⟨8, .data⟩ (by simp) rfl
              obtain rfl := h8 b8
              rw [if_pos (by rfl)]
              gi_big_op
              exact hK _ _ ⟨hx.trans ((Ext.refl wq).chg _), fun y => (hw (fun z => y (.inr z))).ext (Ext.refl wq), ⟨fun x => .inr (hc1 (x.elim (fun e => absurd e (by decide)) id)), fun x => .inr (hc2 (x.elim (fun e => absurd e (by decide)) id))⟩, _, _, _, _, _, _, _, _, _, _, _, _, _, _, _, rfl, fun h => h.elim (fun e => absurd e (by decide)) h0, fun h => h.elim (fun e => absurd e (by decide)) h1, fun h => h.elim (fun e => absurd e (by decide)) h2, fun h => h.elim (fun e => absurd e (by decide)) h3, fun h => h.elim (fun e => absurd e (by decide)) h4, fun h => h.elim (fun e => absurd e (by decide)) h5, fun h => h.elim (fun e => absurd e (by decide)) h6, fun h => h.elim (fun e => absurd e (by decide)) h7, fun h => h.elim (fun e => absurd e (by decide)) (fun _ => rfl), fun _ => rfl, fun h => h.elim (fun e => absurd e (by decide)) h10, fun h => h.elim (fun e => absurd e (by decide)) h11, fun h => h.elim (fun e => absurd e (by decide)) (fun d => by obtain ⟨b2, l2, vb, e1, e2, e3⟩ := h12 d; exact ⟨b2, l2, vb, e1, e2, e3.ext (Ext.refl wq)⟩), fun h => h.elim (fun e => absurd e (by decide)) (fun d => by obtain ⟨b2, l2, vb, e1, e2, e3⟩ := h13 d; exact ⟨b2, l2, vb, e1, e2, e3.ext (Ext.refl wq)⟩), fun h => h.elim (fun e => absurd e (by decide)) (fun d => by obtain ⟨b2, l2, vb, e1, e2, e3⟩ := h14 d; exact ⟨b2, l2, vb, e1, e2, e3.ext (Ext.refl wq)⟩)⟩
            · simp only [List.getElem?_toArray, List.getElem?_cons_zero, List.getElem?_cons_succ, Option.some.injEq] at ho
              subst ho
              rw [if_pos (by rfl)]
              gi_big_op
              exact hK _ _ ⟨hx.trans ((Ext.refl wq).chg _), fun y => (hw (fun z => y (.inr z))).ext (Ext.refl wq), ⟨fun x => .inr (hc1 (x.elim (fun e => absurd e (by decide)) id)), fun x => .inr (hc2 (x.elim (fun e => absurd e (by decide)) id))⟩, _, _, _, _, _, _, _, _, _, _, _, _, _, _, _, rfl, fun h => h.elim (fun e => absurd e (by decide)) h0, fun h => h.elim (fun e => absurd e (by decide)) h1, fun h => h.elim (fun e => absurd e (by decide)) h2, fun h => h.elim (fun e => absurd e (by decide)) h3, fun h => h.elim (fun e => absurd e (by decide)) h4, fun h => h.elim (fun e => absurd e (by decide)) h5, fun h => h.elim (fun e => absurd e (by decide)) h6, fun h => h.elim (fun e => absurd e (by decide)) h7, fun h => h.elim (fun e => absurd e (by decide)) h8, fun h => h.elim (fun e => absurd e (by decide)) h9, fun _ => rfl, fun h => h.elim (fun e => absurd e (by decide)) h11, fun h => h.elim (fun e => absurd e (by decide)) (fun d => by obtain ⟨b2, l2, vb, e1, e2, e3⟩ := h12 d; exact ⟨b2, l2, vb, e1, e2, e3.ext (Ext.refl wq)⟩), fun h => h.elim (fun e => absurd e (by decide)) (fun d => by obtain ⟨b2, l2, vb, e1, e2, e3⟩ := h13 d; exact ⟨b2, l2, vb, e1, e2, e3.ext (Ext.refl wq)⟩), fun h => h.elim (fun e => absurd e (by decide)) (fun d => by obtain ⟨b2, l2, vb, e1, e2, e3⟩ := h14 d; exact ⟨b2, l2, vb, e1, e2, e3.ext (Ext.refl wq)⟩)⟩
            · simp only [List.getElem?_toArray, List.getElem?_cons_zero, List.getElem?_cons_succ, Option.some.injEq] at ho
              subst ho
              have b10 : dn 10 := hbf ⟨10, .data⟩ (by simp) rfl
              obtain rfl := h10 b10
              rw [if_pos (by rfl)]
              gi_big_op
              exact hK _ _ ⟨hx.trans ((Ext.refl wq).chg _), fun y => (hw (fun z => y (.inr z))).ext (Ext.refl wq), ⟨fun x => .inr (hc1 (x.elim (fun e => absurd e (by decide)) id)), fun x => .inr (hc2 (x.elim (fun e => absurd e (by decide)) id))⟩, _, _, _, _, _, _, _, _, _, _, _, _, _, _, _, rfl, fun h => h.elim (fun e => absurd e (by decide)) h0, fun h => h.elim (fun e => absurd e (by decide)) h1, fun h => h.elim (fun e => absurd e (by decide)) h2, fun h => h.elim (fun e => absurd e (by decide)) h3, fun h => h.elim (fun e => absurd e (by decide)) h4, fun h => h.elim (fun e => absurd e (by decide)) h5, fun h => h.elim (fun e => absurd e (by decide)) h6, fun h => h.elim (fun e => absurd e (by decide)) h7, fun h => h.elim (fun e => absurd e (by decide)) h8, fun h => h.elim (fun e => absurd e (by decide)) h9, fun h => h.elim (fun e => absurd e (by decide)) (fun _ => rfl), fun _ => congrArg (Value.int .i64) rfl, fun h => h.elim (fun e => absurd e (by decide)) (fun d => by obtain ⟨b2, l2, vb, e1, e2, e3⟩ := h12 d; exact ⟨b2, l2, vb, e1, e2, e3.ext (Ext.refl wq)⟩), fun h => h.elim (fun e => absurd e (by decide)) (fun d => by obtain ⟨b2, l2, vb, e1, e2, e3⟩ := h13 d; exact ⟨b2, l2, vb, e1, e2, e3.ext (Ext.refl wq)⟩), fun h => h.elim (fun e => absurd e (by decide)) (fun d => by obtain ⟨b2, l2, vb, e1, e2, e3⟩ := h14 d; exact ⟨b2, l2, vb, e1, e2, e3.ext (Ext.refl wq)⟩)⟩
            · simp only [List.getElem?_toArray, List.getElem?_cons_zero, List.getElem?_cons_succ, Option.some.injEq] at ho
              subst ho
              have b7 : dn 7 := hbf ⟨7, .data⟩ (by simp) rfl
              have b9 : dn 9 := hbf ⟨9, .data⟩ (by simp) rfl
              have b11 : dn 11 := hbf ⟨11, .data⟩ (by simp) rfl
              obtain rfl := h7 b7
              obtain rfl := h9 b9
              obtain rfl := h11 b11
              rw [if_pos (by rfl)]
              have bL := hw hni
              have IH := ih (w := wq) (is := y.right) (l := l1) (iL := iL - 1) (Chg.over xw2 hL hx) bL bP kn1 hl1 (by omega) IL.out
              cases ec : takeS left y.right l1 with
              | none =>
                rw [ec] at IH
                have EC := Lib.hid ec
                clear ec
                gi_wp2_with (refine ⟨trivial, ?_⟩; gi_at_call 47; refine (callsIn_wide.2 IH).mono ?_; rintro e wn ⟨cg3, rfl⟩)
                exact ⟨rfl, EndK.no (by rw [HQ.out, EC.out]) ((cg1.trans hx).trans cg3)⟩
              | some q =>
                obtain ⟨b2, l2⟩ := q
                rw [ec] at IH
                have EC := Lib.hid ec
                clear ec
                gi_wp2_with (refine ⟨trivial, ?_⟩; gi_at_call 47; refine (callsIn_wide.2 IH).mono ?_; rintro e wn ⟨cg3, vb0, v2, rfl, tb, kb2, kn2⟩)
                obtain ⟨vb, rfl⟩ := tb.ptr
                exact ⟨hx.trans cg3, fun y => absurd (by simp) y, ⟨fun _ => by simp, fun x => .inr (hc2 (x.elim (fun e => absurd e (by decide)) id))⟩, _, _, _, _, _, _, _, _, _, _, _, _, _, _, _, rfl, fun h => h.elim (fun e => absurd e (by decide)) h0, fun h => h.elim (fun e => absurd e (by decide)) h1, fun h => h.elim (fun e => absurd e (by decide)) h2, fun h => h.elim (fun e => absurd e (by decide)) h3, fun h => h.elim (fun e => absurd e (by decide)) h4, fun h => h.elim (fun e => absurd e (by decide)) h5, fun h => h.elim (fun e => absurd e (by decide)) h6, fun h => h.elim (fun e => absurd e (by decide)) (fun _ => rfl), fun h => h.elim (fun e => absurd e (by decide)) h8, fun h => h.elim (fun e => absurd e (by decide)) (fun _ => rfl), fun h => h.elim (fun e => absurd e (by decide)) h10, fun h => h.elim (fun e => absurd e (by decide)) (fun _ => rfl), fun _ => ⟨b2, l2, vb, EC.out, rfl, ⟨tb, _, kb2, kn2⟩⟩, fun h => h.elim (fun e => absurd e (by decide)) (fun d => absurd (hc1 d) hni), fun h => h.elim (fun e => absurd e (by decide)) (fun d => absurd (hc1 (hc2 d)) hni)⟩
            · simp only [List.getElem?_toArray, List.getElem?_cons_zero, List.getElem?_cons_succ, Option.some.injEq] at ho
              subst ho
              have b0 : dn 0 := hbf ⟨0, .data⟩ (by simp) rfl
              have b2 : dn 2 := hbf ⟨2, .data⟩ (by simp) rfl
              have b4 : dn 4 := hbf ⟨4, .data⟩ (by simp) rfl
              have b6 : dn 6 := hbf ⟨6, .data⟩ (by simp) rfl
              have b12 : dn 12 := hbf ⟨12, .data⟩ (by simp) rfl
              obtain rfl := h0 b0
              obtain rfl := h2 b2
              obtain rfl := h4 b4
              obtain rfl := h6 b6
              obtain ⟨b2, l2, vb, ec, rfl, tk⟩ := h12 b12
              rw [if_pos (by rfl)]
              obtain ⟨tb, v2, kb2, kn2⟩ := tk
              have ta3 := ta.chg hx
              gi_wp2_with (refine ⟨trivial, ?_⟩; gi_at_call 25; refine (callsIn_wide.2 (new_any _ _ _ ta3.tr tb.tr)).mono ?_; rintro e wn ⟨u, rfl, x4, bn, rfl, hbn, hat⟩)
              exact ⟨hx.trans (x4.chg _), fun y => absurd (.inr b12) y, ⟨fun _ => .inr b12, fun _ => by simp⟩, _, _, _, _, _, _, _, _, _, _, _, _, _, _, _, rfl, fun h => h.elim (fun e => absurd e (by decide)) (fun _ => rfl), fun h => h.elim (fun e => absurd e (by decide)) h1, fun h => h.elim (fun e => absurd e (by decide)) (fun _ => rfl), fun h => h.elim (fun e => absurd e (by decide)) h3, fun h => h.elim (fun e => absurd e (by decide)) (fun _ => rfl), fun h => h.elim (fun e => absurd e (by decide)) h5, fun h => h.elim (fun e => absurd e (by decide)) (fun _ => rfl), fun h => h.elim (fun e => absurd e (by decide)) h7, fun h => h.elim (fun e => absurd e (by decide)) h8, fun h => h.elim (fun e => absurd e (by decide)) h9, fun h => h.elim (fun e => absurd e (by decide)) h10, fun h => h.elim (fun e => absurd e (by decide)) h11, fun _ => ⟨b2, l2, vb, ec, rfl, (show Tk w0 L wq (.pointer vb) b2 l2 from ⟨tb, v2, kb2, kn2⟩).ext x4⟩, fun _ => ⟨b2, l2, _, ec, rfl, ⟨⟨bn, _, _, rfl, by have := kb2.lt; omega, hat, ta3.chg (x4.chg _), tb.chg (x4.chg _)⟩, v2, kb2.ext x4, kn2⟩⟩, fun h => h.elim (fun e => absurd e (by decide)) (fun d => absurd (hc2 d) hni)⟩
            · simp only [List.getElem?_toArray, List.getElem?_cons_zero, List.getElem?_cons_succ, Option.some.injEq] at ho
              subst ho
              have b0 : dn 0 := hbf ⟨0, .phase⟩ (by simp) rfl
              have b1 : dn 1 := hbf ⟨1, .phase⟩ (by simp) rfl
              have b2 : dn 2 := hbf ⟨2, .phase⟩ (by simp) rfl
              have b3 : dn 3 := hbf ⟨3, .phase⟩ (by simp) rfl
              have b4 : dn 4 := hbf ⟨4, .phase⟩ (by simp) rfl
              have b5 : dn 5 := hbf ⟨5, .phase⟩ (by simp) rfl
              have b6 : dn 6 := hbf ⟨6, .phase⟩ (by simp) rfl
              have b7 : dn 7 := hbf ⟨7, .phase⟩ (by simp) rfl
              have b8 : dn 8 := hbf ⟨8, .phase⟩ (by simp) rfl
              have b9 : dn 9 := hbf ⟨9, .phase⟩ (by simp) rfl
              have b10 : dn 10 := hbf ⟨10, .phase⟩ (by simp) rfl
              have b11 : dn 11 := hbf ⟨11, .phase⟩ (by simp) rfl
              have b12 : dn 12 := hbf ⟨12, .phase⟩ (by simp) rfl
              have b13 : dn 13 := hbf ⟨13, .data⟩ (by simp) rfl
              obtain ⟨b2, l2, vb, ec, rfl, tk⟩ := h13 b13
              rw [if_pos (by rfl)]
              gi_big_op
              exact hK _ _ ⟨hx.trans ((Ext.refl wq).chg _), fun y => (hw (fun z => y (.inr z))).ext (Ext.refl wq), ⟨fun x => .inr (hc1 (x.elim (fun e => absurd e (by decide)) id)), fun _ => .inr b13⟩, _, _, _, _, _, _, _, _, _, _, _, _, _, _, _, rfl, fun h => h.elim (fun e => absurd e (by decide)) h0, fun h => h.elim (fun e => absurd e (by decide)) h1, fun h => h.elim (fun e => absurd e (by decide)) h2, fun h => h.elim (fun e => absurd e (by decide)) h3, fun h => h.elim (fun e => absurd e (by decide)) h4, fun h => h.elim (fun e => absurd e (by decide)) h5, fun h => h.elim (fun e => absurd e (by decide)) h6, fun h => h.elim (fun e => absurd e (by decide)) h7, fun h => h.elim (fun e => absurd e (by decide)) h8, fun h => h.elim (fun e => absurd e (by decide)) h9, fun h => h.elim (fun e => absurd e (by decide)) h10, fun h => h.elim (fun e => absurd e (by decide)) h11, fun h => h.elim (fun e => absurd e (by decide)) (fun d => by obtain ⟨b2, l2, vb, e1, e2, e3⟩ := h12 d; exact ⟨b2, l2, vb, e1, e2, e3.ext (Ext.refl wq)⟩), fun _ => ⟨b2, l2, vb, ec, rfl, tk⟩, fun _ => ⟨b2, l2, vb, ec, rfl, tk⟩⟩
            · simp at ho
          case fin =>
            rintro dn aq wq ⟨hx, hw, _, u30, u31, u32, u33, u34, u35, u36, u37, u38, u39, u40, u41, u42, u43, u6, rfl, h0, h1, h2, h3, h4, h5, h6, h7, h8, h9, h10, h11, h12, h13, h14⟩ hall
            obtain ⟨b2, l2, vb, ec, rfl, tk⟩ := h14 (hall 14 (by decide))
            obtain rfl := h0 (hall 0 (by decide))
            obtain rfl := h1 (hall 1 (by decide))
            obtain rfl := h2 (hall 2 (by decide))
            obtain rfl := h3 (hall 3 (by decide))
            obtain rfl := h4 (hall 4 (by decide))
            obtain rfl := h5 (hall 5 (by decide))
            obtain rfl := h6 (hall 6 (by decide))
            obtain rfl := h7 (hall 7 (by decide))
            obtain rfl := h8 (hall 8 (by decide))
            obtain rfl := h9 (hall 9 (by decide))
            obtain rfl := h10 (hall 10 (by decide))
            obtain rfl := h11 (hall 11 (by decide))
            obtain ⟨_, _, _, _, rfl, _⟩ := h12 (hall 12 (by decide))
            obtain ⟨_, _, _, _, rfl, _⟩ := h13 (hall 13 (by decide))
            have F := Lib.hid (And.intro (show res = some (.node y.key y.val y.tag a b2, l2) by rw [HQ.out, ec]) (And.intro (cg1.trans hx) tk))
            clear hall hw h12 h13 h14 hx tk ec cg1
          --E1
            go_wp2_with fail
            go_ret
            obtain ⟨f1, f2, tk⟩ := F.out
            obtain ⟨t1, v2, t2, t3⟩ := tk
            exact EndK.yes f1 f2 t1 t2 t3
end Go.Proofs.YtgpegcjgmoiglaaDoor
