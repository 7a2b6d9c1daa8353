/- Package walk: From. -/
import Derived.Test.YtphpaaaaifpidaaWalkH
namespace Go.Proofs.Ytphpaaaaifpidaa
open Go.RowKit
set_option linter.unusedVariables false

/-- What stands in memory on the way down: the walk that is made, its way so far, and the way down. -/
structure FInv (w0 W : World) (B : Nat) (a : A) (pre bs : List (A × Bool)) (wv sv : Value) (bp : Int) : Prop where
  b : Blk W B 89 #[.pointer a.ptr, sv, .int .i64 bp]
  ob : Own ES 93 2 w0.heap.size W sv bs
  ow : Own ES 93 2 w0.heap.size W wv pre
  B0 : w0.heap.size ≤ B
  dis : ∀ k, sv.ownBlock = some k → k ≠ B ∧ wv.ownBlock ≠ some k
  disw : ∀ k, wv.ownBlock = some k → k ≠ B
  x : Ext w0 W
section
variable {w0 W W' : World} {B : Nat} {a : A} {pre bs : List (A × Bool)} {wv sv : Value} {bp : Int}
theorem FInv.ext (h : FInv w0 W B a pre bs wv sv bp) (x : Ext W W') : FInv w0 W' B a pre bs wv sv bp :=
  ⟨h.b.ext x, h.ob.ext x, h.ow.ext x, h.B0, h.dis, h.disw, h.x.trans x⟩
theorem FInv.app (h : FInv w0 W B a pre bs wv sv bp) {o : Obj} {y : A × Bool} {wv' : Value} {n : Nat} (ho : Own ES 93 2 w0.heap.size W' wv' (pre ++ [y])) (ha : AppTo n (W.alloc o) W' wv wv') : FInv w0 W' B a (pre ++ [y]) bs wv' sv bp := by
  have hg := ha.1
  have hBl := h.b.lt
  refine ⟨(h.b.alloc o).grown hg (fun e => (h.disw B e.symm) rfl), (h.ob.ext ((Ext.refl W).alloc o)).same (fun k hk => hg.block k ?_ (fun e => (h.dis k hk).2 e.symm)), ho, h.B0, fun k hk => ⟨(h.dis k hk).1, ?_⟩, fun k hk => ?_, (h.x.alloc o).grown hg (fun k hk => (h.ow.lt k hk).1)⟩
  · have := (h.ob.lt k hk).2; simp; omega
  · rcases ha.2 with e | e
    · rw [e]; exact (h.dis k hk).2
    · rw [e]; have := (h.ob.lt k hk).2; simp; omega
  · rcases ha.2 with e | e
    · exact h.disw k (e.symm.trans hk)
    · have := e.symm.trans hk; simp at this; omega
theorem FInv.best (h : FInv w0 W B a pre bs wv sv bp) {sv' : Value} (q : Int) (x : Ext W W') (ho : Own ES 93 2 W.heap.size W' sv' pre) :
    FInv w0 ((W'.setCell ⟨B, 1, none⟩ sv').setCell ⟨B, 2, none⟩ (.int .i64 q)) B a pre pre wv sv' q := by
  have hs := h.x.size
  have hBl := h.b.lt
  have e1 : ∀ k, k ≠ B → ((W'.setCell ⟨B, 1, none⟩ sv').setCell ⟨B, 2, none⟩ (.int .i64 q)).heap[k]? = W'.heap[k]? := fun k hk =>
    (Below.heap_setCell _ ⟨B, 2, none⟩ _ k hk).trans (Below.heap_setCell _ ⟨B, 1, none⟩ _ k hk)
  have hlt := fun k hk => ho.lt k hk
  refine ⟨((h.b.ext x).set 1 sv').set 2 _, (Own.mono ho hs).same (fun k hk => e1 k ?_), (h.ow.ext x).same (fun k hk => e1 k (h.disw k hk)), h.B0, fun k hk => ⟨?_, fun e => ?_⟩, h.disw, ((h.x.trans x).set (p := ⟨B, 1, none⟩) h.B0 _).set (p := ⟨B, 2, none⟩) h.B0 _⟩
  · have := hlt k hk; omega
  · have := hlt k hk; omega
  · have := hlt k hk
    have := h.ow.lt k e
    omega
theorem FInv.done (h : FInv w0 W B a pre bs wv sv bp) (hs : WkS a bp bs) : NewW w0 W B a bp :=
  ⟨h.x, bs, hs, sv, h.b, Own.mono h.ob (Nat.zero_le _), fun k hk => ⟨by have := h.ob.lt k hk; omega, (h.dis k hk).1⟩, by have := h.B0; omega⟩
end
theorem keys_side {a : A} (h : KeysR a.tree) (d : Bool) : KeysR (a.side d).tree := by
  cases a with
  | nil => exact trivial
  | node b k x g l r => obtain ⟨_, hl, hr⟩ := h; cases d <;> simpa [A.side]
theorem keyA {P : Nat → Prop} {a : A} {w : World} (h : AP P w a) : Calls Try.prog 44 #[.pointer a.ptr] w fun e w' => e = .returned (.int .i64 a.tree.key) ∧ Ext w w' := key_any h.tr
theorem key_in {a : A} (h : KeysR a.tree) : InR a.tree.key := by
  cases a with
  | nil => simp [A.tree, T.key, InR]
  | node b k x g l r => exact h.1
section
variable {c : Int → Int} {m : A} {pre : List (A × Bool)} {ah : Int} {best : List (A × Bool) × Int}
theorem fromS_lt (hs : m.some = true) (h : c m.tree.key = -1) : fromS c m pre ah best = fromS c (m.side false) (pre ++ [(m, false)]) ah (pre ++ [(m, false)], ah + (m.side false).size) := by
  cases m with
  | nil => cases hs
  | node b k x g l r => simp only [A.tree, T.key] at h; simp [fromS, h, A.side]
theorem fromS_eq (hs : m.some = true) (h : c m.tree.key = 0) : fromS c m pre ah best = (pre ++ [(m, false)], ah + (m.side false).size) := by
  cases m with
  | nil => cases hs
  | node b k x g l r => simp only [A.tree, T.key] at h; simp [fromS, h, A.side]
theorem fromS_gt (hs : m.some = true) (h : c m.tree.key = 1) : fromS c m pre ah best = fromS c (m.side true) (pre ++ [(m, true)]) (ah + (m.side false).size + 1) best := by
  cases m with
  | nil => cases hs
  | node b k x g l r => simp only [A.tree, T.key] at h; simp [fromS, h, A.side]
end
theorem side_sum {m : A} (h : m.some = true) : m.size = (m.side false).size + 1 + (m.side true).size := by
  cases m with
  | nil => cases h
  | node b k x g l r => simp [A.size, A.side]

set_option maxRecDepth 100000 in
set_option maxHeartbeats 8000000 in
theorem from_any {o : Nat} (h1 : 1 ≤ o) (h2 : o ≤ 7) {a : A} {key : Int} {w : World} (ha : AP (fun b => b < w.heap.size) w a) (hm : a.size ≤ 100000) (hk : KeysR a.tree) (hkey : InR key) :
    Calls Try.prog 31 #[.int .u8 (o : Int), .pointer a.ptr, .int .i64 key] w fun e w' => ∃ B, e = .returned (.pointer (some ⟨B, 0, none⟩)) ∧ NewW w w' B a (fromP (fun k => cmpK o key k) a.tree) := by
  obtain ⟨nn, hnn, hne⟩ : ∃ nn : ByteArray, nmB o = nn ∧ nn.toList.isEmpty = false := by
    refine ⟨_, rfl, ?_⟩
    rcases (by omega : o = 1 ∨ o = 2 ∨ o = 3 ∨ o = 4 ∨ o = 5 ∨ o = 6 ∨ o = 7) with rfl | rfl | rfl | rfl | rfl | rfl | rfl <;> kernel_rfl
  have NM := Lib.hid (fun W => name_o o h1 h2 W)
  rw [hnn] at NM
  have SZ := Lib.hid (sizeA ha (by omega))
  have HA := Lib.hid ha
  have FW := Lib.hid (from_wks (fun k => cmpK o key k) a)
  have CM := Lib.hid (fun (k : Int) (hk : InR k) (W : World) => compareK h1 h2 hkey hk W)
  have C3 := Lib.hid (fun k => cmp_three (codeK o key) (codeK o k))
  change Hid (∀ k, cmpK o key k = -1 ∨ cmpK o key k = 0 ∨ cmpK o key k = 1) at C3
  have HH := Lib.hid (And.intro hm hk)
  generalize hoi : (o : Int) = oi at *
  clear ha hm hk h1 h2 hnn hkey hoi
  go_enter Try.func31, Try.ntmps31
  go_wp2_with fail
  go_step3
  go_wp2_with fail
  refine SZ.out.mono ?_; rintro e w1 ⟨rfl, x1⟩
  go_wp2_with fail
  refine (NM.out _).mono ?_; rintro e w2 ⟨rfl, x2⟩
  go_wp2_with fail
  go_step3
  go_wp2_with fail
  have b1 := (Blk.new w1 89 #[.pointer a.ptr, .slice none 0 0, .int .i64 (a.size : Int)]).ext x2
  have x3 : Ext w w2 := (x1.alloc _).trans x2
  have F0 : FInv w w2 w1.heap.size a [] [] (.slice none 0 0) (.slice none 0 0) (a.size : Int) :=
    ⟨b1, Own.nil_ _ _ _, Own.nil_ _ _ _, x1.size, fun k hk => by simp [Value.ownBlock] at hk, fun k hk => by simp [Value.ownBlock] at hk, x3⟩
  generalize w1.heap.size = B at *
  clear x1 x2 x3 b1 SZ NM hne
  go_loopg [8, 9, 10] a.size (fun g wv nv av wr => ∃ (m : A) (pre bs : List (A × Bool)) (ah bp : Int) (sv : Value), g = m.size ∧ nv = .pointer m.ptr ∧ av = .int .i64 ah ∧ FInv w wr B a pre bs wv sv bp ∧
    AP (fun b => b < w.heap.size) w m ∧ KeysR m.tree ∧ fromS (fun k => cmpK o key k) m pre ah (bs, bp) = fromS (fun k => cmpK o key k) a [] 0 ([], (a.size : Int)) ∧ 0 ≤ ah ∧ ah + m.size ≤ a.size ∧ pre.length + m.size ≤ a.size)
  case atStart => exact ⟨a, [], [], 0, (a.size : Int), _, rfl, rfl, rfl, F0, HA.out, HH.out.2, rfl, Int.le_refl _, by omega, by simp⟩
  case round =>
    clear F0
    obtain ⟨m, pre, bs, ah, bp, sv, rfl, rfl, rfl, hF, hap, hkm, hfs, ha0, ha1, hpl⟩ := hrel
    have hne := neq_ptr hap
    have AP0 := Lib.hid hap
    have FF := Lib.hid hF
    have FS := Lib.hid hfs
    have KM := Lib.hid hkm
    have HM := HH.out.1
    have HL := Lib.hid (And.intro ha1 (And.intro hpl HM))
    clear hap hfs hkm hpl
    cases hs : m.some with
    | false =>
      rw [hs] at hne
      have hR : fromS (fun k => cmpK o key k) a [] 0 ([], (a.size : Int)) = (bs, bp) := by
        rw [← FS.out]
        cases m with
        | nil => rfl
        | node => cases hs
      have HR := Lib.hid hR
      clear hR hF ha1 HM
      go_wp2_with fail
      try rw [Exit.noGoto_ret]
      go_ret
      have h := FW.out
      rw [HR.out] at h
      obtain ⟨h1, rfl⟩ := h
      exact ⟨_, rfl, FF.out.done h1⟩
    | true =>
      rw [hs] at hne
      have KY := Lib.hid (fun (W : World) (X : Ext w W) => keyA (AP0.out.keep (X.keep _)))
      have LE := Lib.hid (fun (W : World) (X : Ext w W) => left_any (AP0.out.keep (X.keep _)))
      have SZ := Lib.hid (fun (W : World) (X : Ext w W) => sizeA ((AP0.out.side false).keep (X.keep _)) (by have := side_sum hs; omega))
      have SD := Lib.hid (fun (d : Bool) (W : World) (X : Ext w W) => side_any (d := d) (AP0.out.keep (X.keep _)))
      have hfd := to_field
      have hcf := side_call false
      have hct := side_call true
      have KI := key_in KM.out
      have CC := Lib.hid (fun W => CM.out _ KI W)
      have C4 := C3.out m.tree.key
      have HS := Lib.hid hs
      generalize hmk : m.tree.key = mk at *
      have HMK := Lib.hid hmk
      have sd := side_sum hs
      have HSD := Lib.hid sd
      obtain ⟨AA, cc, rfl, hcc, hrr⟩ := hF.ow.sl ES_len (by omega)
      clear KI hs hmk sd hcc hrr hF
      rcases C4 with hc | hc | hc
      · have CC := CC.out
        rw [hc] at CC
        have CH := Lib.hid CC
        have HC := Lib.hid hc
        clear CC hc
        go_wp2_with fail
        refine (KY.out _ FF.out.x).mono ?_; rintro e w3 ⟨rfl, x3⟩
        go_wp2_with fail
        refine (CH.out _).mono ?_; rintro e w4 ⟨rfl, x4⟩
        have F4 := FF.out.ext (x3.trans x4)
        have O4 := F4.ow.ext ((Ext.refl w4).alloc (.cells #[.pointer m.ptr, .bool false] 93))
        have FH := Lib.hid F4
        clear F4
        go_wp2_with (at_builtin; refine wpList_app stopE rfl (.tmp 28) (.tmp 33) rfl rfl rfl O4 (lit_sl (enc := ES) (m, false) rfl) ?h1 ?h2 (by have := FH.out.x.size; simp; omega) ?_; (case h1 => have := HL.out; simp only [maxLen, List.length_singleton]; omega); (case h2 => have := HL.out; simp only [List.length_singleton]; omega); intro v5 w5 o5 a5)
        have F5 := Lib.hid (FH.out.app o5 a5)
        refine (kept_sl (o5.sl ES_len (by omega)) (by have := HL.out; simp; omega)).mono ?_; rintro e w6 ⟨A6, c6, rfl, x6, o6⟩
        go_wp2_with fail
        refine (LE.out _ (F5.out.x.trans x6)).mono ?_; rintro e w' ⟨rfl, rfl⟩
        go_wp2_with fail
        refine (SZ.out _ (F5.out.x.trans x6)).mono ?_; rintro e w7 ⟨rfl, x7⟩
        have x67 := x6.trans x7
        have F7 := (F5.out.b.ext x67)
        have k1 := F7.cell 1
        have k2 := F7.cell 2
        have f1 := F7.frozen 1
        have f2 := F7.frozen 2
        have F8 := Lib.hid (F5.out.best (ah + ((m.side false).size : Int)) x67 (o6.ext x7))
        have i1 : 0 ≤ ah + ((m.side false).size : Int) := by omega
        have i2 : ah + ((m.side false).size : Int) ≤ 100000 := by have := HL.out; have := HSD.out; omega
        clear F7 x6 x7 x67 o5 o6 a5 O4 x3 x4
        go_wp2_with fail
        refine (to_any false _).mono ?_; rintro e w9 ⟨rfl, x9⟩
        have F9 := F8.out
        rw [show (pre ++ [(m, false)]).length = pre.length + 1 from by simp] at F9
        have F9 := Lib.hid (F9.ext x9)
        go_wp2_with fail
        refine (SD.out false _ F9.out.x).mono ?_; rintro e w' ⟨rfl, rfl⟩
        go_wp2_with fail
        go_roundg (m.side false).size
        case measure => have := HSD.out; omega
        case rel =>
          refine ⟨m.side false, _, _, ah, _, _, rfl, rfl, rfl, F9.out, AP0.out.side false, keys_side KM.out false, ?_, ha0, by have := HL.out; have := HSD.out; omega, by have := HL.out; have := HSD.out; simp; omega⟩
          rw [← FS.out, fromS_lt HS.out (by rw [HMK.out]; exact HC.out)]
      · have CC := CC.out
        rw [hc] at CC
        have CH := Lib.hid CC
        have HC := Lib.hid hc
        clear CC hc
        go_wp2_with fail
        refine (KY.out _ FF.out.x).mono ?_; rintro e w3 ⟨rfl, x3⟩
        go_wp2_with fail
        refine (CH.out _).mono ?_; rintro e w4 ⟨rfl, x4⟩
        have F4 := FF.out.ext (x3.trans x4)
        have O4 := F4.ow.ext ((Ext.refl w4).alloc (.cells #[.pointer m.ptr, .bool false] 93))
        have FH := Lib.hid F4
        clear F4
        go_wp2_with (at_builtin; refine wpList_app stopE rfl (.tmp 28) (.tmp 33) rfl rfl rfl O4 (lit_sl (enc := ES) (m, false) rfl) ?h1 ?h2 (by have := FH.out.x.size; simp; omega) ?_; (case h1 => have := HL.out; simp only [maxLen, List.length_singleton]; omega); (case h2 => have := HL.out; simp only [List.length_singleton]; omega); intro v5 w5 o5 a5)
        have F5 := Lib.hid (FH.out.app o5 a5)
        refine (kept_sl (o5.sl ES_len (by omega)) (by have := HL.out; simp; omega)).mono ?_; rintro e w6 ⟨A6, c6, rfl, x6, o6⟩
        go_wp2_with fail
        refine (LE.out _ (F5.out.x.trans x6)).mono ?_; rintro e w' ⟨rfl, rfl⟩
        go_wp2_with fail
        refine (SZ.out _ (F5.out.x.trans x6)).mono ?_; rintro e w7 ⟨rfl, x7⟩
        have x67 := x6.trans x7
        have F7 := (F5.out.b.ext x67)
        have k1 := F7.cell 1
        have k2 := F7.cell 2
        have f1 := F7.frozen 1
        have f2 := F7.frozen 2
        have F8 := F5.out.best (ah + ((m.side false).size : Int)) x67 (o6.ext x7)
        rw [show (pre ++ [(m, false)]).length = pre.length + 1 from by simp] at F8
        have F8 := Lib.hid F8
        have i1 : 0 ≤ ah + ((m.side false).size : Int) := by omega
        have i2 : ah + ((m.side false).size : Int) ≤ 100000 := by have := HL.out; have := HSD.out; omega
        have hR : fromS (fun k => cmpK o key k) a [] 0 ([], (a.size : Int)) = (pre ++ [(m, false)], ah + ((m.side false).size : Int)) := by rw [← FS.out, fromS_eq HS.out (by rw [HMK.out]; exact HC.out)]
        have HR := Lib.hid hR
        clear F7 x6 x7 x67 o5 o6 a5 O4 x3 x4 hR
        go_wp2_with fail
        try rw [Exit.noGoto_ret]
        go_ret
        have h := FW.out
        rw [HR.out] at h
        obtain ⟨h1, h2⟩ := h
        simp only at h1 h2
        rw [← h2] at h1 ⊢
        exact ⟨_, rfl, F8.out.done h1⟩
      · have CC := CC.out
        rw [hc] at CC
        have CH := Lib.hid CC
        have HC := Lib.hid hc
        clear CC hc
        go_wp2_with fail
        refine (KY.out _ FF.out.x).mono ?_; rintro e w3 ⟨rfl, x3⟩
        go_wp2_with fail
        refine (CH.out _).mono ?_; rintro e w4 ⟨rfl, x4⟩
        have F4 := FF.out.ext (x3.trans x4)
        have O4 := F4.ow.ext ((Ext.refl w4).alloc (.cells #[.pointer m.ptr, .bool true] 93))
        have FH := Lib.hid F4
        clear F4
        have i1 : 0 ≤ ah + ((m.side false).size : Int) := by omega
        have i2 : ah + ((m.side false).size : Int) ≤ 100000 := by have := HL.out; have := HSD.out; omega
        go_wp2_with (at_builtin; refine wpList_app stopE rfl (.tmp 28) (.tmp 33) rfl rfl rfl O4 (lit_sl (enc := ES) (m, true) rfl) ?h1 ?h2 (by have := FH.out.x.size; simp; omega) ?_; (case h1 => have := HL.out; simp only [maxLen, List.length_singleton]; omega); (case h2 => have := HL.out; simp only [List.length_singleton]; omega); intro v5 w5 o5 a5)
        have F5 := Lib.hid (FH.out.app o5 a5)
        refine (LE.out _ F5.out.x).mono ?_; rintro e w' ⟨rfl, rfl⟩
        go_wp2_with fail
        refine (SZ.out _ F5.out.x).mono ?_; rintro e w7 ⟨rfl, x7⟩
        clear o5 a5 O4 x3 x4
        go_wp2_with fail
        refine (to_any true _).mono ?_; rintro e w9 ⟨rfl, x9⟩
        have F9 := Lib.hid ((F5.out.ext x7).ext x9)
        go_wp2_with fail
        refine (SD.out true _ F9.out.x).mono ?_; rintro e w' ⟨rfl, rfl⟩
        go_wp2_with fail
        go_roundg (m.side true).size
        case measure => have := HSD.out; omega
        case rel =>
          refine ⟨m.side true, _, _, ah + ((m.side false).size : Int) + 1, _, _, rfl, rfl, by go_num, F9.out, AP0.out.side true, keys_side KM.out true, ?_, by omega, by have := HL.out; have := HSD.out; omega, by have := HL.out; have := HSD.out; simp; omega⟩
          rw [← FS.out, fromS_gt HS.out (by rw [HMK.out]; exact HC.out)]
end Go.Proofs.Ytphpaaaaifpidaa
