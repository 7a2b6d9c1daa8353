/- Package share: Tops. -/
import Derived.Test.YtlehcagpddgamaaShareC
namespace Go.Proofs.Ytlehcagpddgamaa
open Go.RowKit G

/-- A node's address, as an element. -/
def EB (b : Nat) : List Value := [.pointer (some ⟨b, 0, none⟩)]
theorem EB_len (b : Nat) : (EB b).length = 1 := rfl
theorem ebE : Elem Try.prog 61 26 1 8 EB := by
  have h : (Try.prog.info? 26).map (fun i => (i.zero, i.size, i.bytes)) = some (some (.pointer none), 1, 8) := by kernel_rfl
  obtain ⟨i0, hi, hz0, hz1, hz2⟩ := info_parts h
  exact ⟨Try.underlying61, ⟨i0, _, hi, hz0, hz1, hz2, rfl⟩, by omega, EB_len, fun x u hu => by simp [EB] at hu; subst hu; rfl⟩
theorem Blk.tne {w : World} {a b : Nat} {t t' : TypeId} {cs cs' : Array Value} (h : Blk w a t cs) (h' : Blk w b t' cs') (hn : t ≠ t') : a ≠ b := by
  rintro rfl
  unfold Blk at h h'
  rw [h] at h'
  injection h' with e; injection e with _ e2
  exact hn e2
theorem Chg.sub {S S' : List Nat} {a b : World} (h : Chg S a b) (hs : ∀ x ∈ S, x ∈ S') : Chg S' a b := ⟨h.os, h.tape, h.output, h.size, fun k hk hn => h.block k hk fun hm => hn (hs k hm)⟩
theorem AppTo.chg {α : Type} {enc : α → List Value} {e sz : Nat} {S : List Nat} {a w w' : World} {v v' : Value} {l : List α} (h : AppTo a.heap.size w w' v v') (hv : Own enc e sz a.heap.size w v l) (k : Chg S a w) : Chg S a w' :=
  ⟨h.1.os.trans k.os, h.1.tape.trans k.tape, h.1.output.trans k.output, Nat.le_trans k.size h.1.size, fun i hi hn => (h.1.block i (Nat.lt_of_lt_of_le hi k.size) (fun e => by have := (Own.lt hv i e.symm).1; omega)).trans (k.block i hi hn)⟩
theorem tp_len (O : List Nat) : ∀ (t : G) (M L : List Nat), (tp O t M L).2.length ≤ L.length + t.ids.length
  | .nil, M, L => by simp [tp]
  | .nd b l r, M, L => by
    unfold tp
    split
    · simp
    · split
      · simp [ids]
      · have h1 := tp_len O l (M ++ [b]) L
        have h2 := tp_len O r (tp O l (M ++ [b]) L).1 (tp O l (M ++ [b]) L).2
        simp only [ids, List.length_cons, List.length_append]
        omega
/-- What Tops keeps: what was met, and what was found. -/
structure TopS (w0 : World) (mt lb : Nat) (M L : List Nat) (W : World) : Prop where
  keep : Chg [mt, lb] w0 W
  met : SetI W mt M
  low : ∀ b ∈ M, b < w0.heap.size ∧ b ≠ lb
  box : ∃ A c, Blk W lb 61 #[.slice A L.length c] ∧ Own EB 26 1 w0.heap.size W (.slice A L.length c) L
section
variable {w0 W W' : World} {mt lb : Nat} {M L : List Nat}
theorem TopS.more (h : TopS w0 mt lb M L W) (x : Ext W W') : TopS w0 mt lb M L W' := by
  obtain ⟨A, c, h1, h2⟩ := h.box
  exact ⟨h.keep.trans (x.chg _), h.met.ext x, h.low, A, c, h1.ext x, h2.ext x⟩
theorem TopS.put (h : TopS w0 mt lb M L W) {b : Nat} (hi : IsB W b) (hb : b ∉ M) (hm : mt < w0.heap.size) (hlo : b < w0.heap.size ∧ b ≠ lb) :
    (Instr.mapUpdate 161 (.map (some mt)) (.pointer (some ⟨b, 0, none⟩)) (.agg #[])).run Try.prog W = .ok () (World.putSet W mt (M ++ [b])) ∧ TopS w0 mt lb (M ++ [b]) L (World.putSet W mt (M ++ [b])) := by
  obtain ⟨q, s, c⟩ := h.met.put hi hb
  obtain ⟨A, cp, h1, h2⟩ := h.box
  refine ⟨q, h.keep.trans (c.sub (by simp)), s, fun x hx => ?_, A, cp, c.blk h1 (by simp; exact h.met.set.ne h1), h2.chg c (by simp; exact hm)⟩
  simp only [List.mem_append, List.mem_singleton] at hx
  rcases hx with hx | rfl
  · exact h.low x hx
  · exact hlo
/-- One more is found. -/
theorem TopS.found (h : TopS w0 mt lb M L W) {A : Option Addr} {c : Nat} {b : Nat} {v : Value} {w : World} (hmt : mt < w0.heap.size) (hlb : lb < w0.heap.size) (hne : mt ≠ lb) (hl : Blk W lb 61 #[.slice A L.length c]) (ho : Own EB 26 1 w0.heap.size W (.slice A L.length c) L)
    (o : Own EB 26 1 w0.heap.size w v (L ++ [b])) (a : AppTo w0.heap.size W w (.slice A L.length c) v) : Blk w lb 61 #[.slice A L.length c] ∧ TopS w0 mt lb M (L ++ [b]) (w.setCell ⟨lb, 0, none⟩ v) := by
  have same : ∀ k, k < w0.heap.size → w.heap[k]? = W.heap[k]? := fun k hk => a.1.block k (Nat.lt_of_lt_of_le hk h.keep.size) fun e => by have := (Own.lt ho k e.symm).1; omega
  have hl5 : Blk w lb 61 #[.slice A L.length c] := (same lb hlb).trans hl
  have k5 : Chg [mt, lb] w0 w := AppTo.chg a ho h.keep
  have k6 : Chg [lb] w (w.setCell ⟨lb, 0, none⟩ v) := (Chg.refl [lb] w).set (by simp) v
  obtain ⟨A', c', rfl, _, _⟩ := o.sl EB_len (by omega)
  refine ⟨hl5, k5.trans (k6.sub (by simp)), ?_, h.low, A', c', ?_, o.chg k6 (by simp; exact hlb)⟩
  · refine h.met.kept ((k6.block mt (Nat.lt_of_lt_of_le hmt k5.size) (by simp; exact hne)).trans (same mt hmt)) fun x hx => ?_
    have hx2 := h.low x hx
    exact (k6.block x (Nat.lt_of_lt_of_le hx2.1 k5.size) (by simp; exact hx2.2)).trans (same x hx2.1)
  · have := hl5.set 0 (.slice A' (L ++ [b]).length c')
    simpa using this
end
section
variable {w0 : World} {mt ms lb mb sb ob : Nat} {M0 O : List Nat} {cl : Array Value}
/-- What lay there when the walk began. -/
structure TopB (w0 : World) (mt ms lb mb sb ob : Nat) (M0 O : List Nat) (cl : Array Value) : Prop where
  hmt : SetM w0 mt M0
  hlb : Blk w0 lb 61 cl
  hO : SetI w0 ms O
  hne : ms ≠ mt
  hlO : lb ∉ O
  hmb : Blk w0 mb 161 #[.map (some mt)]
  hsb : Blk w0 sb 161 #[.map (some ms)]
  hob : Blk w0 ob 166 #[.func (.func 147) #[] #[.pointer (some ⟨mb, 0, none⟩), .pointer (some ⟨sb, 0, none⟩), .pointer (some ⟨lb, 0, none⟩), .pointer (some ⟨ob, 0, none⟩)]]
theorem TopB.blk {W : World} (h : TopB w0 mt ms lb mb sb ob M0 O cl) (k : Chg [mt, lb] w0 W) {b : Nat} {t : TypeId} {cs : Array Value} (hb : Blk w0 b t cs) (ht : t ≠ 61) : Blk W b t cs :=
  k.blk hb (by simp; exact ⟨h.hmt.ne hb, hb.tne h.hlb ht⟩)
theorem TopB.old {W : World} (h : TopB w0 mt ms lb mb sb ob M0 O cl) (k : Chg [mt, lb] w0 W) : SetI W ms O := by
  have hl : ms ≠ lb := fun e => by have := h.hO.set.ne h.hlb; omega
  refine h.hO.kept (k.block ms h.hO.set.lt (by simp; exact ⟨h.hne, hl⟩)) fun b hb => ?_
  obtain ⟨cs, t, e⟩ := h.hO.isB b hb
  refine k.block b (Array.getElem?_eq_some_iff.1 e).1 ?_
  simp only [List.mem_cons, List.not_mem_nil, or_false, not_or]
  exact ⟨h.hmt.ne e, fun q => h.hlO (q ▸ hb)⟩
theorem tp_has {O : List Nat} {b : Nat} {l r : G} {M L : List Nat} (h : b ∈ M) : tp O (.nd b l r) M L = (M, L) := by unfold tp; rw [if_pos h]
theorem tp_old {O : List Nat} {b : Nat} {l r : G} {M L : List Nat} (h : b ∉ M) (ho : b ∈ O) : tp O (.nd b l r) M L = (M ++ [b], L ++ [b]) := by unfold tp; rw [if_neg h, if_pos ho]
theorem tp_new {O : List Nat} {b : Nat} {l r : G} {M L : List Nat} (h : b ∉ M) (ho : b ∉ O) : tp O (.nd b l r) M L = tp O r (tp O l (M ++ [b]) L).1 (tp O l (M ++ [b]) L).2 := by
  conv => lhs; unfold tp
  rw [if_neg h, if_neg ho]
set_option maxRecDepth 100000 in
set_option maxHeartbeats 4000000 in
theorem topsOn (B : TopB w0 mt ms lb mb sb ob M0 O cl) (g : G) : ∀ (W : World) (M L : List Nat) (v : Value), TopS w0 mt lb M L W → GrS w0 v g → L.length + g.ids.length ≤ 1000000000 →
    Calls Try.prog 147 #[v, .pointer (some ⟨mb, 0, none⟩), .pointer (some ⟨sb, 0, none⟩), .pointer (some ⟨lb, 0, none⟩), .pointer (some ⟨ob, 0, none⟩)] W fun e W' => (∃ v, e = .returned v) ∧ TopS w0 mt lb (tp O g M L).1 (tp O g M L).2 W' := by
  induction g with
  | nil =>
    intro W M L v hS hg _
    obtain rfl : v = .pointer none := hg
    have q := hS.met.nope
    have cm := (B.blk hS.keep B.hmb (by decide)).cell 0
    go_enter Try.func147, Try.ntmps147
    go_wp2_with fail
    refine bodyPost_ret (results_none rfl _ _ _) rfl ?_
    exact ⟨⟨_, rfl⟩, hS.more ((Ext.refl W).alloc _)⟩
  | nd b gl gr ihl ihr =>
    intro W M L v hS hg hlen
    obtain ⟨k, x, t, tl, tr, vl, vr, rfl, hat0, g1, g2⟩ := hg
    obtain ⟨pl, rfl⟩ := g1.ptr
    obtain ⟨pr, rfl⟩ := g2.ptr
    have hat := B.blk hS.keep hat0 (by decide)
    have hib : IsB W b := ⟨_, _, hat⟩
    have cm := (B.blk hS.keep B.hmb (by decide)).cell 0
    by_cases hb : b ∈ M
    · have q := hS.met.has hb
      rw [tp_has hb]
      go_enter Try.func147, Try.ntmps147
      go_wp2_with fail
      refine bodyPost_ret (results_none rfl _ _ _) rfl ?_
      exact ⟨⟨_, rfl⟩, hS.more ((Ext.refl W).alloc _)⟩
    · have q := hS.met.hasnt hib hb
      have hS1 := hS.more ((Ext.refl W).alloc (.cells #[] 167))
      have cm1 := (B.blk hS1.keep B.hmb (by decide)).cell 0
      obtain ⟨q1, hS2⟩ := hS1.put (hib.ext ((Ext.refl W).alloc _)) hb B.hmt.lt ⟨hat0.lt, hat0.tne B.hlb (by decide)⟩
      have HS2 := Lib.hid hS2
      have hO := B.old hS2.keep
      have cs2 := (B.blk hS2.keep B.hsb (by decide)).cell 0
      have hat2 := B.blk hS2.keep hat0 (by decide)
      by_cases ho : b ∈ O
      · have q2 := hO.has ho
        rw [tp_old hb ho]
        have hS3 := hS2.more ((Ext.refl _).alloc (.cells #[] 167))
        obtain ⟨A, c, hl3, ow3⟩ := hS3.box
        have cl3 := hl3.cell 0
        have HS3 := Lib.hid (hS3.more ((Ext.refl _).alloc (.cells #[.pointer (some ⟨b, 0, none⟩)] 26)))
        have HL3 := Lib.hid (hl3.alloc (.cells #[.pointer (some ⟨b, 0, none⟩)] 26))
        have HO3 := Lib.hid (ow3.ext ((Ext.refl _).alloc (.cells #[.pointer (some ⟨b, 0, none⟩)] 26)))
        have hlen2 : L.length + 1 ≤ 1000000000 := by simp [ids] at hlen; omega
        have sl3 := lit_sl (enc := EB) (e := 26) (w := (World.putSet (W.alloc (.cells #[] 167)) mt (M ++ [b])).alloc (.cells #[] 167)) b (cs := #[.pointer (some ⟨b, 0, none⟩)]) rfl
        rw [alloc_size] at sl3
        have HSL := Lib.hid sl3
        have hsz := hS3.keep.size
        have HSZ := Lib.hid (Nat.le_trans hsz ((Ext.refl _).alloc (.cells #[.pointer (some ⟨b, 0, none⟩)] 26)).size)
        have hml : mt ≠ lb := fun e => B.hmt.ne B.hlb e.symm
        have HB := Lib.hid B
        have HM := Lib.hid hml
        clear hS hS1 hS2 hO hat2 hat hS3 hl3 ow3 ihl ihr hlen sl3 hsz hml g1 g2 hat0 B hib hb ho
        go_enter Try.func147, Try.ntmps147
        go_wp2_with (at_builtin; refine wpList_app (v := .slice A L.length c) ebE rfl (.tmp 31) (.tmp 33) rfl rfl rfl HO3.out HSL.out ?h1 ?h2 HSZ.out ?_; (case h1 => simp only [maxLen, List.length_singleton]; omega); (case h2 => simp only [List.length_singleton]; omega); intro v5 w5 o5 a5; obtain ⟨A5, c5, rfl, _, _⟩ := o5.sl EB_len (by omega); obtain ⟨hl5, hS5⟩ := HS3.out.found HB.out.hmt.lt HB.out.hlb.lt HM.out HL3.out HO3.out o5 a5; have cl5 := hl5.cell 0; have fl5 := hl5.frozen 0; have H5 := Lib.hid hS5; clear hl5 hS5 o5 a5)
        refine bodyPost_ret (results_none rfl _ _ _) rfl ?_
        exact ⟨⟨_, rfl⟩, by have z := H5.out; rw [List.length_append, List.length_singleton] at z; exact z⟩
      · have q2 := hO.hasnt ⟨_, _, hat2⟩ ho
        rw [tp_new hb ho]
        have hlen1 : L.length + gl.ids.length ≤ 1000000000 := by simp [ids] at hlen; omega
        have hlen2 : (tp O gl (M ++ [b]) L).2.length + gr.ids.length ≤ 1000000000 := by
          have := tp_len O gl (M ++ [b]) L
          simp [ids] at hlen; omega
        have IL := fun (W' : World) (h : TopS w0 mt lb (M ++ [b]) L W') => ihl W' (M ++ [b]) L (.pointer pl) h g1 hlen1
        generalize hM1 : (tp O gl (M ++ [b]) L).1 = M1 at *
        generalize hL1 : (tp O gl (M ++ [b]) L).2 = L1 at *
        have IR := fun (W' : World) (h : TopS w0 mt lb M1 L1 W') => ihr W' M1 L1 (.pointer pr) h g2 hlen2
        have hS3 := hS2.more ((Ext.refl _).alloc (.cells #[] 167))
        have HS3 := Lib.hid hS3
        have IL := Lib.hid IL
        have IR := Lib.hid IR
        have HB := Lib.hid B
        have HA := Lib.hid hat0
        clear hS hS1 hS2 hO hat2 hat hS3 ihl ihr hlen hlen1 hlen2 g1 g2 hM1 hL1 hat0 B hib hb ho
        go_enter Try.func147, Try.ntmps147
        go_wp2_with fail
        generalize ((World.putSet (W.alloc (.cells #[] 167)) mt (M ++ [b])).alloc (.cells #[] 167)) = W3 at *
        have hS4 := HS3.out.more ((Ext.refl W3).drew)
        have LE := left_at (HB.out.blk hS4.keep HA.out (by decide))
        have co := (HB.out.blk hS4.keep HB.out.hob (by decide)).cell 0
        have ON := IL.out _ hS4
        clear hS4
        go_region_with (first
          | (go_at_call 37; refine LE.mono ?_; clear LE; rintro e w' ⟨rfl, rfl⟩)
          | (go_at_call 147; refine ON.mono ?_; clear ON; rintro e W4 ⟨⟨v4, rfl⟩, h4⟩))
        all_goals
          have H4 := Lib.hid h4
          clear h4
          go_wp2_with fail
          have hS4 := H4.out.more ((Ext.refl W4).drew)
          have RE := right_at (HB.out.blk hS4.keep HA.out (by decide))
          have co4 := (HB.out.blk hS4.keep HB.out.hob (by decide)).cell 0
          have ON := IR.out _ hS4
          clear hS4
          go_region_with (first
            | (go_at_call 38; refine RE.mono ?_; clear RE; rintro e w' ⟨rfl, rfl⟩)
            | (go_at_call 147; refine ON.mono ?_; clear ON; rintro e W5 ⟨⟨v5, rfl⟩, h5⟩))
        all_goals
          have H5 := Lib.hid h5
          clear h5
          go_wp2_with fail
          go_end0
          exact ⟨⟨_, rfl⟩, H5.out⟩
end
end Go.Proofs.Ytlehcagpddgamaa
