/- Package treapjoin: Join, both; which nodes of a join are new (printed by mkjoins.py out of Join). -/
import Derived.Test.YtlehcagpddgamaaJoin
import Derived.Test.YtlehcagpddgamaaJoinB
import Derived.Test.YtlehcagpddgamaaGrS
namespace Go.Proofs.Ytlehcagpddgamaa
open Go.RowKit

/-- Of a join, all but a few nodes stand in what was joined; its root does not. -/
def Sh (w : World) (vl vr : Value) (l r : T) (v : Value) (w' : World) : Prop := ∀ gl gr, GrS w vl gl → GrS w vr gr →
  ∃ (g : G) (N : List Nat), GrS w' v g ∧ N.length ≤ sideR l + sideL r + 1 ∧ (∀ i ∈ g.ids, i ∈ gl.ids ∨ i ∈ gr.ids ∨ i ∈ N) ∧ ∃ b, v = .pointer (some ⟨b, 0, none⟩) ∧ w.heap.size ≤ b
theorem Sh.ext {w w' w'' : World} {vl vr v : Value} {l r : T} (h : Sh w vl vr l r v w') (x : Ext w' w'') : Sh w vl vr l r v w'' := fun gl gr hl hr => by
  obtain ⟨g, N, h1, h2⟩ := h gl gr hl hr
  exact ⟨g, N, h1.ext x, h2⟩
theorem Sh.since {w W w' : World} {vl vr v : Value} {l r : T} (h : Sh W vl vr l r v w') (x : Ext w W) : Sh w vl vr l r v w' := fun gl gr hl hr => by
  obtain ⟨g, N, h1, h2, h3, b, h4, h5⟩ := h gl gr (hl.ext x) (hr.ext x)
  exact ⟨g, N, h1, h2, h3, b, h4, Nat.le_trans x.size h5⟩
theorem sh_left {w w' : World} {bn bn2 : Nat} {k v g : Int} {a b r tj : T} {ua ub vr vj : Value} (hat : At w bn k v g a b ua ub) (s : Sh w ub vr b r vj w') (x : Ext w w') (hat2 : At w' bn2 k v g a tj ua vj) (hb : w.heap.size ≤ bn2) :
    Sh w (.pointer (some ⟨bn, 0, none⟩)) vr (.node k v g a b) r (.pointer (some ⟨bn2, 0, none⟩)) w' := by
  intro gl gr hl hr
  cases gl with
  | nil => cases (show Value.pointer (some _) = Value.pointer none from hl)
  | nd b0 ga gb =>
    obtain ⟨k', v', g', tl', tr', ul, ur, hv, ha, h1, h2⟩ := hl
    obtain rfl : bn = b0 := by injection hv with e; injection e with e; injection e
    obtain ⟨rfl, rfl⟩ := hat.sides ha
    obtain ⟨g2, N, s1, s2, s3, _⟩ := s gb gr h2 hr
    refine ⟨.nd bn2 ga g2, bn2 :: N, ⟨_, _, _, _, _, _, _, rfl, hat2, h1.ext x, s1⟩, ?_, ?_, bn2, rfl, hb⟩
    · simp only [List.length_cons, sideR]; omega
    · intro i hi
      simp only [G.ids, List.mem_cons, List.mem_append] at hi ⊢
      rcases hi with hi | hi | hi
      · exact .inr (.inr (.inl hi))
      · exact .inl (.inr (.inl hi))
      · rcases s3 i hi with h | h | h
        · exact .inl (.inr (.inr h))
        · exact .inr (.inl h)
        · exact .inr (.inr (.inr h))
theorem sh_right {w w' : World} {bn bn2 : Nat} {k v g : Int} {a b l tj : T} {ua ub vl vj : Value} (hat : At w bn k v g a b ua ub) (s : Sh w vl ua l a vj w') (x : Ext w w') (hat2 : At w' bn2 k v g tj b vj ub) (hb : w.heap.size ≤ bn2) :
    Sh w vl (.pointer (some ⟨bn, 0, none⟩)) l (.node k v g a b) (.pointer (some ⟨bn2, 0, none⟩)) w' := by
  intro gl gr hl hr
  cases gr with
  | nil => cases (show Value.pointer (some _) = Value.pointer none from hr)
  | nd b0 ga gb =>
    obtain ⟨k', v', g', tl', tr', ul, ur, hv, ha, h1, h2⟩ := hr
    obtain rfl : bn = b0 := by injection hv with e; injection e with e; injection e
    obtain ⟨rfl, rfl⟩ := hat.sides ha
    obtain ⟨g2, N, s1, s2, s3, _⟩ := s gl ga hl h1
    refine ⟨.nd bn2 g2 gb, bn2 :: N, ⟨_, _, _, _, _, _, _, rfl, hat2, s1, h2.ext x⟩, ?_, ?_, bn2, rfl, hb⟩
    · simp only [List.length_cons, sideL]; omega
    · intro i hi
      simp only [G.ids, List.mem_cons, List.mem_append] at hi ⊢
      rcases hi with hi | hi | hi
      · exact .inr (.inr (.inl hi))
      · rcases s3 i hi with h | h | h
        · exact .inl h
        · exact .inr (.inl (.inr (.inl h)))
        · exact .inr (.inr (.inr h))
      · exact .inr (.inl (.inr (.inr hi)))
theorem sh_mid {w w' : World} {bn2 : Nat} {k v g : Int} {l r : T} {vl vr : Value} (x : Ext w w') (hat2 : At w' bn2 k v g l r vl vr) (hb : w.heap.size ≤ bn2) :
    Sh w vl vr l r (.pointer (some ⟨bn2, 0, none⟩)) w' := by
  intro gl gr hl hr
  refine ⟨.nd bn2 gl gr, [bn2], ⟨_, _, _, _, _, _, _, rfl, hat2, hl.ext x, hr.ext x⟩, by simp, ?_, bn2, rfl, hb⟩
  intro i hi
  simp only [G.ids, List.mem_cons, List.mem_append, List.not_mem_nil, or_false] at hi ⊢
  rcases hi with hi | hi | hi
  · exact .inr (.inr hi)
  · exact .inl hi
  · exact .inr (.inl hi)
theorem join_since {w W : World} {l r : T} {x : Item} {vl vr : Value} {args : Array Value} (h : Calls Try.prog 74 args W (Gives (fun v' w' => ∃ t, Tr w' v' t ∧ Joined l x r t ∧ Sh W vl vr l r v' w') W)) (X : Ext w W) :
    Calls Try.prog 74 args W (Gives (fun v' w' => ∃ t, Tr w' v' t ∧ Joined l x r t ∧ Sh w vl vr l r v' w') W) :=
  h.mono fun _ _ ⟨v, he, hx, t, ht, hj, hs⟩ => ⟨v, he, hx, t, ht, hj, hs.since X⟩
/-- The contract of Join, for two of at most so many nodes. -/
def JoinsToS (n : Nat) : Prop := ∀ (l r : T) (vl vr : Value) (x : Item) (w : World), l.size + r.size ≤ n → mayT l = true → mayT r = true → Tr w vl l → Tr w vr r →
  Calls Try.prog 74 #[vl, .agg #[.int .i64 x.key, .int .i64 x.val, .int .u64 x.tag], vr] w (Gives (fun v' w' => ∃ t, Tr w' v' t ∧ Joined l x r t ∧ Sh w vl vr l r v' w') w)

set_option maxRecDepth 100000 in
set_option maxHeartbeats 8000000 in
/-- both: neither root stands above both others. -/
theorem both_anyS {l r : T} {vl vm vr : Value} {x : Item} {w : World} (IH : ∀ n, n < l.size + r.size → JoinsToS n) (hl : mayT l = true) (hr : mayT r = true) (h1 : topB l x r = false) (h2 : topB r x l = false)
    (tl : Tr w vl l) (tm : Tr w vm (.node x.key x.val x.tag .nil .nil)) (tr : Tr w vr r) :
    Calls Try.prog 150 #[vl, vm, vr] w (Gives (fun v' w' => ∃ t, Tr w' v' t ∧ Joined l x r t ∧ Sh w vl vr l r v' w') w) := by
  obtain ⟨pl, rfl⟩ := tl.ptr
  obtain ⟨pm, rfl⟩ := tm.ptr
  obtain ⟨pr, rfl⟩ := tr.ptr
  have z := Ext.refl w
  have L0 := Lib.hid (fun (W : World) (X : Ext w W) => tl.ext X)
  have M0 := Lib.hid (fun (W : World) (X : Ext w W) => tm.ext X)
  have R0 := Lib.hid (fun (W : World) (X : Ext w W) => tr.ext X)
  have km := fun (W : World) (X : Ext w W) => key_any (tm.ext X)
  have vm := fun (W : World) (X : Ext w W) => val_any (tm.ext X)
  have gm := fun (W : World) (X : Ext w W) => tag_any (tm.ext X)
  simp only [T.key, T.val, T.tag] at km vm gm
  have al := fun (W : World) (X : Ext w W) => aboveN_any (tl.ext X) (tm.ext X)
  have ar := fun (W : World) (X : Ext w W) => aboveN_any (tr.ext X) (tm.ext X)
  simp only [overT_node] at al ar
  have KM := Lib.hid km
  have VM := Lib.hid vm
  have GM := Lib.hid gm
  have IH := Lib.hid IH
  clear tl tm tr km vm gm
  cases hA : over l x with
  | true =>
    rw [show (⟨x.key, x.val, x.tag⟩ : Item) = x from rfl] at al
    rw [hA] at al
    have AL := Lib.hid al
    clear al ar
    cases l with
    | nil => simp [over, T.some] at hA
    | node k v g a b =>
      have hab : above ⟨k, v, g⟩ x = true := by simpa [over, T.some, T.item] using hA
      have hrr := both_left h1 h2 hab rfl
      obtain ⟨bn, ua, ub, hbn, hat, ta, tb⟩ := L0.out _ (Ext.refl w)
      obtain rfl : pl = some ⟨bn, 0, none⟩ := by simpa using hbn
      obtain ⟨pa, rfl⟩ := ta.ptr
      obtain ⟨pb, rfl⟩ := tb.ptr
      obtain ⟨_, _, ma, mb⟩ := mayT_node.1 hl
      clear hbn
      clear hA h1 h2
      go_enter Try.func150, Try.ntmps150
      go_wp2_with fail
      refine (KM.out _ z).mono ?_; rintro e w1 ⟨rfl, x1⟩
      have z := Ext.trans z x1
      go_wp2_with fail
      refine (VM.out _ z).mono ?_; rintro e w2 ⟨rfl, x2⟩
      have z := Ext.trans z x2
      go_wp2_with fail
      refine (GM.out _ z).mono ?_; rintro e w3 ⟨rfl, x3⟩
      have z := (Ext.trans z x3).alloc (.cells #[.int .i64 x.key, .int .i64 x.val, .int .u64 x.tag] 70)
      have kx := Blk.new w3 70 #[.int .i64 x.key, .int .i64 x.val, .int .u64 x.tag]
      clear x1 x2 x3
      go_wp2_with fail
      generalize w3.alloc (.cells #[.int .i64 x.key, .int .i64 x.val, .int .u64 x.tag] 70) = w4 at *
      generalize w3.heap.size = bx at *
      refine (AL.out _ z).mono ?_; rintro e w5 ⟨rfl, x5⟩
      have z := Ext.trans z x5
      have kx := kx.ext x5
      clear x5
      have HC := Lib.hid (show ∀ W : World, Ext w5 W → W.cell? ⟨bx, 0, none⟩ = some (.int .i64 x.key) ∧ W.cell? ⟨bx, 1, none⟩ = some (.int .i64 x.val) ∧ W.cell? ⟨bx, 2, none⟩ = some (.int .u64 x.tag) from fun W X => by have k := kx.ext X; exact ⟨k.cell 0, k.cell 1, k.cell 2⟩)
      have HZ := Lib.hid z
      clear z kx
      have z := Ext.refl w5
      have LA := Lib.hid (fun (W : World) (X : Ext w5 W) => left_at (hat.ext (HZ.out.trans X)))
      have RA := Lib.hid (fun (W : World) (X : Ext w5 W) => right_at (hat.ext (HZ.out.trans X)))
      have KA := fun (W : World) (X : Ext w5 W) => key_any (L0.out W (HZ.out.trans X))
      simp only [T.key] at KA
      replace KA := Lib.hid KA
      have VA := fun (W : World) (X : Ext w5 W) => val_any (L0.out W (HZ.out.trans X))
      simp only [T.val] at VA
      replace VA := Lib.hid VA
      have GA := fun (W : World) (X : Ext w5 W) => tag_any (L0.out W (HZ.out.trans X))
      simp only [T.tag] at GA
      replace GA := Lib.hid GA
      have JN := Lib.hid (fun (W : World) (X : Ext w5 W) => join_since (IH.out (b.size + r.size) (by simp only [T.size]; omega) b r _ _ x W (Nat.le_refl _) mb hr (tb.ext (HZ.out.trans X)) (R0.out W (HZ.out.trans X))) (HZ.out.trans X))
      have TS := Lib.hid (fun (W : World) (X : Ext w5 W) => ta.ext (HZ.out.trans X))
      clear KM VM GM M0 R0 L0 IH
      go_wp2_with fail
      go_region_held3 (fun W => W.cell? ⟨bx, 0, none⟩ = some (.int .i64 x.key) ∧ W.cell? ⟨bx, 1, none⟩ = some (.int .i64 x.val) ∧ W.cell? ⟨bx, 2, none⟩ = some (.int .u64 x.tag)) (first | exact HC.out _ z | exact HC.out _ (Ext.drew z))
        (first
          | (go_at_call 37; refine (LA.out _ (by first | exact z | exact Ext.drew z)).mono ?_; rintro e w' ⟨rfl, rfl⟩)
          | (go_at_call 38; refine (RA.out _ (by first | exact z | exact Ext.drew z)).mono ?_; rintro e w' ⟨rfl, rfl⟩)
          | (go_at_call 112; refine (KA.out _ (by first | exact z | exact Ext.drew z)).mono ?_; rintro e wq ⟨rfl, xq⟩; have z := (by first | exact Ext.trans z xq | exact (Ext.drew z).trans xq))
          | (go_at_call 131; refine (VA.out _ (by first | exact z | exact Ext.drew z)).mono ?_; rintro e wq ⟨rfl, xq⟩; have z := (by first | exact Ext.trans z xq | exact (Ext.drew z).trans xq))
          | (go_at_call 132; refine (GA.out _ (by first | exact z | exact Ext.drew z)).mono ?_; rintro e wq ⟨rfl, xq⟩; have z := (by first | exact Ext.trans z xq | exact (Ext.drew z).trans xq))
          | (go_at_call 74; refine (JN.out _ (by first | exact z | exact Ext.drew z)).mono ?_; rintro e wj ⟨vj, rfl, xq, tj, htj, hj, sj⟩; have z := (by first | exact Ext.trans z xq | exact (Ext.drew z).trans xq))
          | (go_at_call 35; refine (new_any k v g (TS.out _ z) htj).mono ?_; rintro e wn ⟨un, rfl, xq, bn2, rfl, hbn2, hat2⟩; have hbn3 := Nat.le_trans (HZ.out.trans z).size hbn2; have htj := htj.ext xq; have sj := sj.ext xq; have z := Ext.trans z xq))
      have tf : Tr wn (.pointer (some ⟨bn2, 0, none⟩)) (.node k v g a tj) := ⟨bn2, _, _, rfl, hat2, TS.out _ z, htj⟩
      go_wp2_with fail
      go_ret
      exact ⟨_, rfl, HZ.out.trans z, _, tf, join_left hl hr (above_asym hab) hrr hj, sh_left hat sj (HZ.out.trans z) hat2 hbn3⟩
  | false =>
    rw [show (⟨x.key, x.val, x.tag⟩ : Item) = x from rfl] at al ar
    rw [hA] at al
    have AL := Lib.hid al
    clear al
    cases hB : over r x with
    | true =>
      rw [hB] at ar
      have AR := Lib.hid ar
      clear ar
      cases r with
      | nil => simp [over, T.some] at hB
      | node k v g a b =>
        have hab : above ⟨k, v, g⟩ x = true := by simpa [over, T.some, T.item] using hB
        have hll := both_right (l := l) (r := .node k v g a b) (x := x) (fun h => by simp [over, h.1, h.2] at hA) hab
        obtain ⟨bn, ua, ub, hbn, hat, ta, tb⟩ := R0.out _ (Ext.refl w)
        obtain rfl : pr = some ⟨bn, 0, none⟩ := by simpa using hbn
        obtain ⟨pa, rfl⟩ := ta.ptr
        obtain ⟨pb, rfl⟩ := tb.ptr
        obtain ⟨_, _, ma, mb⟩ := mayT_node.1 hr
        clear hbn
        clear hA hB h1 h2
        go_enter Try.func150, Try.ntmps150
        go_wp2_with fail
        refine (KM.out _ z).mono ?_; rintro e w1 ⟨rfl, x1⟩
        have z := Ext.trans z x1
        go_wp2_with fail
        refine (VM.out _ z).mono ?_; rintro e w2 ⟨rfl, x2⟩
        have z := Ext.trans z x2
        go_wp2_with fail
        refine (GM.out _ z).mono ?_; rintro e w3 ⟨rfl, x3⟩
        have z := (Ext.trans z x3).alloc (.cells #[.int .i64 x.key, .int .i64 x.val, .int .u64 x.tag] 70)
        have kx := Blk.new w3 70 #[.int .i64 x.key, .int .i64 x.val, .int .u64 x.tag]
        clear x1 x2 x3
        go_wp2_with fail
        generalize w3.alloc (.cells #[.int .i64 x.key, .int .i64 x.val, .int .u64 x.tag] 70) = w4 at *
        generalize w3.heap.size = bx at *
        refine (AL.out _ z).mono ?_; rintro e w5 ⟨rfl, x5⟩
        have z := Ext.trans z x5
        have kx := kx.ext x5
        clear x5
        go_wp2_with fail
        refine (AR.out _ z).mono ?_; rintro e w6 ⟨rfl, x6⟩
        have z := Ext.trans z x6
        have kx := kx.ext x6
        clear x6
        have HC := Lib.hid (show ∀ W : World, Ext w6 W → W.cell? ⟨bx, 0, none⟩ = some (.int .i64 x.key) ∧ W.cell? ⟨bx, 1, none⟩ = some (.int .i64 x.val) ∧ W.cell? ⟨bx, 2, none⟩ = some (.int .u64 x.tag) from fun W X => by have k := kx.ext X; exact ⟨k.cell 0, k.cell 1, k.cell 2⟩)
        have HZ := Lib.hid z
        clear z kx
        have z := Ext.refl w6
        have LA := Lib.hid (fun (W : World) (X : Ext w6 W) => left_at (hat.ext (HZ.out.trans X)))
        have RA := Lib.hid (fun (W : World) (X : Ext w6 W) => right_at (hat.ext (HZ.out.trans X)))
        have KA := fun (W : World) (X : Ext w6 W) => key_any (R0.out W (HZ.out.trans X))
        simp only [T.key] at KA
        replace KA := Lib.hid KA
        have VA := fun (W : World) (X : Ext w6 W) => val_any (R0.out W (HZ.out.trans X))
        simp only [T.val] at VA
        replace VA := Lib.hid VA
        have GA := fun (W : World) (X : Ext w6 W) => tag_any (R0.out W (HZ.out.trans X))
        simp only [T.tag] at GA
        replace GA := Lib.hid GA
        have JN := Lib.hid (fun (W : World) (X : Ext w6 W) => join_since (IH.out (l.size + a.size) (by simp only [T.size]; omega) l a _ _ x W (Nat.le_refl _) hl ma (L0.out W (HZ.out.trans X)) (ta.ext (HZ.out.trans X))) (HZ.out.trans X))
        have TS := Lib.hid (fun (W : World) (X : Ext w6 W) => tb.ext (HZ.out.trans X))
        clear KM VM GM M0 R0 L0 IH
        go_wp2_with fail
        go_region_held3 (fun W => W.cell? ⟨bx, 0, none⟩ = some (.int .i64 x.key) ∧ W.cell? ⟨bx, 1, none⟩ = some (.int .i64 x.val) ∧ W.cell? ⟨bx, 2, none⟩ = some (.int .u64 x.tag)) (first | exact HC.out _ z | exact HC.out _ (Ext.drew z))
          (first
            | (go_at_call 37; refine (LA.out _ (by first | exact z | exact Ext.drew z)).mono ?_; rintro e w' ⟨rfl, rfl⟩)
            | (go_at_call 38; refine (RA.out _ (by first | exact z | exact Ext.drew z)).mono ?_; rintro e w' ⟨rfl, rfl⟩)
            | (go_at_call 112; refine (KA.out _ z).mono ?_; rintro e wq ⟨rfl, xq⟩; have htj := htj.ext xq; have sj := sj.ext xq; have z := Ext.trans z xq)
            | (go_at_call 131; refine (VA.out _ z).mono ?_; rintro e wq ⟨rfl, xq⟩; have htj := htj.ext xq; have sj := sj.ext xq; have z := Ext.trans z xq)
            | (go_at_call 132; refine (GA.out _ z).mono ?_; rintro e wq ⟨rfl, xq⟩; have htj := htj.ext xq; have sj := sj.ext xq; have z := Ext.trans z xq)
            | (go_at_call 74; refine (JN.out _ (by first | exact z | exact Ext.drew z)).mono ?_; rintro e wj ⟨vj, rfl, xq, tj, htj, hj, sj⟩; have z := (by first | exact Ext.trans z xq | exact (Ext.drew z).trans xq))
            | (go_at_call 35; refine (new_any k v g htj (TS.out _ z)).mono ?_; rintro e wn ⟨un, rfl, xq, bn2, rfl, hbn2, hat2⟩; have hbn3 := Nat.le_trans (HZ.out.trans z).size hbn2; have htj := htj.ext xq; have sj := sj.ext xq; have z := Ext.trans z xq))
        have tf : Tr wn (.pointer (some ⟨bn2, 0, none⟩)) (.node k v g tj b) := ⟨bn2, _, _, rfl, hat2, htj, TS.out _ z⟩
        go_wp2_with fail
        go_ret
        exact ⟨_, rfl, HZ.out.trans z, _, tf, join_right hl hr (above_asym hab) hll hj, sh_right hat sj (HZ.out.trans z) hat2 hbn3⟩
    | false =>
      rw [hB] at ar
      have AR := Lib.hid ar
      clear ar
      have hj : Joined l x r (.node x.key x.val x.tag l r) := join_mid hl hr (fun h => by simpa [over, h] using hA) (fun h => by simpa [over, h] using hB)
      clear hA hB h1 h2
      go_enter Try.func150, Try.ntmps150
      go_wp2_with fail
      refine (KM.out _ z).mono ?_; rintro e w1 ⟨rfl, x1⟩
      have z := Ext.trans z x1
      go_wp2_with fail
      refine (VM.out _ z).mono ?_; rintro e w2 ⟨rfl, x2⟩
      have z := Ext.trans z x2
      go_wp2_with fail
      refine (GM.out _ z).mono ?_; rintro e w3 ⟨rfl, x3⟩
      have z := (Ext.trans z x3).alloc (.cells #[.int .i64 x.key, .int .i64 x.val, .int .u64 x.tag] 70)
      have kx := Blk.new w3 70 #[.int .i64 x.key, .int .i64 x.val, .int .u64 x.tag]
      clear x1 x2 x3
      go_wp2_with fail
      generalize w3.alloc (.cells #[.int .i64 x.key, .int .i64 x.val, .int .u64 x.tag] 70) = w4 at *
      generalize w3.heap.size = bx at *
      refine (AL.out _ z).mono ?_; rintro e w5 ⟨rfl, x5⟩
      have z := Ext.trans z x5
      have kx := kx.ext x5
      clear x5
      go_wp2_with fail
      refine (AR.out _ z).mono ?_; rintro e w6 ⟨rfl, x6⟩
      have z := Ext.trans z x6
      have kx := kx.ext x6
      have c0 := kx.cell 0
      have c1 := kx.cell 1
      have c2 := kx.cell 2
      clear x6
      go_wp2_with fail
      refine (new_any x.key x.val x.tag (L0.out _ z) (R0.out _ z)).mono ?_; rintro e wn ⟨un, rfl, xq, bn2, rfl, hbn2, hat2⟩
      have hbn3 := Nat.le_trans z.size hbn2
      have z := Ext.trans z xq
      have tf : Tr wn (.pointer (some ⟨bn2, 0, none⟩)) (.node x.key x.val x.tag l r) := ⟨bn2, _, _, rfl, hat2, L0.out _ z, R0.out _ z⟩
      go_wp2_with fail
      go_ret
      exact ⟨_, rfl, z, _, tf, hj, sh_mid z hat2 hbn3⟩

theorem eql_topS (a b : Bool) (c d : Bool) (w : World) : (binOp .eql 172 (.agg #[.bool a, .bool b]) (.agg #[.bool c, .bool d])).run Try.prog w = .ok (.bool (a == c && b == d)) w := by
  go_simp
  cases a <;> cases b <;> cases c <;> cases d <;> rfl

set_option maxRecDepth 100000 in
set_option maxHeartbeats 8000000 in
theorem join_allS : ∀ n, JoinsToS n := by
  intro n
  induction n using Nat.strongRecOn with
  | _ n ih =>
    intro l r vl vr x w hn hl hr tl tr
    obtain ⟨pl, rfl⟩ := tl.ptr
    obtain ⟨pr, rfl⟩ := tr.ptr
    have IH : ∀ m, m < l.size + r.size → JoinsToS m := fun m hm => ih m (by omega)
    have IH := Lib.hid IH
    clear ih hn
    have z := (Ext.refl w).alloc (.cells #[.int .i64 x.key, .int .i64 x.val, .int .u64 x.tag] 70)
    have kx := Blk.new w 70 #[.int .i64 x.key, .int .i64 x.val, .int .u64 x.tag]
    have L0 := Lib.hid (fun (W : World) (X : Ext w W) => tl.ext X)
    have R0 := Lib.hid (fun (W : World) (X : Ext w W) => tr.ext X)
    have h0 : ∀ W : World, Tr W (.pointer none) .nil := fun _ => rfl
    have et := eql_topS
    clear tl tr
    cases hT1 : topB l x r with
    | true =>
      obtain ⟨g1, g2, g3⟩ := top_left hT1
      have hT2 : topB r x l = false := by
        cases hT2 : topB r x l with
        | false => rfl
        | true =>
          obtain ⟨f1, f2, f3⟩ := top_left hT2
          unfold topB at hT2
          rw [g3 f1, g1] at hT2
          simp at hT2
      cases l with
      | nil => cases g1
      | node k v g a b =>
        have hab : above ⟨k, v, g⟩ x = true := g2
        obtain ⟨bn, ua, ub, hbn, hat, ta, tb⟩ := L0.out _ (Ext.refl w)
        obtain rfl : pl = some ⟨bn, 0, none⟩ := by simpa using hbn
        obtain ⟨pa, rfl⟩ := ta.ptr
        obtain ⟨pb, rfl⟩ := tb.ptr
        obtain ⟨_, _, ma, mb⟩ := mayT_node.1 hl
        clear hbn
        go_enter Try.func74, Try.ntmps74
        go_wp2_with fail
        generalize w.alloc (.cells #[.int .i64 x.key, .int .i64 x.val, .int .u64 x.tag] 70) = w0 at *
        generalize w.heap.size = bx at *
        refine (new_any x.key x.val x.tag (h0 _) (h0 _)).mono ?_; rintro e w1 ⟨u1, rfl, x1, bm, rfl, hbm, hatm⟩
        have z := Ext.trans z x1
        have kx := kx.ext x1
        have tm : Tr w1 (.pointer (some ⟨bm, 0, none⟩)) (.node x.key x.val x.tag .nil .nil) := ⟨bm, _, _, rfl, hatm, rfl, rfl⟩
        go_wp2_with fail
        refine (topTwo_any (L0.out _ z) tm (R0.out _ z) hT1).mono ?_; rintro e w2 ⟨rfl, x2⟩
        have z := Ext.trans z x2
        have kx := kx.ext x2
        have tm := tm.ext x2
        go_wp2_with fail
        refine (topTwo_any (R0.out _ z) tm (L0.out _ z) hT2).mono ?_; rintro e w3 ⟨rfl, x3⟩
        have z := Ext.trans z x3
        have kx := kx.ext x3
        have tm := tm.ext x3
        clear x1 x2 x3 hatm hbm
        have HC := Lib.hid (show ∀ W : World, Ext w3 W → W.cell? ⟨bx, 0, none⟩ = some (.int .i64 x.key) ∧ W.cell? ⟨bx, 1, none⟩ = some (.int .i64 x.val) ∧ W.cell? ⟨bx, 2, none⟩ = some (.int .u64 x.tag) from fun W X => by have k := kx.ext X; exact ⟨k.cell 0, k.cell 1, k.cell 2⟩)
        have HZ := Lib.hid z
        clear z kx
        have z := Ext.refl w3
        have LA := Lib.hid (fun (W : World) (X : Ext w3 W) => left_at (hat.ext (HZ.out.trans X)))
        have RA := Lib.hid (fun (W : World) (X : Ext w3 W) => right_at (hat.ext (HZ.out.trans X)))
        have KA := fun (W : World) (X : Ext w3 W) => key_any (L0.out W (HZ.out.trans X))
        simp only [T.key] at KA
        replace KA := Lib.hid KA
        have VA := fun (W : World) (X : Ext w3 W) => val_any (L0.out W (HZ.out.trans X))
        simp only [T.val] at VA
        replace VA := Lib.hid VA
        have GA := fun (W : World) (X : Ext w3 W) => tag_any (L0.out W (HZ.out.trans X))
        simp only [T.tag] at GA
        replace GA := Lib.hid GA
        have JN := Lib.hid (fun (W : World) (X : Ext w3 W) => join_since (IH.out (b.size + r.size) (by simp only [T.size]; omega) b r _ _ x W (Nat.le_refl _) mb hr (tb.ext (HZ.out.trans X)) (R0.out W (HZ.out.trans X))) (HZ.out.trans X))
        have TS := Lib.hid (fun (W : World) (X : Ext w3 W) => ta.ext (HZ.out.trans X))
        clear hT1 hT2 g1 g2 tm L0 R0 IH
        go_wp2_with fail
        go_region_held3 (fun W => W.cell? ⟨bx, 0, none⟩ = some (.int .i64 x.key) ∧ W.cell? ⟨bx, 1, none⟩ = some (.int .i64 x.val) ∧ W.cell? ⟨bx, 2, none⟩ = some (.int .u64 x.tag)) (first | exact HC.out _ z | exact HC.out _ (Ext.drew z))
          (first
            | (go_at_call 37; refine (LA.out _ (by first | exact z | exact Ext.drew z)).mono ?_; rintro e w' ⟨rfl, rfl⟩)
            | (go_at_call 38; refine (RA.out _ (by first | exact z | exact Ext.drew z)).mono ?_; rintro e w' ⟨rfl, rfl⟩)
            | (go_at_call 112; refine (KA.out _ (by first | exact z | exact Ext.drew z)).mono ?_; rintro e wq ⟨rfl, xq⟩; have z := (by first | exact Ext.trans z xq | exact (Ext.drew z).trans xq))
            | (go_at_call 131; refine (VA.out _ (by first | exact z | exact Ext.drew z)).mono ?_; rintro e wq ⟨rfl, xq⟩; have z := (by first | exact Ext.trans z xq | exact (Ext.drew z).trans xq))
            | (go_at_call 132; refine (GA.out _ (by first | exact z | exact Ext.drew z)).mono ?_; rintro e wq ⟨rfl, xq⟩; have z := (by first | exact Ext.trans z xq | exact (Ext.drew z).trans xq))
            | (go_at_call 74; refine (JN.out _ (by first | exact z | exact Ext.drew z)).mono ?_; rintro e wj ⟨vj, rfl, xq, tj, htj, hj, sj⟩; have z := (by first | exact Ext.trans z xq | exact (Ext.drew z).trans xq))
            | (go_at_call 35; refine (new_any k v g (TS.out _ z) htj).mono ?_; rintro e wn ⟨un, rfl, xq, bn2, rfl, hbn2, hat2⟩; have hbn3 := Nat.le_trans (HZ.out.trans z).size hbn2; have htj := htj.ext xq; have sj := sj.ext xq; have z := Ext.trans z xq))
        have tf : Tr wn (.pointer (some ⟨bn2, 0, none⟩)) (.node k v g a tj) := ⟨bn2, _, _, rfl, hat2, TS.out _ z, htj⟩
        go_wp2_with fail
        go_ret
        exact ⟨_, rfl, HZ.out.trans z, _, tf, join_left hl hr (above_asym hab) g3 hj, sh_left hat sj (HZ.out.trans z) hat2 hbn3⟩
    | false =>
      cases hT2 : topB r x l with
      | true =>
        obtain ⟨g1, g2, g3⟩ := top_left hT2
        cases r with
        | nil => cases g1
        | node k v g a b =>
          have hab : above ⟨k, v, g⟩ x = true := g2
          obtain ⟨bn, ua, ub, hbn, hat, ta, tb⟩ := R0.out _ (Ext.refl w)
          obtain rfl : pr = some ⟨bn, 0, none⟩ := by simpa using hbn
          obtain ⟨pa, rfl⟩ := ta.ptr
          obtain ⟨pb, rfl⟩ := tb.ptr
          obtain ⟨_, _, ma, mb⟩ := mayT_node.1 hr
          clear hbn
          go_enter Try.func74, Try.ntmps74
          go_wp2_with fail
          generalize w.alloc (.cells #[.int .i64 x.key, .int .i64 x.val, .int .u64 x.tag] 70) = w0 at *
          generalize w.heap.size = bx at *
          refine (new_any x.key x.val x.tag (h0 _) (h0 _)).mono ?_; rintro e w1 ⟨u1, rfl, x1, bm, rfl, hbm, hatm⟩
          have z := Ext.trans z x1
          have kx := kx.ext x1
          have tm : Tr w1 (.pointer (some ⟨bm, 0, none⟩)) (.node x.key x.val x.tag .nil .nil) := ⟨bm, _, _, rfl, hatm, rfl, rfl⟩
          go_wp2_with fail
          refine (topTwo_any (L0.out _ z) tm (R0.out _ z) hT1).mono ?_; rintro e w2 ⟨rfl, x2⟩
          have z := Ext.trans z x2
          have kx := kx.ext x2
          have tm := tm.ext x2
          go_wp2_with fail
          refine (topTwo_any (R0.out _ z) tm (L0.out _ z) hT2).mono ?_; rintro e w3 ⟨rfl, x3⟩
          have z := Ext.trans z x3
          have kx := kx.ext x3
          have tm := tm.ext x3
          clear x1 x2 x3 hatm hbm
          have HC := Lib.hid (show ∀ W : World, Ext w3 W → W.cell? ⟨bx, 0, none⟩ = some (.int .i64 x.key) ∧ W.cell? ⟨bx, 1, none⟩ = some (.int .i64 x.val) ∧ W.cell? ⟨bx, 2, none⟩ = some (.int .u64 x.tag) from fun W X => by have k := kx.ext X; exact ⟨k.cell 0, k.cell 1, k.cell 2⟩)
          have HZ := Lib.hid z
          clear z kx
          have z := Ext.refl w3
          have LA := Lib.hid (fun (W : World) (X : Ext w3 W) => left_at (hat.ext (HZ.out.trans X)))
          have RA := Lib.hid (fun (W : World) (X : Ext w3 W) => right_at (hat.ext (HZ.out.trans X)))
          have KA := fun (W : World) (X : Ext w3 W) => key_any (R0.out W (HZ.out.trans X))
          simp only [T.key] at KA
          replace KA := Lib.hid KA
          have VA := fun (W : World) (X : Ext w3 W) => val_any (R0.out W (HZ.out.trans X))
          simp only [T.val] at VA
          replace VA := Lib.hid VA
          have GA := fun (W : World) (X : Ext w3 W) => tag_any (R0.out W (HZ.out.trans X))
          simp only [T.tag] at GA
          replace GA := Lib.hid GA
          have JN := Lib.hid (fun (W : World) (X : Ext w3 W) => join_since (IH.out (l.size + a.size) (by simp only [T.size]; omega) l a _ _ x W (Nat.le_refl _) hl ma (L0.out W (HZ.out.trans X)) (ta.ext (HZ.out.trans X))) (HZ.out.trans X))
          have TS := Lib.hid (fun (W : World) (X : Ext w3 W) => tb.ext (HZ.out.trans X))
          clear hT1 hT2 g1 g2 tm L0 R0 IH
          go_wp2_with fail
          go_region_held3 (fun W => W.cell? ⟨bx, 0, none⟩ = some (.int .i64 x.key) ∧ W.cell? ⟨bx, 1, none⟩ = some (.int .i64 x.val) ∧ W.cell? ⟨bx, 2, none⟩ = some (.int .u64 x.tag)) (first | exact HC.out _ z | exact HC.out _ (Ext.drew z))
            (first
              | (go_at_call 37; refine (LA.out _ (by first | exact z | exact Ext.drew z)).mono ?_; rintro e w' ⟨rfl, rfl⟩)
              | (go_at_call 38; refine (RA.out _ (by first | exact z | exact Ext.drew z)).mono ?_; rintro e w' ⟨rfl, rfl⟩)
              | (go_at_call 112; refine (KA.out _ z).mono ?_; rintro e wq ⟨rfl, xq⟩; have htj := htj.ext xq; have sj := sj.ext xq; have z := Ext.trans z xq)
              | (go_at_call 131; refine (VA.out _ z).mono ?_; rintro e wq ⟨rfl, xq⟩; have htj := htj.ext xq; have sj := sj.ext xq; have z := Ext.trans z xq)
              | (go_at_call 132; refine (GA.out _ z).mono ?_; rintro e wq ⟨rfl, xq⟩; have htj := htj.ext xq; have sj := sj.ext xq; have z := Ext.trans z xq)
              | (go_at_call 74; refine (JN.out _ (by first | exact z | exact Ext.drew z)).mono ?_; rintro e wj ⟨vj, rfl, xq, tj, htj, hj, sj⟩; have z := (by first | exact Ext.trans z xq | exact (Ext.drew z).trans xq))
              | (go_at_call 35; refine (new_any k v g htj (TS.out _ z)).mono ?_; rintro e wn ⟨un, rfl, xq, bn2, rfl, hbn2, hat2⟩; have hbn3 := Nat.le_trans (HZ.out.trans z).size hbn2; have htj := htj.ext xq; have sj := sj.ext xq; have z := Ext.trans z xq))
          have tf : Tr wn (.pointer (some ⟨bn2, 0, none⟩)) (.node k v g tj b) := ⟨bn2, _, _, rfl, hat2, htj, TS.out _ z⟩
          go_wp2_with fail
          go_ret
          exact ⟨_, rfl, HZ.out.trans z, _, tf, join_right hl hr (above_asym hab) g3 hj, sh_right hat sj (HZ.out.trans z) hat2 hbn3⟩
      | false =>
        go_enter Try.func74, Try.ntmps74
        go_wp2_with fail
        generalize w.alloc (.cells #[.int .i64 x.key, .int .i64 x.val, .int .u64 x.tag] 70) = w0 at *
        generalize w.heap.size = bx at *
        refine (new_any x.key x.val x.tag (h0 _) (h0 _)).mono ?_; rintro e w1 ⟨u1, rfl, x1, bm, rfl, hbm, hatm⟩
        have z := Ext.trans z x1
        have kx := kx.ext x1
        have tm : Tr w1 (.pointer (some ⟨bm, 0, none⟩)) (.node x.key x.val x.tag .nil .nil) := ⟨bm, _, _, rfl, hatm, rfl, rfl⟩
        go_wp2_with fail
        refine (topTwo_any (L0.out _ z) tm (R0.out _ z) hT1).mono ?_; rintro e w2 ⟨rfl, x2⟩
        have z := Ext.trans z x2
        have kx := kx.ext x2
        have tm := tm.ext x2
        go_wp2_with fail
        refine (topTwo_any (R0.out _ z) tm (L0.out _ z) hT2).mono ?_; rintro e w3 ⟨rfl, x3⟩
        have z := Ext.trans z x3
        have kx := kx.ext x3
        have tm := tm.ext x3
        clear x1 x2 x3 hatm hbm
        go_wp2_with fail
        refine (both_anyS IH.out hl hr hT1 hT2 (L0.out _ z) tm (R0.out _ z)).mono ?_; rintro e w4 ⟨v4, rfl, x4, t4, ht4, hj4, sj4⟩
        go_wp2_with fail
        go_ret
        exact ⟨_, rfl, z.trans x4, t4, ht4, hj4, sj4.since z⟩
theorem join_anyS {l r : T} {vl vr : Value} (x : Item) {w : World} (hl : mayT l = true) (hr : mayT r = true) (tl : Tr w vl l) (tr : Tr w vr r) :
    Calls Try.prog 74 #[vl, .agg #[.int .i64 x.key, .int .i64 x.val, .int .u64 x.tag], vr] w (Gives (fun v' w' => ∃ t, Tr w' v' t ∧ Joined l x r t ∧ Sh w vl vr l r v' w') w) :=
  join_allS (l.size + r.size) l r vl vr x w (Nat.le_refl _) hl hr tl tr
end Go.Proofs.Ytlehcagpddgamaa
