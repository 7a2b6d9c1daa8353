/- The statement ShareAlike. -/
import Derived.Test.YtlehcagpddgamaaAlive13
import Derived.Test.YtlehcagpddgamaaWalk09
import Derived.Test.YtlehcagpddgamaaWith
namespace Go.Proofs.Ytlehcagpddgamaa
open Go.RowKit G

section
variable {f : Nat → G}
theorem fr_len_nodup {g : G} (hf : byF f g) (hn : g.ids.Nodup) : (fr g []).length = g.ids.length :=
  len_same (nodup_fr hf (Whole.nil.shut g) List.nodup_nil) hn fun x => by rw [mem_fr hf (Whole.nil.shut g)]; simp
theorem newN_apart {g o : G} (hf : byF f g) (ho : byF f o) (hn : g.ids.Nodup) (hd : ∀ i ∈ g.ids, i ∉ o.ids) : newN g (allG [o]) = g.ids.length := by
  obtain ⟨w, n, m⟩ := allG_spec (f := f) (l := [o]) (by simp [ho])
  have e := len_same (nodup_fr hf (w.shut g) n) (List.nodup_append.2 ⟨n, hn, fun a ha b hb e => by
    subst e
    obtain ⟨t, ht, hx⟩ := (m a).1 ha
    simp only [List.mem_singleton] at ht
    subst ht
    exact hd a hb hx⟩) fun x => by rw [mem_fr hf (w.shut g), List.mem_append]
  unfold newN
  rw [e, List.length_append]
  omega
theorem newN_self {g : G} (hf : byF f g) : newN g (allG [g]) = 0 := by
  obtain ⟨w, n, m⟩ := allG_spec (f := f) (l := [g]) (by simp [hf])
  exact new_none hf w n fun x hx => (m x).2 ⟨g, by simp, hx⟩
theorem tops_apart {g o : G} (hf : byF f g) (ho : byF f o) (hd : ∀ i ∈ g.ids, i ∉ o.ids) : (tp (allG [o]) g [] []).2 = [] := by
  obtain ⟨h, _⟩ := tops_spec hf ho rfl
  apply List.eq_nil_iff_forall_not_mem.2
  intro c hc
  obtain ⟨h1, h2, _⟩ := h c hc
  exact hd c h2 h1
theorem newN_with {b bn : Nat} {p q : G} (hf : byF f (.nd bn p q)) (ho : byF f (.nd b p q)) (hb : bn ≠ b) : newN (.nd bn p q) (allG [.nd b p q]) = 1 := by
  have nl := not_left hf
  have nr := not_right hf
  obtain ⟨w, n, m⟩ := allG_spec (f := f) (l := [.nd b p q]) (by simp [ho])
  have hm : ∀ x, x ∈ allG [.nd b p q] ↔ x = b ∨ x ∈ p.ids ∨ x ∈ q.ids := fun x => by rw [m]; simp [ids]
  have e := len_same (b := bn :: allG [.nd b p q]) (nodup_fr hf (w.shut _) n) (List.nodup_cons.2 ⟨by rw [hm]; simp [hb, nl, nr], n⟩) fun x => by
    rw [mem_fr hf (w.shut _), List.mem_cons, hm]
    simp only [ids, List.mem_cons, List.mem_append]
    constructor
    · rintro ((h | h | h) | (h | h | h)) <;> simp [h]
    · rintro (h | h | h | h) <;> simp [h]
  unfold newN
  rw [e, List.length_cons]
  omega
end
set_option maxRecDepth 100000 in
set_option maxHeartbeats 8000000 in
theorem shareAlike_walk {l : List Bead} {v : Value} {w : World} (h : Sl Bead.enc w v l) (hm : l.length ≤ maxLen) :
    Calls Try.prog 15 #[v] w fun e w' => e = .returned (.bool true) ∧ Ext w w' := by
  unfold maxLen at hm
  have hlong := long_any h (by omega)
  obtain ⟨A, c, rfl, hc, hr⟩ := id h
  cases hL : (decide (400 < l.length) || !mayL l) with
  | true =>
    rw [hL] at hlong
    clear hL h hr
    go_enter Try.func15, Try.ntmps15
    go_wp2_with fail
    refine (hlong).mono ?_; rintro e w' ⟨rfl, rfl⟩
    go_wp2_with fail
    refine (alive13 _).mono ?_; rintro e w1 ⟨rfl, x1⟩
    go_wp2_with fail
    go_ret
    exact ⟨rfl, x1⟩
  | false =>
    rw [hL] at hlong
    obtain ⟨h400, t, ht, hts, hth⟩ := short_of hL
    clear hL
    by_cases h100 : 100 < l.length
    · have d1 : decide ((100 : Int) < (l.length : Int)) = true := by simp; omega
      clear h hr ht h100
      go_enter Try.func15, Try.ntmps15
      go_wp2_with fail
      refine (hlong).mono ?_; rintro e w' ⟨rfl, rfl⟩
      go_wp2_with fail
      refine (alive13 _).mono ?_; rintro e w1 ⟨rfl, x1⟩
      go_wp2_with fail
      go_ret
      exact ⟨rfl, x1⟩
    · have d1 : decide ((100 : Int) < (l.length : Int)) = false := by simp; omega
      have MK := Lib.hid (fun (W : World) (X : Ext w W) => make_anyS t (h.ext X) ht (by omega) (by omega))
      have hsz : t.size = l.length := by have := ht.length; omega
      have HT := Lib.hid hsz
      have hle : l.length ≤ 100 := by omega
      have HLE := Lib.hid hle
      clear h hr ht h100 hsz hle hts hth h400
      go_enter Try.func15, Try.ntmps15
      go_wp2_with fail
      refine (hlong).mono ?_; rintro e w' ⟨rfl, rfl⟩
      go_wp2_with fail
      refine (MK.out _ (Ext.refl w)).mono ?_; rintro e w1 ⟨va, rfl, x1, ta, na⟩
      go_wp2_with fail
      refine (MK.out _ x1).mono ?_; rintro e w2 ⟨vb, rfl, x2, tb, nb⟩
      obtain ⟨ga, a1, a2, a3, a4⟩ := na
      obtain ⟨gb, b1, b2, b3, b4⟩ := nb
      have alt := a1.lt
      have hd : ∀ i ∈ ga.ids, i ∉ gb.ids := fun i hi hj => by have := alt i hi; have := b4 i hj; omega
      have hal : ga.ids.length = l.length := by rw [a3, HT.out]
      have hbl : gb.ids.length = l.length := by rw [b3, HT.out]
      have k100 := HLE.out
      obtain ⟨f, hf⟩ := GrS.all w2
      have fa := hf (a1.ext x2)
      have fb := hf b1
      have a1' := a1.ext x2
      have ta' := ta.ext x2
      obtain ⟨pa, rfl⟩ := ta.ptr
      obtain ⟨pb, rfl⟩ := tb.ptr
      have SM := Lib.hid (fun (W : World) (X : Ext w2 W) => same1_is (f := f) (n := 0) (a1'.ext X) fa (b1.ext X) fb (by omega) (by omega) (by rw [fr_len_nodup fa a2, newN_apart fa fb a2 hd]; omega))
      have N1 := Lib.hid (fun (W : World) (X : Ext w2 W) => new1_is (f := f) (n := (l.length : Int)) (a1'.ext X) fa (b1.ext X) fb (by omega) (by omega) (by rw [newN_apart fa fb a2 hd, hal]))
      have N2 := Lib.hid (fun (W : World) (X : Ext w2 W) => new1_is (f := f) (n := 0) (a1'.ext X) fa (a1'.ext X) fa (by omega) (by omega) (by rw [newN_self fa]; rfl))
      have ND := Lib.hid (fun (W : World) (X : Ext w2 W) => nodes1_is (f := f) (n := (l.length : Int)) (a1'.ext X) fa (by rw [fr_len_nodup fa a2, hal]))
      have TP := Lib.hid (fun (W : World) (X : Ext w2 W) => tops1_is (f := f) (L := []) (a1'.ext X) (b1.ext X) fb (by omega) (tops_apart fa fb hd))
      have HA := Lib.hid a1'
      have HTA := Lib.hid ta'
      have Z := Lib.hid (x1.trans x2)
      have HAL := Lib.hid hal
      have y := Ext.refl w2
      clear a1 a2 a3 a4 b1 b2 b3 b4 alt hd hal hbl k100 fa fb hf a1' ta' ta tb x1 x2 f MK
      go_wp2_with fail
      refine (SM.out _ y).mono ?_; rintro e w3 ⟨rfl, x3⟩
      have y := y.trans x3
      clear x3
      go_wp2_with fail
      refine (N1.out _ y).mono ?_; rintro e w4 ⟨rfl, x4⟩
      have y := y.trans x4
      clear x4
      go_wp2_with fail
      refine (N2.out _ y).mono ?_; rintro e w5 ⟨rfl, x5⟩
      have y := y.trans x5
      clear x5
      go_wp2_with fail
      refine (ND.out _ y).mono ?_; rintro e w6 ⟨rfl, x6⟩
      have y := y.trans x6
      clear x6
      go_wp2_with fail
      refine (TP.out _ y).mono ?_; rintro e w7 ⟨A7, c7, rfl, x7, _⟩
      have y := y.trans x7
      clear x7 SM N1 N2 ND TP
      cases t with
      | nil =>
        have hl0 : (l.length : Int) = 0 := by have := HT.out; simp [T.size] at this; omega
        obtain rfl : pa = none := by have := HTA.out; simpa [Tr] using this
        have hga := HA.out
        obtain ⟨f, hf⟩ := GrS.all w7
        have NN := Lib.hid (fun (W : World) (X : Ext w7 W) => new1_is (W := W) (f := f) (q := none) (q2 := none) (g := .nil) (g2 := .nil) (n := 0) rfl trivial rfl trivial (by simp [ids]) (by simp [ids]) rfl)
        go_wp2_with fail
        refine (with_nil _ _ _).mono ?_; rintro e w8 ⟨rfl, rfl⟩
        go_wp2_with fail
        refine (NN.out _ (Ext.refl _)).mono ?_; rintro e w9 ⟨rfl, x9⟩
        go_wp2_with fail
        refine (alive13 _).mono ?_; rintro e w10 ⟨rfl, x10⟩
        go_wp2_with fail
        go_ret
        exact ⟨rfl, Z.out.trans (y.trans (x9.trans x10))⟩
      | node k x g tl tr =>
        obtain ⟨b, vl, vr, e0, hat, hl, hr⟩ := HTA.out
        obtain rfl : pa = some ⟨b, 0, none⟩ := by injection e0
        obtain ⟨pl, rfl⟩ := hl.ptr
        obtain ⟨pr, rfl⟩ := hr.ptr
        have WT := with_at 1 1 (hat.ext y) (hl.ext y) (hr.ext y)
        go_wp2_with fail
        refine WT.mono ?_; rintro e w8 ⟨u8, rfl, x8, bn, rfl, hbn, hat8⟩
        have hbl := Blk.lt hat
        have y8 := y.trans x8
        obtain ⟨f, hf⟩ := GrS.all w8
        have hga := HA.out.ext y8
        have h1l : 1 ≤ l.length := by have := HT.out; simp [T.size] at this; omega
        have hys := y.size
        cases ga with
        | nil => cases (show Value.pointer (some _) = Value.pointer none from hga)
        | nd b0 gl gr =>
          have fg := hf hga
          obtain ⟨k', v', g', tl', tr', ul, ur, hv, ha', q1, q2⟩ := id hga
          obtain rfl : b = b0 := by injection hv with e; injection e with e; injection e
          obtain ⟨rfl, rfl⟩ := (hat.ext y8).sides ha'
          have hgc : GrS w8 (.pointer (some ⟨bn, 0, none⟩)) (.nd bn gl gr) := ⟨_, _, _, _, _, _, _, rfl, hat8, q1, q2⟩
          have hkl := HAL.out
          have hk2 := HLE.out
          have hkc : (G.nd bn gl gr).ids.length ≤ 1000000 := by simp only [ids, List.length_cons] at hkl ⊢; omega
          have NN := new1_is (f := f) (n := 1) hgc (hf hgc) hga fg hkc (by omega) (by rw [newN_with (hf hgc) fg (by omega)]; rfl)
          have mn : ∀ W : World, (Builtin.min_ #[3, 3] 3 #[.int .i64 (l.length : Int), .int .i64 1]).run Try.prog W = .ok (.int .i64 1) W := fun W => by
            have e : (if (1 : Int) < (l.length : Int) then (1 : Int) else (l.length : Int)) = 1 := by split <;> omega
            simp [Builtin.min_, Builtin.min2, e]
          have Y8 := Lib.hid y8
          clear hga fg hf q1 q2 ha' hgc hkl hk2 hkc hat8 hat hl hr y8 hbl hys h1l y x8
          go_wp2_with fail
          refine NN.mono ?_; rintro e w9 ⟨rfl, x9⟩
          go_wp2_with fail
          refine (alive13 _).mono ?_; rintro e w10 ⟨rfl, x10⟩
          go_wp2_with fail
          go_ret
          exact ⟨rfl, Z.out.trans (Y8.out.trans (x9.trans x10))⟩
end Go.Proofs.Ytlehcagpddgamaa
