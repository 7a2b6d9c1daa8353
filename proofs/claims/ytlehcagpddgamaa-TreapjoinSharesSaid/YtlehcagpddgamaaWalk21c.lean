/- The statement TreapjoinShares. -/
import Derived.Test.YtlehcagpddgamaaJoinS
import Derived.Test.YtlehcagpddgamaaAlive13
import Derived.Test.YtlehcagpddgamaaWalk21
namespace Go.Proofs.Ytlehcagpddgamaa
open Go.RowKit G

set_option maxHeartbeats 2000000 in
theorem refWay_any (left : Bool) (t : T) : ∀ {l : List Bead} {v : Value} {w : World}, Sl Bead.enc w v l → Ser l t → t.height ≤ 5001 → l.length ≤ 100000 →
    Calls Try.prog 159 #[v, .bool left] w fun e w' => e = .returned (.int .i64 ((if left then sideL t else sideR t : Nat) : Int)) ∧ Ext w w' := by
  induction t with
  | nil =>
    intro l v w h hs _ _
    obtain rfl : l = [] := hs
    obtain ⟨A, c, rfl, hc, hr⟩ := h
    have e0 : (if left = true then sideL T.nil else sideR T.nil) = 0 := by cases left <;> rfl
    rw [e0]
    clear e0
    go_enter Try.func159, Try.ntmps159
    go_wp2_with fail
    go_ret
    exact ⟨rfl, Ext.refl w⟩
  | node k x g a b iha ihb =>
    intro l v w h hs hh hm
    have hlen2 := hs.length
    obtain ⟨y, la, lb, hl, rfl, rfl, rfl, e4, e5, sa, sb, p1, p2⟩ := ser_parts hs hh
    have hlen : 0 < l.length := by rw [hl]; simp
    have hla : la.length ≤ 100000 := by rw [hl] at hm; simp at hm; omega
    have hlb : lb.length ≤ 100000 := by rw [hl] at hm; simp at hm; omega
    have zA := sideL_le a
    have zB := sideR_le b
    have lA := sa.length
    have lB := sb.length
    have z1 : sideL a ≤ 100000 := by omega
    have z2 : sideR b ≤ 100000 := by omega
    simp only [T.height] at hh
    have hp := fun (W : World) (X : Ext w W) => parts_any (h.ext X) hl (by omega) p1 p2
    have hz : ((l.length : Int) == 0) = false := by simp; intro h; rw [h] at hlen; simp at hlen
    obtain ⟨A, c, rfl, hc, hr⟩ := h
    have HP := Lib.hid hp
    clear hp hl p1 p2 e4 e5 hs hr hlen2 zA zB lA lB
    cases left with
    | true =>
      simp only [if_true, sideL] at iha ⊢
      generalize sideL a = n at *
      go_enter Try.func159, Try.ntmps159
      go_wp2_with fail
      refine (HP.out _ (Ext.refl w)).mono ?_; rintro e w1 ⟨va, vb, rfl, ha, hb, x1⟩
      have IA := iha (ha.ext (x1.alloc (.cells #[.int .i64 y.key, .int .i64 y.val, .int .i64 y.sum, .int .i64 y.size, .int .u64 y.tag, .bool y.left, .bool y.right] 138))) sa (by omega) hla
      clear iha ihb ha hb
      go_wp2_with fail
      refine IA.mono ?_; rintro e w2 ⟨rfl, x2⟩
      go_wp2_with fail
      go_ret
      exact ⟨by simp, (x1.alloc _).trans x2⟩
    | false =>
      simp only [Bool.false_eq_true, if_false, sideR] at ihb ⊢
      generalize sideR b = n at *
      go_enter Try.func159, Try.ntmps159
      go_wp2_with fail
      refine (HP.out _ (Ext.refl w)).mono ?_; rintro e w1 ⟨va, vb, rfl, ha, hb, x1⟩
      have IB := ihb (hb.ext (x1.alloc (.cells #[.int .i64 y.key, .int .i64 y.val, .int .i64 y.sum, .int .i64 y.size, .int .u64 y.tag, .bool y.left, .bool y.right] 138))) sb (by omega) hlb
      clear iha ihb ha hb
      go_wp2_with fail
      refine IB.mono ?_; rintro e w2 ⟨rfl, x2⟩
      go_wp2_with fail
      go_ret
      exact ⟨by simp, (x1.alloc _).trans x2⟩
set_option maxHeartbeats 2000000 in
theorem refMost_any {a b : T} {la lb : List Bead} {va vb : Value} {w : World} (ha : Sl Bead.enc w va la) (sa : Ser la a) (hb : Sl Bead.enc w vb lb) (sb : Ser lb b) (h1 : a.height ≤ 5001) (h2 : b.height ≤ 5001) (h3 : la.length ≤ 10000) (h4 : lb.length ≤ 10000) :
    Calls Try.prog 93 #[va, vb] w fun e w' => e = .returned (.int .i64 ((sideR a : Int) + sideL b + 1)) ∧ Ext w w' := by
  have WA := refWay_any false a ha sa h1 (by omega)
  have WB := fun (W : World) (X : Ext w W) => refWay_any true b (hb.ext X) sb h2 (by omega)
  have b1 := sideR_le a
  have b2 := sideL_le b
  have lA := sa.length
  have lB := sb.length
  simp only [Bool.false_eq_true, if_false, if_true] at WA WB
  have c1 : sideR a ≤ 10000 := by omega
  have c2 : sideL b ≤ 10000 := by omega
  generalize sideR a = n at *
  generalize sideL b = m at *
  have WB := Lib.hid WB
  clear b1 b2 lA lB ha sa hb sb
  go_enter Try.func93, Try.ntmps93
  go_wp2_with fail
  refine WA.mono ?_; rintro e w1 ⟨rfl, x1⟩
  go_wp2_with fail
  refine (WB.out _ x1).mono ?_; rintro e w2 ⟨rfl, x2⟩
  go_wp2_with fail
  go_ret
  exact ⟨rfl, x1.trans x2⟩
theorem sub_len : ∀ {a N : List Nat}, a.Nodup → (∀ x ∈ a, x ∈ N) → a.length ≤ N.length
  | [], N, _, _ => Nat.zero_le _
  | x :: a, N, hn, hs => by
    have hn := List.nodup_cons.1 hn
    have hx := hs x (by simp)
    have h1 := sub_len (a := a) (N := N.erase x) hn.2 (fun y hy => (List.mem_erase_of_ne (fun e => by subst e; exact hn.1 hy)).2 (hs y (by simp [hy])))
    rw [List.length_erase_of_mem hx] at h1
    have := List.length_pos_of_mem hx
    simp only [List.length_cons]
    omega
section
variable {f : Nat → G} {g : G} {l : List G}
theorem newN_few {N : List Nat} (hf : byF f g) (hl : ∀ t ∈ l, byF f t) (hs : ∀ i ∈ g.ids, (∃ t ∈ l, i ∈ t.ids) ∨ i ∈ N) : newN g (allG l) ≤ N.length := by
  obtain ⟨w, n, m⟩ := allG_spec hl
  have h1 := sub_len (a := fr g (allG l)) (N := allG l ++ N) (nodup_fr hf (w.shut g) n) fun x hx => by
    rw [mem_fr hf (w.shut g)] at hx
    rw [List.mem_append]
    rcases hx with hx | hx
    · exact .inl hx
    · rcases hs x hx with h | h
      · exact .inl ((m x).2 h)
      · exact .inr h
  unfold newN
  rw [List.length_append] at h1
  omega
theorem newN_some {b : Nat} (hf : byF f g) (hl : ∀ t ∈ l, byF f t) (hb : b ∈ g.ids) (hn : ∀ t ∈ l, b ∉ t.ids) : 1 ≤ newN g (allG l) := by
  obtain ⟨w, n, m⟩ := allG_spec hl
  have h1 := sub_len (a := b :: allG l) (N := fr g (allG l)) (List.nodup_cons.2 ⟨fun h => by
    obtain ⟨t, ht, hx⟩ := (m b).1 h
    exact hn t ht hx, n⟩) fun x hx => by
    rw [mem_fr hf (w.shut g)]
    rcases List.mem_cons.1 hx with rfl | hx
    · exact .inr hb
    · exact .inl hx
  unfold newN
  rw [List.length_cons] at h1
  omega
end
theorem Tr.grs_len {w : World} : ∀ {t : T} {v : Value} {g : G}, Tr w v t → GrS w v g → g.ids.length = t.size
  | .nil, _, .nil, _, _ => rfl
  | .nil, _, .nd _ _ _, h, h' => by
    obtain ⟨k, x, g, tl, tr, vl, vr, hv, _⟩ := h'
    rw [show _ = Value.pointer none from h] at hv; cases hv
  | .node _ _ _ _ _, _, .nil, h, h' => by
    obtain ⟨b, vl, vr, hv, _⟩ := h
    rw [show _ = Value.pointer none from h'] at hv; cases hv
  | .node _ _ _ _ _, _, .nd _ _ _, h, h' => by
    obtain ⟨b, vl, vr, hv, ha, hl, hr⟩ := h
    obtain ⟨k', x', g', tl', tr', vl', vr', hv', ha', hl', hr'⟩ := h'
    rw [hv] at hv'
    injection hv' with e; injection e with e; injection e with e
    subst e
    obtain ⟨rfl, rfl⟩ := ha.sides ha'
    have h1 := Tr.grs_len hl hl'
    have h2 := Tr.grs_len hr hr'
    simp only [ids, List.length_cons, List.length_append, T.size]
    omega
theorem new2_is {f : Nat → G} {g g2 g3 : G} {q q2 q3 : Option Addr} {W : World} {n : Int} (hq : GrS W (.pointer q) g) (hf : byF f g) (hq2 : GrS W (.pointer q2) g2) (hf2 : byF f g2) (hq3 : GrS W (.pointer q3) g3) (hf3 : byF f g3) (hg : g.ids.length ≤ 1000000) (hg2 : g2.ids.length ≤ 1000000) (hg3 : g3.ids.length ≤ 1000000) (hn : ((newN g (allG [g2, g3]) : Nat) : Int) = n) :
    Calls Try.prog 66 #[.pointer q, .slice (some ⟨W.heap.size, 0, none⟩) 2 2] (W.alloc (.cells #[.pointer q2, .pointer q3] 26)) fun e w' => e = .returned (.int .i64 n) ∧ Ext W w' := by
  subst hn
  have x := (Ext.refl W).alloc (.cells #[.pointer q2, .pointer q3] 26)
  have hs : Sl EG (W.alloc (.cells #[.pointer q2, .pointer q3] 26)) (.slice (some ⟨W.heap.size, 0, none⟩) 2 2) [(q2, g2), (q3, g3)] :=
    (Own.lit EG_len W [(q2, g2), (q3, g3)] #[.pointer q2, .pointer q3] rfl (Nat.le_refl _) (by simp [maxLen])).sl EG_len (by omega)
  have ht : Trees f (W.alloc (.cells #[.pointer q2, .pointer q3] 26)) [(q2, g2), (q3, g3)] := fun p hp => by
    simp only [List.mem_cons, List.not_mem_nil, or_false] at hp
    rcases hp with rfl | rfl
    · exact ⟨hq2.ext x, hf2⟩
    · exact ⟨hq3.ext x, hf3⟩
  exact (newS_any hs ht (hq.ext x) hf (by simp) (fun p hp => by
    simp only [List.mem_cons, List.not_mem_nil, or_false] at hp
    rcases hp with rfl | rfl <;> assumption) hg).mono fun e w' h => ⟨h.1, x.trans h.2⟩
theorem most_is {l r : T} {vl vr : Value} {w : World} {m : Int} (hl : Tr w vl l) (hr : Tr w vr r) (h1 : l.size ≤ 1000000) (h2 : r.size ≤ 1000000) (hm : (sideR l : Int) + sideL r + 1 = m) :
    Calls Try.prog 92 #[vl, vr] w fun e w' => e = .returned (.int .i64 m) ∧ w' = w := by
  subst hm; exact most_any hl hr h1 h2
theorem refMost_is {a b : T} {la lb : List Bead} {va vb : Value} {w : World} {m : Int} (ha : Sl Bead.enc w va la) (sa : Ser la a) (hb : Sl Bead.enc w vb lb) (sb : Ser lb b) (h1 : a.height ≤ 5001) (h2 : b.height ≤ 5001) (h3 : la.length ≤ 10000) (h4 : lb.length ≤ 10000) (hm : (sideR a : Int) + sideL b + 1 = m) :
    Calls Try.prog 93 #[va, vb] w fun e w' => e = .returned (.int .i64 m) ∧ Ext w w' := by
  subst hm; exact refMost_any ha sa hb sb h1 h2 h3 h4
set_option maxRecDepth 100000 in
set_option maxHeartbeats 8000000 in
theorem treapjoinShares_walk {l m : List Bead} {v u : Value} {w : World} (x : Item) (h : Sl Bead.enc w v l) (k : Sl Bead.enc w u m) (hm : l.length ≤ maxLen) (km : m.length ≤ maxLen) :
    Calls Try.prog 20 #[v, u, .agg #[.int .i64 x.key, .int .i64 x.val, .int .u64 x.tag]] w fun e w' => e = .returned (.bool true) ∧ Ext w w' := by
  have z := (Ext.refl w).alloc (.cells #[.int .i64 x.key, .int .i64 x.val, .int .u64 x.tag] 70)
  have kx := Blk.new w 70 #[.int .i64 x.key, .int .i64 x.val, .int .u64 x.tag]
  have lg := long21_any (h.ext z) (k.ext z) hm km
  go_enter Try.func20, Try.ntmps20
  go_wp2_with fail
  generalize w.alloc (.cells #[.int .i64 x.key, .int .i64 x.val, .int .u64 x.tag] 70) = w0 at *
  generalize w.heap.size = bx at *
  refine (lg).mono ?_; rintro e w1 ⟨q, rfl, x1, hq⟩
  have kx := kx.ext x1
  have HZ := Lib.hid (z.trans x1)
  clear lg z x1
  have z := Ext.refl w1
  cases q with
  | true =>
    go_wp2_with fail
    refine (alive21 _).mono ?_; rintro e w2 ⟨rfl, x2⟩
    go_wp2_with fail
    go_ret
    exact ⟨rfl, HZ.out.trans x2⟩
  | false =>
    obtain ⟨a, b, sa, sb, ha4, hb4, ma, mb⟩ := hq rfl
    have g1 := a.height_le_size
    have g2 := b.height_le_size
    have la := sa.length
    have lb := sb.length
    have MA := Lib.hid (fun (W : World) (X : Ext w1 W) => make_any a (h.ext (HZ.out.trans X)) sa (by omega) (by omega))
    have MB := Lib.hid (fun (W : World) (X : Ext w1 W) => make_any b (k.ext (HZ.out.trans X)) sb (by omega) (by omega))
    obtain ⟨mo, hmo⟩ : ∃ mo : Int, (sideR a : Int) + sideL b + 1 = mo := ⟨_, rfl⟩
    have RM := Lib.hid (fun (W : World) (X : Ext w1 W) => refMost_is (h.ext (HZ.out.trans X)) sa (k.ext (HZ.out.trans X)) sb (by omega) (by omega) (by omega) (by omega) hmo)
    have HMO := Lib.hid hmo
    clear h k hq sa sb la lb hmo
    go_wp2_with fail
    refine (MA.out _ z).mono ?_; rintro e w2 ⟨va, rfl, x2, ta⟩
    have z := Ext.trans z x2
    go_wp2_with fail
    refine (MB.out _ z).mono ?_; rintro e w3 ⟨vb, rfl, x3, tb⟩
    have z := Ext.trans z x3
    have ta := ta.ext x3
    obtain ⟨pa, rfl⟩ := ta.ptr
    obtain ⟨pb, rfl⟩ := tb.ptr
    clear x2 x3
    have kx := kx.ext z
    have c0 := kx.cell 0
    have c1 := kx.cell 1
    have c2 := kx.cell 2
    go_wp2_with fail
    refine (join_anyS x ma mb ta tb).mono ?_; rintro e w6 ⟨v6, rfl, x6, t, tt, hj, sj⟩
    have hsz := joined_size hj
    obtain ⟨ga, gsa⟩ := ta.grs
    obtain ⟨gb, gsb⟩ := tb.grs
    obtain ⟨g, N, gst, hN, hsub, bt, rfl, hbt⟩ := sj ga gb gsa gsb
    have n1 := Tr.grs_len ta gsa
    have n2 := Tr.grs_len tb gsb
    have n3 := Tr.grs_len tt gst
    obtain ⟨f, hf⟩ := GrS.all w6
    have fa := hf (gsa.ext x6)
    have fb := hf (gsb.ext x6)
    have fg := hf gst
    have la3 := gsa.lt
    have lb3 := gsb.lt
    have hroot : bt ∈ g.ids := by
      cases g with
      | nil => cases (show Value.pointer (some _) = Value.pointer none from gst)
      | nd b0 gl gr =>
        obtain ⟨_, _, _, _, _, _, _, hv, _⟩ := gst
        injection hv with e; injection e with e; injection e with e
        subst e
        simp [ids]
    have few := newN_few (f := f) (l := [ga, gb]) (N := N) fg (by simp [fa, fb]) (fun i hi => by
      rcases hsub i hi with h | h | h
      · exact .inl ⟨ga, by simp, h⟩
      · exact .inl ⟨gb, by simp, h⟩
      · exact .inr h)
    have some' := newN_some (f := f) (l := [ga, gb]) fg (by simp [fa, fb]) hroot (fun t ht hx => by
      simp only [List.mem_cons, List.not_mem_nil, or_false] at ht
      rcases ht with rfl | rfl
      · have := la3 bt hx; omega
      · have := lb3 bt hx; omega)
    obtain ⟨n, hn⟩ : ∃ n : Nat, newN g (allG [ga, gb]) = n := ⟨_, rfl⟩
    rw [hn] at few some'
    have gsa' := gsa.ext x6
    have gsb' := gsb.ext x6
    have NW := Lib.hid (fun (W : World) (X : Ext w6 W) => new2_is (f := f) (n := (n : Int)) (gst.ext X) fg (gsa'.ext X) fa (gsb'.ext X) fb (by omega) (by omega) (by omega) (by rw [hn]))
    have hmo := HMO.out
    have hle : (n : Int) ≤ mo := by omega
    have hge : (1 : Int) ≤ (n : Int) := by omega
    have MO := Lib.hid (fun (W : World) (X : Ext w6 W) => most_is ((ta.ext x6).ext X) ((tb.ext x6).ext X) (by omega) (by omega) hmo)
    have Z6 := Lib.hid (z.trans x6)
    clear gsa gsb gst n1 n2 n3 fa fb fg hf la3 lb3 hroot few some' hn gsa' gsb' hmo hN hsub sj hj tt ta tb hbt kx c0 c1 c2 MA MB hsz z x6
    have y := Ext.refl w6
    go_wp2_with fail
    refine (MO.out _ y).mono ?_; rintro e w' ⟨rfl, rfl⟩
    go_wp2_with fail
    refine (RM.out _ Z6.out).mono ?_; rintro e w7 ⟨rfl, x7⟩
    have y := y.trans x7
    clear x7
    go_wp2_with fail
    refine (NW.out _ y).mono ?_; rintro e w8 ⟨rfl, x8⟩
    have y := y.trans x8
    clear x8
    go_wp2_with fail
    refine (NW.out _ y).mono ?_; rintro e w9 ⟨rfl, x9⟩
    have y := y.trans x9
    clear x9
    go_wp2_with fail
    refine (alive21 _).mono ?_; rintro e w10 ⟨rfl, x10⟩
    go_wp2_with fail
    go_ret
    exact ⟨rfl, (HZ.out.trans Z6.out).trans (y.trans x10)⟩
end Go.Proofs.Ytlehcagpddgamaa
