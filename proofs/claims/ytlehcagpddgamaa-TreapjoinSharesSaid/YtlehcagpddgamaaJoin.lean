/- Package treapjoin: Join, both. -/
import Derived.Test.YtlehcagpddgamaaJoinLaw
import Derived.Test.YtlehcagpddgamaaTreapB
import Derived.Deep.RegionHeld3
namespace Go.Proofs.Ytlehcagpddgamaa
open Go.RowKit

/-- A pointer's cell, and the tree that it leads to. -/
def EP (p : Option Addr × T) : List Value := [.pointer p.1]
theorem EP_len (p : Option Addr × T) : (EP p).length = 1 := rfl
/-- Does a root stand above all others that are there? -/
def aboveAll (a : T) (l : List (Option Addr × T)) : Bool := l.all fun p => !p.2.some || overT a p.2
theorem aboveAll_take {a : T} {l : List (Option Addr × T)} {k : Nat} {p : Option Addr × T} (hp : l[k]? = some p) (h : aboveAll a (l.take k) = true) (e : (!p.2.some || overT a p.2) = true) : aboveAll a (l.take (k + 1)) = true := by
  unfold aboveAll at *
  rw [List.take_add_one, hp, List.all_append, h]
  simpa using e
theorem aboveAll_no {a : T} {l : List (Option Addr × T)} {k : Nat} {p : Option Addr × T} (hp : l[k]? = some p) (e : (!p.2.some || overT a p.2) = false) : aboveAll a l = false := by
  unfold aboveAll
  rw [List.all_eq_false]
  exact ⟨p, List.mem_of_getElem? hp, by simpa using e⟩

set_option maxRecDepth 100000 in
set_option maxHeartbeats 4000000 in
theorem topIs_any {a : T} {v vo : Value} {l : List (Option Addr × T)} {w : World} (h : Tr w v a) (ho : Sl EP w vo l) (ht : ∀ p ∈ l, Tr w (.pointer p.1) p.2) (hm : l.length ≤ 10) :
    Calls Try.prog 149 #[v, vo] w fun e w' => e = .returned (.bool (aboveAll a l && a.some)) ∧ Ext w w' := by
  obtain ⟨A, c, rfl, hc, hr⟩ := ho
  obtain ⟨pa, rfl⟩ := h.ptr
  have hna := neq_nil h
  have HA := Lib.hid (fun (W : World) (X : Ext w W) => h.ext X)
  have HT := Lib.hid ht
  clear h ht
  go_enter Try.func149, Try.ntmps149
  go_wp2_with fail
  go_loopw [9] (fun i wr => ∃ k : Nat, k ≤ l.length ∧ i = .int .i64 k ∧ aboveAll a (l.take k) = true ∧ Ext w wr) (fun i _ => l.length - (intOf i).toNat)
  case atStart => exact ⟨0, Nat.zero_le _, rfl, rfl, Ext.refl w⟩
  case round =>
    obtain ⟨k, hk, rfl, hall, hx⟩ := hrel
    have HL := Lib.hid hall
    clear hall
    by_cases hlt : k < l.length
    · obtain ⟨b, off, rfl, hb, hcs⟩ := hr (by intro h; rw [h] at hlt; simp at hlt)
      have hxk : l[k]? = some l[k] := List.getElem?_eq_getElem hlt
      have htp := HT.out l[k] (List.getElem_mem hlt)
      generalize l[k] = p at hxk htp
      have cx := Cells.elem EP_len (hcs.ext hx hb) hxk 0 _ rfl
      rw [Nat.mul_one, Nat.add_zero] at cx
      have hnp := neq_nil htp
      have hlt2 : (k : Int) < (l.length : Int) := by omega
      have ab := aboveN_any (HA.out _ hx) (htp.ext hx)
      have HK := Lib.hid hxk
      have HX := Lib.hid hx
      clear hxk htp hcs hr hx
      cases hs : p.2.some with
      | false =>
        rw [hs] at hnp
        have HE := Lib.hid (show (!p.2.some || overT a p.2) = true by rw [hs]; rfl)
        clear hs ab
        go_wp2_with fail
        exact ⟨⟨k + 1, by omega, by go_num, aboveAll_take HK.out HL.out HE.out, HX.out⟩, by simp [intOf]; omega⟩
      | true =>
        rw [hs] at hnp
        cases hv : overT a p.2 with
        | true =>
          have HE := Lib.hid (show (!p.2.some || overT a p.2) = true by rw [hs, hv]; rfl)
          rw [hv] at ab
          clear hs hv
          go_wp2_with fail
          refine (ab).mono ?_; rintro e wa ⟨rfl, xa⟩
          go_wp2_with fail
          exact ⟨⟨k + 1, by omega, by go_num, aboveAll_take HK.out HL.out HE.out, HX.out.trans xa⟩, by simp [intOf]; omega⟩
        | false =>
          have HE := Lib.hid (show (!p.2.some || overT a p.2) = false by rw [hs, hv]; rfl)
          rw [hv] at ab
          clear hs hv
          go_wp2_with fail
          refine (ab).mono ?_; rintro e wa ⟨rfl, xa⟩
          go_wp2_with fail
          go_ret
          exact ⟨congrArg (fun c => Ending.returned (.bool c)) (by rw [aboveAll_no HK.out HE.out]; rfl), HX.out.trans xa⟩
    · have hge : l.length ≤ k := by omega
      go_wp2_with fail
      go_ret
      exact ⟨congrArg (fun c => Ending.returned (.bool c)) (by have := HL.out; rw [List.take_of_length_le hge] at this; rw [this]; rfl), hx⟩
theorem top_all {a c : T} {x : Item} {pb pc : Option Addr} : (aboveAll a [(pb, .node x.key x.val x.tag .nil .nil), (pc, c)] && a.some) = topB a x c := by
  have e1 : T.some (.node x.key x.val x.tag .nil .nil) = true := rfl
  have e2 : T.item (.node x.key x.val x.tag .nil .nil) = x := rfl
  unfold aboveAll topB overT
  simp only [List.all_cons, List.all_nil, e1, e2]
  generalize a.some = p
  generalize c.some = q
  generalize above a.item x = r
  generalize above a.item c.item = s
  cases p <;> cases q <;> cases r <;> cases s <;> rfl
/-- The two calls of Join's closure. -/
theorem topTwo_any {a c : T} {va : Value} {pb pc : Option Addr} {x : Item} {w0 : World} {q : Bool} (h : Tr w0 va a) (hb : Tr w0 (.pointer pb) (.node x.key x.val x.tag .nil .nil)) (hc : Tr w0 (.pointer pc) c) (hr : topB a x c = q) :
    Calls Try.prog 149 #[va, .slice (some ⟨w0.heap.size, 0, none⟩) 2 2] (w0.alloc (.cells #[.pointer pb, .pointer pc] 26)) fun e w' => e = .returned (.bool q) ∧ Ext w0 w' := by
  have al := (Ext.refl w0).alloc (.cells #[.pointer pb, .pointer pc] 26)
  have hs : Sl EP (w0.alloc (.cells #[.pointer pb, .pointer pc] 26)) (.slice (some ⟨w0.heap.size, 0, none⟩) 2 2) [(pb, .node x.key x.val x.tag .nil .nil), (pc, c)] :=
    (Own.lit EP_len w0 [(pb, .node x.key x.val x.tag .nil .nil), (pc, c)] #[.pointer pb, .pointer pc] rfl (Nat.le_refl _) (by simp [maxLen])).sl EP_len (by omega)
  have := topIs_any (h.ext al) hs (fun p hp => by
    simp only [List.mem_cons, List.not_mem_nil, or_false] at hp
    rcases hp with rfl | rfl
    · exact hb.ext al
    · exact hc.ext al) (by simp)
  rw [top_all, hr] at this
  exact this.mono fun e w' ⟨h1, h2⟩ => ⟨h1, al.trans h2⟩
/-- The contract of Join, for two of at most so many nodes. -/
def JoinsTo (n : Nat) : Prop := ∀ (l r : T) (vl vr : Value) (x : Item) (w : World), l.size + r.size ≤ n → mayT l = true → mayT r = true → Tr w vl l → Tr w vr r →
  Calls Try.prog 74 #[vl, .agg #[.int .i64 x.key, .int .i64 x.val, .int .u64 x.tag], vr] w (Gives (fun v' w' => ∃ t, Tr w' v' t ∧ Joined l x r t) w)

set_option maxRecDepth 100000 in
set_option maxHeartbeats 8000000 in
/-- both: neither root stands above both others. -/
theorem both_any {l r : T} {vl vm vr : Value} {x : Item} {w : World} (IH : ∀ n, n < l.size + r.size → JoinsTo n) (hl : mayT l = true) (hr : mayT r = true) (h1 : topB l x r = false) (h2 : topB r x l = false)
    (tl : Tr w vl l) (tm : Tr w vm (.node x.key x.val x.tag .nil .nil)) (tr : Tr w vr r) :
    Calls Try.prog 150 #[vl, vm, vr] w (Gives (fun v' w' => ∃ t, Tr w' v' t ∧ Joined l x r t) w) := by
  obtain ⟨pl, rfl⟩ := tl.ptr
  obtain ⟨pm, rfl⟩ := tm.ptr
  obtain ⟨pr, rfl⟩ := tr.ptr
  have z := Ext.refl w
  have L0 := Lib.hid (fun (W : World) (X : Ext w W) => tl.ext X)
  have M0 := Lib.hid (fun (W : World) (X : Ext w W) => tm.ext X)
  have R0 := Lib.hid (fun (W : World) (X : Ext w W) => tr.ext X)
  have km := fun (W : World) (X : Ext w W) => key_any (tm.ext X)
  have vm := fun (W : World) (X : Ext w W) => val_any (tm.ext X)
  have gm := fun (W : World) (X : Ext w W) => tag_any (tm.ext X)
  simp only [T.key, T.val, T.tag] at km vm gm
  have al := fun (W : World) (X : Ext w W) => aboveN_any (tl.ext X) (tm.ext X)
  have ar := fun (W : World) (X : Ext w W) => aboveN_any (tr.ext X) (tm.ext X)
  simp only [overT_node] at al ar
  have KM := Lib.hid km
  have VM := Lib.hid vm
  have GM := Lib.hid gm
  have IH := Lib.hid IH
  clear tl tm tr km vm gm
  cases hA : over l x with
  | true =>
    rw [show (⟨x.key, x.val, x.tag⟩ : Item) = x from rfl] at al
    rw [hA] at al
    have AL := Lib.hid al
    clear al ar
    cases l with
    | nil => simp [over, T.some] at hA
    | node k v g a b =>
      have hab : above ⟨k, v, g⟩ x = true := by simpa [over, T.some, T.item] using hA
      have hrr := both_left h1 h2 hab rfl
      obtain ⟨bn, ua, ub, hbn, hat, ta, tb⟩ := L0.out _ (Ext.refl w)
      obtain rfl : pl = some ⟨bn, 0, none⟩ := by simpa using hbn
      obtain ⟨pa, rfl⟩ := ta.ptr
      obtain ⟨pb, rfl⟩ := tb.ptr
      obtain ⟨_, _, ma, mb⟩ := mayT_node.1 hl
      clear hbn
      clear hA h1 h2
      go_enter Try.func150, Try.ntmps150
      go_wp2_with fail
      refine (KM.out _ z).mono ?_; rintro e w1 ⟨rfl, x1⟩
      have z := Ext.trans z x1
      go_wp2_with fail
      refine (VM.out _ z).mono ?_; rintro e w2 ⟨rfl, x2⟩
      have z := Ext.trans z x2
      go_wp2_with fail
      refine (GM.out _ z).mono ?_; rintro e w3 ⟨rfl, x3⟩
      have z := (Ext.trans z x3).alloc (.cells #[.int .i64 x.key, .int .i64 x.val, .int .u64 x.tag] 70)
      have kx := Blk.new w3 70 #[.int .i64 x.key, .int .i64 x.val, .int .u64 x.tag]
      clear x1 x2 x3
      go_wp2_with fail
      generalize w3.alloc (.cells #[.int .i64 x.key, .int .i64 x.val, .int .u64 x.tag] 70) = w4 at *
      generalize w3.heap.size = bx at *
      refine (AL.out _ z).mono ?_; rintro e w5 ⟨rfl, x5⟩
      have z := Ext.trans z x5
      have kx := kx.ext x5
      clear x5
      have HC := Lib.hid (show ∀ W : World, Ext w5 W → W.cell? ⟨bx, 0, none⟩ = some (.int .i64 x.key) ∧ W.cell? ⟨bx, 1, none⟩ = some (.int .i64 x.val) ∧ W.cell? ⟨bx, 2, none⟩ = some (.int .u64 x.tag) from fun W X => by have k := kx.ext X; exact ⟨k.cell 0, k.cell 1, k.cell 2⟩)
      have HZ := Lib.hid z
      clear z kx
      have z := Ext.refl w5
      have LA := Lib.hid (fun (W : World) (X : Ext w5 W) => left_at (hat.ext (HZ.out.trans X)))
      have RA := Lib.hid (fun (W : World) (X : Ext w5 W) => right_at (hat.ext (HZ.out.trans X)))
      have KA := fun (W : World) (X : Ext w5 W) => key_any (L0.out W (HZ.out.trans X))
      simp only [T.key] at KA
      replace KA := Lib.hid KA
      have VA := fun (W : World) (X : Ext w5 W) => val_any (L0.out W (HZ.out.trans X))
      simp only [T.val] at VA
      replace VA := Lib.hid VA
      have GA := fun (W : World) (X : Ext w5 W) => tag_any (L0.out W (HZ.out.trans X))
      simp only [T.tag] at GA
      replace GA := Lib.hid GA
      have JN := Lib.hid (fun (W : World) (X : Ext w5 W) => IH.out (b.size + r.size) (by simp only [T.size]; omega) b r _ _ x W (Nat.le_refl _) mb hr (tb.ext (HZ.out.trans X)) (R0.out W (HZ.out.trans X)))
      have TS := Lib.hid (fun (W : World) (X : Ext w5 W) => ta.ext (HZ.out.trans X))
      clear KM VM GM M0 R0 L0 IH
      go_wp2_with fail
      go_region_held3 (fun W => W.cell? ⟨bx, 0, none⟩ = some (.int .i64 x.key) ∧ W.cell? ⟨bx, 1, none⟩ = some (.int .i64 x.val) ∧ W.cell? ⟨bx, 2, none⟩ = some (.int .u64 x.tag)) (first | exact HC.out _ z | exact HC.out _ (Ext.drew z))
        (first
          | (go_at_call 37; refine (LA.out _ (by first | exact z | exact Ext.drew z)).mono ?_; rintro e w' ⟨rfl, rfl⟩)
          | (go_at_call 38; refine (RA.out _ (by first | exact z | exact Ext.drew z)).mono ?_; rintro e w' ⟨rfl, rfl⟩)
          | (go_at_call 112; refine (KA.out _ (by first | exact z | exact Ext.drew z)).mono ?_; rintro e wq ⟨rfl, xq⟩; have z := (by first | exact Ext.trans z xq | exact (Ext.drew z).trans xq))
          | (go_at_call 131; refine (VA.out _ (by first | exact z | exact Ext.drew z)).mono ?_; rintro e wq ⟨rfl, xq⟩; have z := (by first | exact Ext.trans z xq | exact (Ext.drew z).trans xq))
          | (go_at_call 132; refine (GA.out _ (by first | exact z | exact Ext.drew z)).mono ?_; rintro e wq ⟨rfl, xq⟩; have z := (by first | exact Ext.trans z xq | exact (Ext.drew z).trans xq))
          | (go_at_call 74; refine (JN.out _ (by first | exact z | exact Ext.drew z)).mono ?_; rintro e wj ⟨vj, rfl, xq, tj, htj, hj⟩; have z := (by first | exact Ext.trans z xq | exact (Ext.drew z).trans xq))
          | (go_at_call 35; refine (new_any k v g (TS.out _ z) htj).mono ?_; rintro e wn ⟨un, rfl, xq, bn2, rfl, hbn2, hat2⟩; have htj := htj.ext xq; have z := Ext.trans z xq))
      have tf : Tr wn (.pointer (some ⟨bn2, 0, none⟩)) (.node k v g a tj) := ⟨bn2, _, _, rfl, hat2, TS.out _ z, htj⟩
      go_wp2_with fail
      go_ret
      exact ⟨_, rfl, HZ.out.trans z, _, tf, join_left hl hr (above_asym hab) hrr hj⟩
  | false =>
    rw [show (⟨x.key, x.val, x.tag⟩ : Item) = x from rfl] at al ar
    rw [hA] at al
    have AL := Lib.hid al
    clear al
    cases hB : over r x with
    | true =>
      rw [hB] at ar
      have AR := Lib.hid ar
      clear ar
      cases r with
      | nil => simp [over, T.some] at hB
      | node k v g a b =>
        have hab : above ⟨k, v, g⟩ x = true := by simpa [over, T.some, T.item] using hB
        have hll := both_right (l := l) (r := .node k v g a b) (x := x) (fun h => by simp [over, h.1, h.2] at hA) hab
        obtain ⟨bn, ua, ub, hbn, hat, ta, tb⟩ := R0.out _ (Ext.refl w)
        obtain rfl : pr = some ⟨bn, 0, none⟩ := by simpa using hbn
        obtain ⟨pa, rfl⟩ := ta.ptr
        obtain ⟨pb, rfl⟩ := tb.ptr
        obtain ⟨_, _, ma, mb⟩ := mayT_node.1 hr
        clear hbn
        clear hA hB h1 h2
        go_enter Try.func150, Try.ntmps150
        go_wp2_with fail
        refine (KM.out _ z).mono ?_; rintro e w1 ⟨rfl, x1⟩
        have z := Ext.trans z x1
        go_wp2_with fail
        refine (VM.out _ z).mono ?_; rintro e w2 ⟨rfl, x2⟩
        have z := Ext.trans z x2
        go_wp2_with fail
        refine (GM.out _ z).mono ?_; rintro e w3 ⟨rfl, x3⟩
        have z := (Ext.trans z x3).alloc (.cells #[.int .i64 x.key, .int .i64 x.val, .int .u64 x.tag] 70)
        have kx := Blk.new w3 70 #[.int .i64 x.key, .int .i64 x.val, .int .u64 x.tag]
        clear x1 x2 x3
        go_wp2_with fail
        generalize w3.alloc (.cells #[.int .i64 x.key, .int .i64 x.val, .int .u64 x.tag] 70) = w4 at *
        generalize w3.heap.size = bx at *
        refine (AL.out _ z).mono ?_; rintro e w5 ⟨rfl, x5⟩
        have z := Ext.trans z x5
        have kx := kx.ext x5
        clear x5
        go_wp2_with fail
        refine (AR.out _ z).mono ?_; rintro e w6 ⟨rfl, x6⟩
        have z := Ext.trans z x6
        have kx := kx.ext x6
        clear x6
        have HC := Lib.hid (show ∀ W : World, Ext w6 W → W.cell? ⟨bx, 0, none⟩ = some (.int .i64 x.key) ∧ W.cell? ⟨bx, 1, none⟩ = some (.int .i64 x.val) ∧ W.cell? ⟨bx, 2, none⟩ = some (.int .u64 x.tag) from fun W X => by have k := kx.ext X; exact ⟨k.cell 0, k.cell 1, k.cell 2⟩)
        have HZ := Lib.hid z
        clear z kx
        have z := Ext.refl w6
        have LA := Lib.hid (fun (W : World) (X : Ext w6 W) => left_at (hat.ext (HZ.out.trans X)))
        have RA := Lib.hid (fun (W : World) (X : Ext w6 W) => right_at (hat.ext (HZ.out.trans X)))
        have KA := fun (W : World) (X : Ext w6 W) => key_any (R0.out W (HZ.out.trans X))
        simp only [T.key] at KA
        replace KA := Lib.hid KA
        have VA := fun (W : World) (X : Ext w6 W) => val_any (R0.out W (HZ.out.trans X))
        simp only [T.val] at VA
        replace VA := Lib.hid VA
        have GA := fun (W : World) (X : Ext w6 W) => tag_any (R0.out W (HZ.out.trans X))
        simp only [T.tag] at GA
        replace GA := Lib.hid GA
        have JN := Lib.hid (fun (W : World) (X : Ext w6 W) => IH.out (l.size + a.size) (by simp only [T.size]; omega) l a _ _ x W (Nat.le_refl _) hl ma (L0.out W (HZ.out.trans X)) (ta.ext (HZ.out.trans X)))
        have TS := Lib.hid (fun (W : World) (X : Ext w6 W) => tb.ext (HZ.out.trans X))
        clear KM VM GM M0 R0 L0 IH
        go_wp2_with fail
        go_region_held3 (fun W => W.cell? ⟨bx, 0, none⟩ = some (.int .i64 x.key) ∧ W.cell? ⟨bx, 1, none⟩ = some (.int .i64 x.val) ∧ W.cell? ⟨bx, 2, none⟩ = some (.int .u64 x.tag)) (first | exact HC.out _ z | exact HC.out _ (Ext.drew z))
          (first
            | (go_at_call 37; refine (LA.out _ (by first | exact z | exact Ext.drew z)).mono ?_; rintro e w' ⟨rfl, rfl⟩)
            | (go_at_call 38; refine (RA.out _ (by first | exact z | exact Ext.drew z)).mono ?_; rintro e w' ⟨rfl, rfl⟩)
            | (go_at_call 112; refine (KA.out _ z).mono ?_; rintro e wq ⟨rfl, xq⟩; have htj := htj.ext xq; have z := Ext.trans z xq)
            | (go_at_call 131; refine (VA.out _ z).mono ?_; rintro e wq ⟨rfl, xq⟩; have htj := htj.ext xq; have z := Ext.trans z xq)
            | (go_at_call 132; refine (GA.out _ z).mono ?_; rintro e wq ⟨rfl, xq⟩; have htj := htj.ext xq; have z := Ext.trans z xq)
            | (go_at_call 74; refine (JN.out _ (by first | exact z | exact Ext.drew z)).mono ?_; rintro e wj ⟨vj, rfl, xq, tj, htj, hj⟩; have z := (by first | exact Ext.trans z xq | exact (Ext.drew z).trans xq))
            | (go_at_call 35; refine (new_any k v g htj (TS.out _ z)).mono ?_; rintro e wn ⟨un, rfl, xq, bn2, rfl, hbn2, hat2⟩; have htj := htj.ext xq; have z := Ext.trans z xq))
        have tf : Tr wn (.pointer (some ⟨bn2, 0, none⟩)) (.node k v g tj b) := ⟨bn2, _, _, rfl, hat2, htj, TS.out _ z⟩
        go_wp2_with fail
        go_ret
        exact ⟨_, rfl, HZ.out.trans z, _, tf, join_right hl hr (above_asym hab) hll hj⟩
    | false =>
      rw [hB] at ar
      have AR := Lib.hid ar
      clear ar
      have hj : Joined l x r (.node x.key x.val x.tag l r) := join_mid hl hr (fun h => by simpa [over, h] using hA) (fun h => by simpa [over, h] using hB)
      clear hA hB h1 h2
      go_enter Try.func150, Try.ntmps150
      go_wp2_with fail
      refine (KM.out _ z).mono ?_; rintro e w1 ⟨rfl, x1⟩
      have z := Ext.trans z x1
      go_wp2_with fail
      refine (VM.out _ z).mono ?_; rintro e w2 ⟨rfl, x2⟩
      have z := Ext.trans z x2
      go_wp2_with fail
      refine (GM.out _ z).mono ?_; rintro e w3 ⟨rfl, x3⟩
      have z := (Ext.trans z x3).alloc (.cells #[.int .i64 x.key, .int .i64 x.val, .int .u64 x.tag] 70)
      have kx := Blk.new w3 70 #[.int .i64 x.key, .int .i64 x.val, .int .u64 x.tag]
      clear x1 x2 x3
      go_wp2_with fail
      generalize w3.alloc (.cells #[.int .i64 x.key, .int .i64 x.val, .int .u64 x.tag] 70) = w4 at *
      generalize w3.heap.size = bx at *
      refine (AL.out _ z).mono ?_; rintro e w5 ⟨rfl, x5⟩
      have z := Ext.trans z x5
      have kx := kx.ext x5
      clear x5
      go_wp2_with fail
      refine (AR.out _ z).mono ?_; rintro e w6 ⟨rfl, x6⟩
      have z := Ext.trans z x6
      have kx := kx.ext x6
      have c0 := kx.cell 0
      have c1 := kx.cell 1
      have c2 := kx.cell 2
      clear x6
      go_wp2_with fail
      refine (new_any x.key x.val x.tag (L0.out _ z) (R0.out _ z)).mono ?_; rintro e wn ⟨un, rfl, xq, bn2, rfl, hbn2, hat2⟩
      have z := Ext.trans z xq
      have tf : Tr wn (.pointer (some ⟨bn2, 0, none⟩)) (.node x.key x.val x.tag l r) := ⟨bn2, _, _, rfl, hat2, L0.out _ z, R0.out _ z⟩
      go_wp2_with fail
      go_ret
      exact ⟨_, rfl, z, _, tf, hj⟩

theorem eql_top (a b : Bool) (c d : Bool) (w : World) : (binOp .eql 172 (.agg #[.bool a, .bool b]) (.agg #[.bool c, .bool d])).run Try.prog w = .ok (.bool (a == c && b == d)) w := by
  go_simp
  cases a <;> cases b <;> cases c <;> cases d <;> rfl

set_option maxRecDepth 100000 in
set_option maxHeartbeats 8000000 in
theorem join_all : ∀ n, JoinsTo n := by
  intro n
  induction n using Nat.strongRecOn with
  | _ n ih =>
    intro l r vl vr x w hn hl hr tl tr
    obtain ⟨pl, rfl⟩ := tl.ptr
    obtain ⟨pr, rfl⟩ := tr.ptr
    have IH : ∀ m, m < l.size + r.size → JoinsTo m := fun m hm => ih m (by omega)
    have IH := Lib.hid IH
    clear ih hn
    have z := (Ext.refl w).alloc (.cells #[.int .i64 x.key, .int .i64 x.val, .int .u64 x.tag] 70)
    have kx := Blk.new w 70 #[.int .i64 x.key, .int .i64 x.val, .int .u64 x.tag]
    have L0 := Lib.hid (fun (W : World) (X : Ext w W) => tl.ext X)
    have R0 := Lib.hid (fun (W : World) (X : Ext w W) => tr.ext X)
    have h0 : ∀ W : World, Tr W (.pointer none) .nil := fun _ => rfl
    have et := eql_top
    clear tl tr
    cases hT1 : topB l x r with
    | true =>
      obtain ⟨g1, g2, g3⟩ := top_left hT1
      have hT2 : topB r x l = false := by
        cases hT2 : topB r x l with
        | false => rfl
        | true =>
          obtain ⟨f1, f2, f3⟩ := top_left hT2
          unfold topB at hT2
          rw [g3 f1, g1] at hT2
          simp at hT2
      cases l with
      | nil => cases g1
      | node k v g a b =>
        have hab : above ⟨k, v, g⟩ x = true := g2
        obtain ⟨bn, ua, ub, hbn, hat, ta, tb⟩ := L0.out _ (Ext.refl w)
        obtain rfl : pl = some ⟨bn, 0, none⟩ := by simpa using hbn
        obtain ⟨pa, rfl⟩ := ta.ptr
        obtain ⟨pb, rfl⟩ := tb.ptr
        obtain ⟨_, _, ma, mb⟩ := mayT_node.1 hl
        clear hbn
        go_enter Try.func74, Try.ntmps74
        go_wp2_with fail
        generalize w.alloc (.cells #[.int .i64 x.key, .int .i64 x.val, .int .u64 x.tag] 70) = w0 at *
        generalize w.heap.size = bx at *
        refine (new_any x.key x.val x.tag (h0 _) (h0 _)).mono ?_; rintro e w1 ⟨u1, rfl, x1, bm, rfl, hbm, hatm⟩
        have z := Ext.trans z x1
        have kx := kx.ext x1
        have tm : Tr w1 (.pointer (some ⟨bm, 0, none⟩)) (.node x.key x.val x.tag .nil .nil) := ⟨bm, _, _, rfl, hatm, rfl, rfl⟩
        go_wp2_with fail
        refine (topTwo_any (L0.out _ z) tm (R0.out _ z) hT1).mono ?_; rintro e w2 ⟨rfl, x2⟩
        have z := Ext.trans z x2
        have kx := kx.ext x2
        have tm := tm.ext x2
        go_wp2_with fail
        refine (topTwo_any (R0.out _ z) tm (L0.out _ z) hT2).mono ?_; rintro e w3 ⟨rfl, x3⟩
        have z := Ext.trans z x3
        have kx := kx.ext x3
        have tm := tm.ext x3
        clear x1 x2 x3 hatm hbm
        have HC := Lib.hid (show ∀ W : World, Ext w3 W → W.cell? ⟨bx, 0, none⟩ = some (.int .i64 x.key) ∧ W.cell? ⟨bx, 1, none⟩ = some (.int .i64 x.val) ∧ W.cell? ⟨bx, 2, none⟩ = some (.int .u64 x.tag) from fun W X => by have k := kx.ext X; exact ⟨k.cell 0, k.cell 1, k.cell 2⟩)
        have HZ := Lib.hid z
        clear z kx
        have z := Ext.refl w3
        have LA := Lib.hid (fun (W : World) (X : Ext w3 W) => left_at (hat.ext (HZ.out.trans X)))
        have RA := Lib.hid (fun (W : World) (X : Ext w3 W) => right_at (hat.ext (HZ.out.trans X)))
        have KA := fun (W : World) (X : Ext w3 W) => key_any (L0.out W (HZ.out.trans X))
        simp only [T.key] at KA
        replace KA := Lib.hid KA
        have VA := fun (W : World) (X : Ext w3 W) => val_any (L0.out W (HZ.out.trans X))
        simp only [T.val] at VA
        replace VA := Lib.hid VA
        have GA := fun (W : World) (X : Ext w3 W) => tag_any (L0.out W (HZ.out.trans X))
        simp only [T.tag] at GA
        replace GA := Lib.hid GA
        have JN := Lib.hid (fun (W : World) (X : Ext w3 W) => IH.out (b.size + r.size) (by simp only [T.size]; omega) b r _ _ x W (Nat.le_refl _) mb hr (tb.ext (HZ.out.trans X)) (R0.out W (HZ.out.trans X)))
        have TS := Lib.hid (fun (W : World) (X : Ext w3 W) => ta.ext (HZ.out.trans X))
        clear hT1 hT2 g1 g2 tm L0 R0 IH
        go_wp2_with fail
        go_region_held3 (fun W => W.cell? ⟨bx, 0, none⟩ = some (.int .i64 x.key) ∧ W.cell? ⟨bx, 1, none⟩ = some (.int .i64 x.val) ∧ W.cell? ⟨bx, 2, none⟩ = some (.int .u64 x.tag)) (first | exact HC.out _ z | exact HC.out _ (Ext.drew z))
          (first
            | (go_at_call 37; refine (LA.out _ (by first | exact z | exact Ext.drew z)).mono ?_; rintro e w' ⟨rfl, rfl⟩)
            | (go_at_call 38; refine (RA.out _ (by first | exact z | exact Ext.drew z)).mono ?_; rintro e w' ⟨rfl, rfl⟩)
            | (go_at_call 112; refine (KA.out _ (by first | exact z | exact Ext.drew z)).mono ?_; rintro e wq ⟨rfl, xq⟩; have z := (by first | exact Ext.trans z xq | exact (Ext.drew z).trans xq))
            | (go_at_call 131; refine (VA.out _ (by first | exact z | exact Ext.drew z)).mono ?_; rintro e wq ⟨rfl, xq⟩; have z := (by first | exact Ext.trans z xq | exact (Ext.drew z).trans xq))
            | (go_at_call 132; refine (GA.out _ (by first | exact z | exact Ext.drew z)).mono ?_; rintro e wq ⟨rfl, xq⟩; have z := (by first | exact Ext.trans z xq | exact (Ext.drew z).trans xq))
            | (go_at_call 74; refine (JN.out _ (by first | exact z | exact Ext.drew z)).mono ?_; rintro e wj ⟨vj, rfl, xq, tj, htj, hj⟩; have z := (by first | exact Ext.trans z xq | exact (Ext.drew z).trans xq))
            | (go_at_call 35; refine (new_any k v g (TS.out _ z) htj).mono ?_; rintro e wn ⟨un, rfl, xq, bn2, rfl, hbn2, hat2⟩; have htj := htj.ext xq; have z := Ext.trans z xq))
        have tf : Tr wn (.pointer (some ⟨bn2, 0, none⟩)) (.node k v g a tj) := ⟨bn2, _, _, rfl, hat2, TS.out _ z, htj⟩
        go_wp2_with fail
        go_ret
        exact ⟨_, rfl, HZ.out.trans z, _, tf, join_left hl hr (above_asym hab) g3 hj⟩
    | false =>
      cases hT2 : topB r x l with
      | true =>
        obtain ⟨g1, g2, g3⟩ := top_left hT2
        cases r with
        | nil => cases g1
        | node k v g a b =>
          have hab : above ⟨k, v, g⟩ x = true := g2
          obtain ⟨bn, ua, ub, hbn, hat, ta, tb⟩ := R0.out _ (Ext.refl w)
          obtain rfl : pr = some ⟨bn, 0, none⟩ := by simpa using hbn
          obtain ⟨pa, rfl⟩ := ta.ptr
          obtain ⟨pb, rfl⟩ := tb.ptr
          obtain ⟨_, _, ma, mb⟩ := mayT_node.1 hr
          clear hbn
          go_enter Try.func74, Try.ntmps74
          go_wp2_with fail
          generalize w.alloc (.cells #[.int .i64 x.key, .int .i64 x.val, .int .u64 x.tag] 70) = w0 at *
          generalize w.heap.size = bx at *
          refine (new_any x.key x.val x.tag (h0 _) (h0 _)).mono ?_; rintro e w1 ⟨u1, rfl, x1, bm, rfl, hbm, hatm⟩
          have z := Ext.trans z x1
          have kx := kx.ext x1
          have tm : Tr w1 (.pointer (some ⟨bm, 0, none⟩)) (.node x.key x.val x.tag .nil .nil) := ⟨bm, _, _, rfl, hatm, rfl, rfl⟩
          go_wp2_with fail
          refine (topTwo_any (L0.out _ z) tm (R0.out _ z) hT1).mono ?_; rintro e w2 ⟨rfl, x2⟩
          have z := Ext.trans z x2
          have kx := kx.ext x2
          have tm := tm.ext x2
          go_wp2_with fail
          refine (topTwo_any (R0.out _ z) tm (L0.out _ z) hT2).mono ?_; rintro e w3 ⟨rfl, x3⟩
          have z := Ext.trans z x3
          have kx := kx.ext x3
          have tm := tm.ext x3
          clear x1 x2 x3 hatm hbm
          have HC := Lib.hid (show ∀ W : World, Ext w3 W → W.cell? ⟨bx, 0, none⟩ = some (.int .i64 x.key) ∧ W.cell? ⟨bx, 1, none⟩ = some (.int .i64 x.val) ∧ W.cell? ⟨bx, 2, none⟩ = some (.int .u64 x.tag) from fun W X => by have k := kx.ext X; exact ⟨k.cell 0, k.cell 1, k.cell 2⟩)
          have HZ := Lib.hid z
          clear z kx
          have z := Ext.refl w3
          have LA := Lib.hid (fun (W : World) (X : Ext w3 W) => left_at (hat.ext (HZ.out.trans X)))
          have RA := Lib.hid (fun (W : World) (X : Ext w3 W) => right_at (hat.ext (HZ.out.trans X)))
          have KA := fun (W : World) (X : Ext w3 W) => key_any (R0.out W (HZ.out.trans X))
          simp only [T.key] at KA
          replace KA := Lib.hid KA
          have VA := fun (W : World) (X : Ext w3 W) => val_any (R0.out W (HZ.out.trans X))
          simp only [T.val] at VA
          replace VA := Lib.hid VA
          have GA := fun (W : World) (X : Ext w3 W) => tag_any (R0.out W (HZ.out.trans X))
          simp only [T.tag] at GA
          replace GA := Lib.hid GA
          have JN := Lib.hid (fun (W : World) (X : Ext w3 W) => IH.out (l.size + a.size) (by simp only [T.size]; omega) l a _ _ x W (Nat.le_refl _) hl ma (L0.out W (HZ.out.trans X)) (ta.ext (HZ.out.trans X)))
          have TS := Lib.hid (fun (W : World) (X : Ext w3 W) => tb.ext (HZ.out.trans X))
          clear hT1 hT2 g1 g2 tm L0 R0 IH
          go_wp2_with fail
          go_region_held3 (fun W => W.cell? ⟨bx, 0, none⟩ = some (.int .i64 x.key) ∧ W.cell? ⟨bx, 1, none⟩ = some (.int .i64 x.val) ∧ W.cell? ⟨bx, 2, none⟩ = some (.int .u64 x.tag)) (first | exact HC.out _ z | exact HC.out _ (Ext.drew z))
            (first
              | (go_at_call 37; refine (LA.out _ (by first | exact z | exact Ext.drew z)).mono ?_; rintro e w' ⟨rfl, rfl⟩)
              | (go_at_call 38; refine (RA.out _ (by first | exact z | exact Ext.drew z)).mono ?_; rintro e w' ⟨rfl, rfl⟩)
              | (go_at_call 112; refine (KA.out _ z).mono ?_; rintro e wq ⟨rfl, xq⟩; have htj := htj.ext xq; have z := Ext.trans z xq)
              | (go_at_call 131; refine (VA.out _ z).mono ?_; rintro e wq ⟨rfl, xq⟩; have htj := htj.ext xq; have z := Ext.trans z xq)
              | (go_at_call 132; refine (GA.out _ z).mono ?_; rintro e wq ⟨rfl, xq⟩; have htj := htj.ext xq; have z := Ext.trans z xq)
              | (go_at_call 74; refine (JN.out _ (by first | exact z | exact Ext.drew z)).mono ?_; rintro e wj ⟨vj, rfl, xq, tj, htj, hj⟩; have z := (by first | exact Ext.trans z xq | exact (Ext.drew z).trans xq))
              | (go_at_call 35; refine (new_any k v g htj (TS.out _ z)).mono ?_; rintro e wn ⟨un, rfl, xq, bn2, rfl, hbn2, hat2⟩; have htj := htj.ext xq; have z := Ext.trans z xq))
          have tf : Tr wn (.pointer (some ⟨bn2, 0, none⟩)) (.node k v g tj b) := ⟨bn2, _, _, rfl, hat2, htj, TS.out _ z⟩
          go_wp2_with fail
          go_ret
          exact ⟨_, rfl, HZ.out.trans z, _, tf, join_right hl hr (above_asym hab) g3 hj⟩
      | false =>
        go_enter Try.func74, Try.ntmps74
        go_wp2_with fail
        generalize w.alloc (.cells #[.int .i64 x.key, .int .i64 x.val, .int .u64 x.tag] 70) = w0 at *
        generalize w.heap.size = bx at *
        refine (new_any x.key x.val x.tag (h0 _) (h0 _)).mono ?_; rintro e w1 ⟨u1, rfl, x1, bm, rfl, hbm, hatm⟩
        have z := Ext.trans z x1
        have kx := kx.ext x1
        have tm : Tr w1 (.pointer (some ⟨bm, 0, none⟩)) (.node x.key x.val x.tag .nil .nil) := ⟨bm, _, _, rfl, hatm, rfl, rfl⟩
        go_wp2_with fail
        refine (topTwo_any (L0.out _ z) tm (R0.out _ z) hT1).mono ?_; rintro e w2 ⟨rfl, x2⟩
        have z := Ext.trans z x2
        have kx := kx.ext x2
        have tm := tm.ext x2
        go_wp2_with fail
        refine (topTwo_any (R0.out _ z) tm (L0.out _ z) hT2).mono ?_; rintro e w3 ⟨rfl, x3⟩
        have z := Ext.trans z x3
        have kx := kx.ext x3
        have tm := tm.ext x3
        clear x1 x2 x3 hatm hbm
        go_wp2_with fail
        refine (both_any IH.out hl hr hT1 hT2 (L0.out _ z) tm (R0.out _ z)).mono ?_; rintro e w4 ⟨v4, rfl, x4, t4, ht4, hj4⟩
        go_wp2_with fail
        go_ret
        exact ⟨_, rfl, z.trans x4, t4, ht4, hj4⟩
theorem join_any {l r : T} {vl vr : Value} (x : Item) {w : World} (hl : mayT l = true) (hr : mayT r = true) (tl : Tr w vl l) (tr : Tr w vr r) :
    Calls Try.prog 74 #[vl, .agg #[.int .i64 x.key, .int .i64 x.val, .int .u64 x.tag], vr] w (Gives (fun v' w' => ∃ t, Tr w' v' t ∧ Joined l x r t) w) :=
  join_all (l.size + r.size) l r vl vr x w (Nat.le_refl _) hl hr tl tr
end Go.Proofs.Ytlehcagpddgamaa
