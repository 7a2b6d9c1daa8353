/- Package treap: Of: those that stand open. -/
import Derived.Test.YtlehcagpddgamaaTreapB
import Derived.Test.YtlehcagpddgamaaDrawC
namespace Go.Proofs.Ytlehcagpddgamaa
open Go.RowKit

/-- One that stands open: its item, a pointer to what is left of it, and what that is. -/
structure OpenN where
  item : Item
  ptr : Option Addr
  tree : T
def OpenN.enc (p : OpenN) : List Value := [.int .i64 p.item.key, .int .i64 p.item.val, .int .u64 p.item.tag, .pointer p.ptr]
theorem OpenN.enc_len (p : OpenN) : p.enc.length = 4 := rfl
def OpenN.pair (p : OpenN) : Item × T := (p.item, p.tree)
/-- A cut of what a call owns. -/
theorem Own.take {α : Type} {enc : α → List Value} {sz e base : Nat} (he : ∀ x, (enc x).length = sz) {w : World} {A : Option Addr} {n c : Nat} {l : List α} (h : Own enc e sz base w (.slice A n c) l) (k : Nat) (hk : k ≤ l.length) :
    Own enc e sz base w (.slice A k c) (l.take k) := by
  have hlk : (l.take k).length = k := by rw [List.length_take]; omega
  have hft : flat enc (l.take k) = (flat enc l).take (k * sz) := by
    have h2 : flat enc l = flat enc (l.take k) ++ flat enc (l.drop k) := by rw [← flat_append, List.take_append_drop]
    have h3 := flat_length (enc := enc) he (l.take k)
    rw [hlk] at h3
    rw [h2, ← h3, List.take_left]
  refine ⟨by rw [flat_length he], ?_⟩
  rw [hlk]
  rcases h.2 with ⟨hv, h0⟩ | ⟨g, cap, cur, hv, hg, hh, hnc, hcm, hcs, htk⟩
  · injection hv with e1 e2 e3
    subst e1 e3
    obtain rfl : k = 0 := by omega
    exact .inl ⟨rfl, rfl⟩
  · injection hv with e1 e2 e3
    subst e1 e3
    refine .inr ⟨g, c, cur, rfl, hg, hh, by omega, hcm, hcs, ?_⟩
    rw [hft, ← htk, List.take_take]
    congr 1
    exact (Nat.min_eq_left (Nat.mul_le_mul_right sz hk)).symm

/-- What shut does, all or not. -/
def shutB (all : Bool) (x : Item) : List (Item × T) → T → List (Item × T) × T
  | [], t => ([], t)
  | (y, l) :: w, t => if all || above x y then shutB all x w (.node y.key y.val y.tag l t) else ((y, l) :: w, t)
theorem shutB_all (x : Item) : ∀ (w : List (Item × T)) (t : T), shutB true x w t = ([], shutAll w t)
  | [], _ => rfl
  | (y, l) :: w, t => by simp only [shutB, Bool.true_or, if_true, shutAll]; exact shutB_all x w _
theorem shutB_some (x : Item) : ∀ (w : List (Item × T)) (t : T), shutB false x w t = shutI x w t
  | [], _ => rfl
  | (y, l) :: w, t => by
    simp only [shutB, Bool.false_or, shutI]
    split
    · exact shutB_some x w _
    · rfl
/-- The open ones, the last one first. -/
def wayL (ws : List OpenN) : List (Item × T) := (ws.map OpenN.pair).reverse
theorem wayL_snoc (ws : List OpenN) (p : OpenN) : wayL (ws ++ [p]) = (p.item, p.tree) :: wayL ws := by simp [wayL, OpenN.pair]
theorem way_take {ws : List OpenN} {m : Nat} {p : OpenN} (hp : ws[m]? = some p) : wayL (ws.take (m + 1)) = (p.item, p.tree) :: wayL (ws.take m) := by
  rw [List.take_add_one, hp]
  exact wayL_snoc _ _

/-- The box of those that stand open. -/
structure Way (w0 w : World) (b : Nat) (ws : List OpenN) : Prop where
  ext : Ext w0 w
  lo : w0.heap.size ≤ b
  box : ∃ A c, Blk w b 175 #[.slice A ws.length c] ∧ Own OpenN.enc 177 4 (b + 1) w (.slice A ws.length c) ws
  trees : ∀ p ∈ ws, Tr w (.pointer p.ptr) p.tree
theorem Way.more {w0 w w' : World} {b : Nat} {ws : List OpenN} (h : Way w0 w b ws) (x : Ext w w') : Way w0 w' b ws := by
  obtain ⟨A, c, h1, h2⟩ := h.box
  exact ⟨h.ext.trans x, h.lo, ⟨A, c, h1.ext x, h2.ext x⟩, fun p hp => (h.trees p hp).ext x⟩
theorem Tr.chg {w w' : World} {S : List Nat} (k : Chg S w w') (hS : ∀ s ∈ S, ∀ t, (w.heap[s]?).any (fun o => match o with | .cells _ t' _ => t' == t | _ => false) = true → ¬ t = 145) : ∀ {t : T} {v : Value}, Tr w v t → Tr w' v t
  | .nil, _, h => h
  | .node _ _ _ _ _, _, ⟨b, vl, vr, hv, ha, hl, hr⟩ => ⟨b, vl, vr, hv, Chg.blk k ha (fun hm => hS b hm 145 (by
      have h2 : w.heap[b]? = _ := ha
      rw [h2]
      simp) rfl), hl.chg k hS, hr.chg k hS⟩
theorem tr_box {w : World} {b : Nat} {cs : Array Value} (h : Blk w b 175 cs) (u : Value) {t : T} {v : Value} (ht : Tr w v t) : Tr (w.setCell ⟨b, 0, none⟩ u) v t :=
  Tr.chg ((Chg.refl [b] w).set (by simp) u) (fun s hs t' h' => by
    simp at hs
    subst hs
    have h2 : w.heap[s]? = _ := h
    rw [h2] at h'
    simp at h'
    subst h'
    decide) ht
/-- The box is set anew. -/
theorem way_put {w0 w : World} {b : Nat} {cs : Array Value} {vs : List OpenN} {A : Option Addr} {c n : Nat} (hext : Ext w0 w) (hlo : w0.heap.size ≤ b) (h1 : Blk w b 175 cs) (hcs : cs.size = 1) (hn : n = vs.length) (ho : Own OpenN.enc 177 4 (b + 1) w (.slice A n c) vs) (ht : ∀ p ∈ vs, Tr w (.pointer p.ptr) p.tree) : Way w0 (w.setCell ⟨b, 0, none⟩ (.slice A n c)) b vs := by
  subst hn
  obtain ⟨u, rfl⟩ : ∃ u, cs = #[u] := by
    match cs, hcs with
    | ⟨[u]⟩, _ => exact ⟨u, rfl⟩
  have ch : Chg [b] w (w.setCell ⟨b, 0, none⟩ (.slice A vs.length c)) := (Chg.refl [b] w).set (by simp) _
  exact ⟨ch.ext hext (fun s hs => by simp at hs; omega), hlo, ⟨A, c, by have := h1.set 0 (.slice A vs.length c); simpa using this, ho.chg ch (fun s hs => by simp at hs; omega)⟩, fun p hp => tr_box h1 _ (ht p hp)⟩

theorem info_open : (Try.prog.info? 177).map (fun i => (i.zero, i.size, i.bytes)) = some (some (.agg #[.int .i64 0, .int .i64 0, .int .u64 0, .pointer none]), 4, 32) := by kernel_rfl
theorem above_raw (k v g k' v' g' : Int) (w : World) : Calls Try.prog 153 #[.agg #[.int .i64 k, .int .i64 v, .int .u64 g], .agg #[.int .i64 k', .int .i64 v', .int .u64 g']] w fun e w' => e = .returned (.bool (above ⟨k, v, g⟩ ⟨k', v', g'⟩)) ∧ Ext w w' := above_fn ⟨k, v, g⟩ ⟨k', v', g'⟩ w

set_option maxRecDepth 100000 in
set_option maxHeartbeats 8000000 in
/-- The closure shut. -/
theorem shut_any (all : Bool) (x : Item) {w0 w : World} {b : Nat} {ws : List OpenN} (h : Way w0 w b ws) (hm : ws.length ≤ 4000) :
    Calls Try.prog 152 #[.bool all, .agg #[.int .i64 x.key, .int .i64 x.val, .int .u64 x.tag], .pointer (some ⟨b, 0, none⟩)] w fun e w' => ∃ v ws', e = .returned v ∧ Way w0 w' b ws' ∧ wayL ws' = (shutB all x (wayL ws) .nil).1 ∧ ws'.length ≤ ws.length ∧ Tr w' v (shutB all x (wayL ws) .nil).2 ∧ Chg [b] w w' := by
  have x0 := (Ext.refl w).alloc (.cells #[.int .i64 x.key, .int .i64 x.val, .int .u64 x.tag] 70)
  have h1 := h.more x0
  have hbB : b < w.heap.size := by obtain ⟨_, _, hb, _⟩ := h.box; exact hb.lt
  have bx0 := Blk.new w 70 #[.int .i64 x.key, .int .i64 x.val, .int .u64 x.tag]
  have hch0 := x0.chg [b]
  clear h x0
  go_enter Try.func152, Try.ntmps152
  go_wp2_with fail
  generalize w.alloc (.cells #[.int .i64 x.key, .int .i64 x.val, .int .u64 x.tag] 70) = w1 at *
  generalize hB : w.heap.size = B at *
  obtain ⟨A, c, hb, ho⟩ := h1.box
  have c0 := hb.cell 0
  have HW := Lib.hid h1
  clear hb ho h1
  go_step3
  go_wp2_with fail
  go_step3
  go_wp2_with fail
  go_loopw [5, 9] (fun tv i wr => ∃ (m : Nat) (t : T), m ≤ ws.length ∧ i = .int .i64 ((ws.length - m : Nat) : Int) ∧ Way w0 wr b (ws.take m) ∧ Tr wr tv t ∧ shutB all x (wayL (ws.take m)) t = shutB all x (wayL ws) .nil ∧ Blk wr B 70 #[.int .i64 x.key, .int .i64 x.val, .int .u64 x.tag] ∧ Chg [b] w wr) (fun _ i _ => ws.length - (intOf i).toNat)
  case atStart => exact ⟨ws.length, .nil, Nat.le_refl _, by simp, by rw [List.take_length]; exact HW.out, rfl, by rw [List.take_length], bx0, hch0⟩
  case round =>
    obtain ⟨m, t, hml, rfl, hw, htr, hsh, bx, hch⟩ := hrel
    rcases m with _ | q
    · simp only [List.take_zero] at hw hsh
      have hsz : ((ws.length - 0 : Nat) : Int) = (ws.length : Int) := by simp
      rw [hsz]
      have HS := Lib.hid hsh
      clear hsh hsz
      go_wp2_with fail
      rw [Exit.noGoto_ret]
      go_ret
      exact ⟨_, [], rfl, hw, by rw [← HS.out]; rfl, Nat.zero_le _, by rw [← HS.out]; exact htr, hch⟩
    · have hq : q < ws.length := by omega
      have hpq : ws[q]? = some ws[q] := List.getElem?_eq_getElem hq
      generalize ws[q] = p at hpq
      have hwt := way_take hpq
      have hpm : p ∈ ws.take (q + 1) := by rw [List.take_add_one, hpq]; simp
      have hpt := hw.trees p hpm
      have htl : (ws.take (q + 1)).length = q + 1 := by rw [List.length_take]; omega
      obtain ⟨A1, c1, hb, ho⟩ := hw.box
      rw [htl] at hb ho
      have hsl := ho.sl OpenN.enc_len (by omega)
      obtain ⟨A2, c2, e, hcc, hr⟩ := hsl
      injection e with e1 e2 e3
      subst e1 e3
      clear e2
      rw [htl] at hcc
      obtain ⟨g, off, rfl, hg, hcs⟩ := hr (by intro h; rw [h] at htl; simp at htl)
      have hcel := Cells.elem OpenN.enc_len hcs (i := q) (x := p) (by rw [List.getElem?_take_of_lt (by omega)]; exact hpq)
      have g0 : wr.cell? ⟨g, off + q * 4, none⟩ = some (.int .i64 p.item.key) := hcel 0 _ rfl
      have g1 : wr.cell? ⟨g, off + q * 4 + 1, none⟩ = some (.int .i64 p.item.val) := hcel 1 _ rfl
      have g2 : wr.cell? ⟨g, off + q * 4 + 2, none⟩ = some (.int .u64 p.item.tag) := hcel 2 _ rfl
      have g3 : wr.cell? ⟨g, off + q * 4 + 3, none⟩ = some (.pointer p.ptr) := hcel 3 _ rfl
      have cb : wr.cell? ⟨b, 0, none⟩ = some (.slice (some ⟨g, off, none⟩) (q + 1) c1) := hb.cell 0
      have k0 := bx.cell 0
      have k1 := bx.cell 1
      have k2 := bx.cell 2
      have hbl := hb.lt
      have hBl := bx.lt
      obtain ⟨i0, hi, _, hsz, _⟩ := info_parts info_open
      have hcut := run_cut_h (P := Try.prog) Try.underlying175 hi hsz (some ⟨g, off, none⟩) (n := q + 1) (c := c1) (q : Int) q rfl (by omega)
      rw [cutA_zero] at hcut
      have htake := ho.take OpenN.enc_len q (by omega)
      rw [List.take_take, Nat.min_eq_left (by omega)] at htake
      rw [hwt] at hsh
      have hlt1 : ((ws.length - (q + 1) : Nat) : Int) < (ws.length : Int) := by omega
      have hq4 : (q : Int) ≤ 4000 := by omega
      have al := (Ext.refl wr).alloc (.cells #[.int .i64 p.item.key, .int .i64 p.item.val, .int .u64 p.item.tag, .pointer p.ptr] 177)
      have bl := Blk.new wr 177 #[.int .i64 p.item.key, .int .i64 p.item.val, .int .u64 p.item.tag, .pointer p.ptr]
      have htt : ∀ z ∈ ws.take q, Tr wr (.pointer z.ptr) z.tree := fun z hz => hw.trees z (by
        rw [List.take_add_one]
        exact List.mem_append_left _ hz)
      have HQ := Lib.hid hpq
      have HW2 := Lib.hid hw
      have HT := Lib.hid htr
      have HS := Lib.hid hsh
      have HX := Lib.hid bx
      have HB := Lib.hid hb
      have HO := Lib.hid htake
      have HA := Lib.hid al
      have HL := Lib.hid bl
      have HTT := Lib.hid htt
      have HP := Lib.hid hpt
      have HCH := Lib.hid hch
      clear hch
      obtain ⟨pt, rfl⟩ := htr.ptr
      clear hpq hwt hpm hpt htl ho hr hcs hcel hi hsz htake hsh hb bx al bl htt hw htr hcc
      cases all with
      | true =>
        go_wp2_with fail
        generalize wr.alloc (.cells #[.int .i64 p.item.key, .int .i64 p.item.val, .int .u64 p.item.tag, .pointer p.ptr] 177) = w2 at *
        refine (new_any p.item.key p.item.val p.item.tag (HP.out.ext HA.out) (HT.out.ext HA.out)).mono ?_; rintro e w4 ⟨v4, rfl, x4, bn, rfl, hbn, hat⟩
        have y4 := HA.out.trans x4
        have cb4 : w4.cell? ⟨b, 0, none⟩ = some (.slice (some ⟨g, off, none⟩) (q + 1) c1) := (HB.out.ext y4).cell 0
        have fb4 := (HB.out.ext y4).frozen 0
        have T4 : Tr w4 (.pointer (some ⟨bn, 0, none⟩)) (.node p.item.key p.item.val p.item.tag p.tree t) := ⟨bn, _, _, rfl, hat, HP.out.ext y4, HT.out.ext y4⟩
        go_wp2_with fail
        have W5 := way_put (n := q) (HW2.out.more y4).ext HW2.out.lo (HB.out.ext y4) rfl (by rw [List.length_take]; omega) (HO.out.ext y4) (fun z hz => (HTT.out z hz).ext y4)
        have X5 := (HX.out.ext y4).far (p := ⟨b, 0, none⟩) (by simp; omega) (.slice (some ⟨g, off, none⟩) q c1)
        exact ⟨⟨q, _, by omega, congrArg (Value.int .i64) (by omega), W5, tr_box (HB.out.ext y4) _ T4, by rw [← HS.out]; simp [shutB], X5, (HCH.out.trans (y4.chg _)).set (by simp) _⟩, by simp [intOf]; omega⟩
      | false =>
        cases hab : above x p.item with
        | true =>
          have hca := fun W => above_raw x.key x.val x.tag p.item.key p.item.val p.item.tag W
          rw [show (⟨x.key, x.val, x.tag⟩ : Item) = x from rfl, show (⟨p.item.key, p.item.val, p.item.tag⟩ : Item) = p.item from rfl, hab] at hca
          have HH := Lib.hid hab
          clear hab
          go_wp2_with fail
          refine (hca _).mono ?_; rintro e w3 ⟨rfl, x3⟩
          have HA2 := Lib.hid (HA.out.trans x3)
          have b3 := HL.out.ext x3
          have d0 := b3.cell 0
          have d1 := b3.cell 1
          have d2 := b3.cell 2
          have d3 := b3.cell 3
          clear b3 x3 HA
          have HA := HA2
          clear HA2
          go_wp2_with fail
          refine (new_any p.item.key p.item.val p.item.tag (HP.out.ext HA.out) (HT.out.ext HA.out)).mono ?_; rintro e w4 ⟨v4, rfl, x4, bn, rfl, hbn, hat⟩
          have y4 := HA.out.trans x4
          have cb4 : w4.cell? ⟨b, 0, none⟩ = some (.slice (some ⟨g, off, none⟩) (q + 1) c1) := (HB.out.ext y4).cell 0
          have fb4 := (HB.out.ext y4).frozen 0
          have T4 : Tr w4 (.pointer (some ⟨bn, 0, none⟩)) (.node p.item.key p.item.val p.item.tag p.tree t) := ⟨bn, _, _, rfl, hat, HP.out.ext y4, HT.out.ext y4⟩
          go_wp2_with fail
          have W5 := way_put (n := q) (HW2.out.more y4).ext HW2.out.lo (HB.out.ext y4) rfl (by rw [List.length_take]; omega) (HO.out.ext y4) (fun z hz => (HTT.out z hz).ext y4)
          have X5 := (HX.out.ext y4).far (p := ⟨b, 0, none⟩) (by simp; omega) (.slice (some ⟨g, off, none⟩) q c1)
          exact ⟨⟨q, _, by omega, congrArg (Value.int .i64) (by omega), W5, tr_box (HB.out.ext y4) _ T4, by rw [← HS.out]; simp [shutB, HH.out], X5, (HCH.out.trans (y4.chg _)).set (by simp) _⟩, by simp [intOf]; omega⟩
        | false =>
          have hca := fun W => above_raw x.key x.val x.tag p.item.key p.item.val p.item.tag W
          rw [show (⟨x.key, x.val, x.tag⟩ : Item) = x from rfl, show (⟨p.item.key, p.item.val, p.item.tag⟩ : Item) = p.item from rfl, hab] at hca
          have HH := Lib.hid hab
          clear hab
          go_wp2_with fail
          refine (hca _).mono ?_; rintro e w3 ⟨rfl, x3⟩
          have y3 := HA.out.trans x3
          go_wp2_with fail
          rw [Exit.noGoto_ret]
          go_ret
          have hs := HS.out
          simp only [shutB, HH.out, Bool.or_false, Bool.false_eq_true, if_false] at hs
          exact ⟨_, ws.take (q + 1), rfl, HW2.out.more y3, by rw [← hs]; exact way_take HQ.out, by rw [List.length_take]; omega, by rw [← hs]; exact HT.out.ext y3, HCH.out.trans (y3.chg _)⟩

theorem openE : Elem Try.prog 175 177 4 32 OpenN.enc := by
  obtain ⟨i0, hi, hz0, hz1, hz2⟩ := info_parts info_open
  refine ⟨Try.underlying175, ⟨i0, _, hi, hz0, hz1, hz2, rfl⟩, by omega, OpenN.enc_len, fun x u hu => ?_⟩
  simp only [OpenN.enc, List.mem_cons, List.not_mem_nil, or_false] at hu
  rcases hu with rfl | rfl | rfl | rfl <;> rfl
theorem tr_row {w w' : World} {base : Nat} {v : Value} {l : List OpenN} (h : Own OpenN.enc 177 4 base w v l) (hg : w.grownBy w' v.ownBlock) {t : T} {u : Value} (ht : Tr w u t) : Tr w' u t :=
  Tr.chg (grown_chg hg) (fun s hs t' h' => by
    rcases h.2 with ⟨rfl, _⟩ | ⟨g, cap, cur, rfl, _, hh, _⟩
    · simp [Value.ownBlock] at hs
    · simp [Value.ownBlock] at hs
      subst hs
      rw [hh] at h'
      simp at h'
      subst h'
      decide) ht

set_option maxRecDepth 100000 in
set_option maxHeartbeats 8000000 in
/-- treap.Of. -/
theorem treapOf_any {l : List Item} {v : Value} {w : World} (h : Sl Item.enc w v l) (hm : l.length ≤ 4000) : Calls Try.prog 78 #[v] w (Gives (fun v' w' => Tr w' v' (ofI l)) w) := by
  obtain ⟨A, c, rfl, hc, hr⟩ := h
  have W0 : Way w (w.alloc (.cells #[.slice none 0 0] 175)) w.heap.size [] := ⟨(Ext.refl w).alloc _, Nat.le_refl _, ⟨none, 0, Blk.new w _ _, Own.nil_ _ _ _⟩, fun p hp => by simp at hp⟩
  generalize hB : w.heap.size = B at *
  go_enter Try.func78, Try.ntmps78
  go_wp2_with fail
  generalize w.alloc (.cells #[.slice none 0 0] 175) = w1 at *
  go_loopw [11] (fun i wr => ∃ (k : Nat) (ws : List OpenN), k ≤ l.length ∧ i = .int .i64 (k : Int) ∧ Way w wr B ws ∧ wayL ws = (l.take k).foldl stepI [] ∧ ws.length ≤ k) (fun i _ => l.length - (intOf i).toNat)
  case atStart => exact ⟨0, [], Nat.zero_le _, rfl, W0, rfl, Nat.le_refl _⟩
  case round =>
    obtain ⟨k, ws, hk, rfl, hw, hwl, hws⟩ := hrel
    by_cases hlt : k < l.length
    · obtain ⟨b, off, rfl, hb, hcs⟩ := hr (by intro h; rw [h] at hlt; simp at hlt)
      have hxk : l[k]? = some l[k] := List.getElem?_eq_getElem hlt
      generalize l[k] = y at hxk
      obtain ⟨c0, c1, c2⟩ := item_cells (hcs.ext hw.ext hb) hxk
      have hbB : B < wr.heap.size := by obtain ⟨_, _, hb, _⟩ := hw.box; exact hb.lt
      have h2 := hw.more ((Ext.refl wr).alloc (.cells #[.int .i64 y.key, .int .i64 y.val, .int .u64 y.tag] 70))
      have bL := Blk.new wr 70 #[.int .i64 y.key, .int .i64 y.val, .int .u64 y.tag]
      have hstep : (l.take (k + 1)).foldl stepI [] = stepI (wayL ws) y := by rw [List.take_add_one, hxk, hwl, Option.toList_some, List.foldl_append]; rfl
      have HS := Lib.hid hstep
      have HK := Lib.hid hws
      have HM := Lib.hid hm
      clear hxk hcs hr hstep hwl hws hw
      go_wp2_with fail
      generalize wr.alloc (.cells #[.int .i64 y.key, .int .i64 y.val, .int .u64 y.tag] 70) = w2 at *
      refine (shut_any false y h2 (by have := HK.out; omega)).mono ?_; rintro e w3 ⟨v3, ws3, rfl, W3, hw3, hl3, ht3, ch3⟩
      obtain ⟨p3, rfl⟩ := ht3.ptr
      have bL3 := ch3.blk bL (by simp; omega)
      obtain ⟨A3, c3, hb3, ho3⟩ := W3.box
      have cb3 := hb3.cell 0
      have d0 := bL3.cell 0
      have d1 := bL3.cell 1
      have d2 := bL3.cell 2
      have hB3 := hb3.lt
      generalize ht9 : (shutB false y (wayL ws) .nil).2 = t3 at ht3
      have al := (Ext.refl w3).alloc (.cells #[.int .i64 y.key, .int .i64 y.val, .int .u64 y.tag, .pointer p3] 177)
      have HA := Lib.hid al
      have HW3 := Lib.hid W3
      have HB3 := Lib.hid hb3
      have HO3 := Lib.hid (ho3.ext al)
      have HT3 := Lib.hid ht3
      have HE := Lib.hid (And.intro hw3 ht9)
      have hl9 : ws3.length ≤ 4000 := by have := HK.out; have := HM.out; omega
      clear W3 hb3 ho3 ht3 hw3 ht9 al ch3 bL bL3 h2
      go_wp2_with (at_builtin; go_must (refine wpList_app (v := .slice A3 ws3.length c3) openE rfl (.tmp 18) (.tmp 22) rfl rfl rfl HO3.out (lit_sl (enc := OpenN.enc) ⟨y, p3, t3⟩ rfl) ?h1 ?h2 (by have := HA.out.size; omega) ?_); (case h1 => simp only [maxLen, List.length_singleton]; omega); (case h2 => simp only [List.length_singleton]; omega); intro v5 w5 o5 a5; have hrow : ∀ j, (Value.slice A3 ws3.length c3).ownBlock = some j → B + 1 ≤ j := fun j hj => (Own.lt HO3.out j hj).1; have b5 := (HB3.out.ext HA.out).grown a5.1 (fun e => by have := hrow B e.symm; omega); have cb5 := b5.cell 0; have fb5 := b5.frozen 0; obtain ⟨A5, c5, e5, hc5, hr5⟩ := o5.sl OpenN.enc_len (by omega); subst e5)
      have x5 : Ext w w5 := (HW3.out.ext.trans HA.out).grown a5.1 (fun j hj => by have := hrow j hj; have := HW3.out.lo; omega)
      have hlen : (ws3 ++ [(⟨y, p3, t3⟩ : OpenN)]).length = ws3.length + 1 := by simp
      exact ⟨⟨k + 1, ws3 ++ [⟨y, p3, t3⟩], by omega, by go_num, way_put x5 HW3.out.lo b5 rfl hlen.symm (hlen ▸ o5) (fun z hz => tr_row HO3.out a5.1 (by
          rcases List.mem_append.1 hz with hz | hz
          · exact (HW3.out.trees z hz).ext HA.out
          · simp at hz; subst hz; exact HT3.out.ext HA.out)),
        by rw [HS.out, wayL_snoc, HE.out.1, ← HE.out.2, shutB_some]; rfl, by rw [hlen]; have := HK.out; omega⟩, by simp [intOf]; omega⟩
    · have hge : l.length ≤ k := by omega
      have hof : shutAll (wayL ws) .nil = ofI l := by rw [hwl, List.take_of_length_le hge]; rfl
      have HO := Lib.hid hof
      have HK := Lib.hid hws
      clear hof hwl hws
      go_wp2_with fail
      refine (shut_any true ⟨0, 0, 0⟩ hw (by have := HK.out; omega)).mono ?_; rintro e w3 ⟨v3, ws3, rfl, W3, hw3, hl3, ht3, ch3⟩
      rw [shutB_all, HO.out] at ht3
      go_wp2_with fail
      go_ret
      exact ⟨_, rfl, W3.ext, ht3⟩
end Go.Proofs.Ytlehcagpddgamaa
