/- joineryref20: Mixed, Unlike. -/
import Derived.Test.YtlehcagpddgamaaTreapE
namespace Go.Proofs.Ytlehcagpddgamaa
open Go.RowKit

/-- Are all beads' tags those of their keys? -/
def mixedL (l : List Bead) : Bool := l.all fun x => decide (x.tag = ((ofB x.key).toNat : Int))
theorem mixedL_ser : ∀ {t : T} {l : List Bead}, Ser l t → mixedL l = mixedT t
  | .nil, _, h => by rw [show _ = [] from h]; rfl
  | .node k x g a b, _, ⟨y, la, lb, hl, e1, e2, e3, _, _, ha, hb⟩ => by
    subst e1 e2 e3
    have h1 := mixedL_ser ha
    have h2 := mixedL_ser hb
    unfold mixedL at *
    rw [hl]
    simp only [List.all_cons, List.all_append, h1, h2, mixedT, Bool.and_assoc]
theorem mixedL_take {l : List Bead} {k : Nat} {x : Bead} (hx : l[k]? = some x) (h : mixedL (l.take k) = true) (e : x.tag = ((ofB x.key).toNat : Int)) : mixedL (l.take (k + 1)) = true := by
  unfold mixedL at *
  rw [List.take_add_one, hx, List.all_append, h]
  simp [e]
theorem mixedL_no {l : List Bead} {k : Nat} {x : Bead} (hx : l[k]? = some x) (e : ¬ x.tag = ((ofB x.key).toNat : Int)) : mixedL l = false := by
  unfold mixedL
  rw [List.all_eq_false]
  exact ⟨x, List.mem_of_getElem? hx, by simpa using e⟩
theorem refOf01 (key : Int) (w : World) : Calls Try.prog 51 #[.int .i64 key] w fun e w' => e = .returned (.int .u64 ((ofB key).toNat : Int)) ∧ Ext w w' := refOf_any key w

set_option maxRecDepth 100000 in
set_option maxHeartbeats 4000000 in
theorem refMixed_any {l : List Bead} {v : Value} {w : World} (h : Sl Bead.enc w v l) (hm : l.length ≤ 100000) :
    Calls Try.prog 88 #[v] w fun e w' => e = .returned (.bool (mixedL l)) ∧ Ext w w' := by
  obtain ⟨A, c, rfl, hc, hr⟩ := h
  go_enter Try.func88, Try.ntmps88
  go_wp2_with fail
  go_loopw [3] (fun i wr => ∃ k : Nat, k ≤ l.length ∧ i = .int .i64 k ∧ mixedL (l.take k) = true ∧ Ext w wr) (fun i _ => l.length - (intOf i).toNat)
  case atStart => exact ⟨0, Nat.zero_le _, rfl, rfl, Ext.refl w⟩
  case round =>
    obtain ⟨k, hk, rfl, ht, hx⟩ := hrel
    have HT := Lib.hid ht
    clear ht
    by_cases hlt : k < l.length
    · obtain ⟨b, off, rfl, hb, hcs⟩ := hr (by intro h; rw [h] at hlt; simp at hlt)
      have hxk : l[k]? = some l[k] := List.getElem?_eq_getElem hlt
      generalize l[k] = y at hxk
      have hcell : ∀ W : World, Ext w W → W.cell? ⟨b, off + k * 7, none⟩ = some (.int .i64 y.key) ∧ W.cell? ⟨b, off + k * 7 + 4, none⟩ = some (.int .u64 y.tag) := by
        intro W X
        obtain ⟨c0, _, _, _, c4, _, _⟩ := bead_cells (hcs.ext X hb) hxk
        exact ⟨c0, c4⟩
      have hlt2 : (k : Int) < (l.length : Int) := by omega
      have HC := Lib.hid hcell
      have HK := Lib.hid hxk
      have HX := Lib.hid hx
      have y0 := Ext.refl wr
      clear hcell hxk hcs hr hx
      by_cases he : y.tag = ((ofB y.key).toNat : Int)
      · have hf := fun W => refOf01 y.key W
        rw [← he] at hf
        have HE := Lib.hid he
        clear he
        go_wp2_with fail
        go_region_held3 (fun W => W.cell? ⟨b, off + k * 7, none⟩ = some (.int .i64 y.key) ∧ W.cell? ⟨b, off + k * 7 + 4, none⟩ = some (.int .u64 y.tag)) (first | exact HC.out _ (HX.out.trans y0) | exact HC.out _ (HX.out.trans (Ext.drew y0)))
          (first
            | (go_at_call 51; refine (hf _).mono ?_; rintro e wa ⟨rfl, xa⟩; have y0 := (by first | exact Ext.trans y0 xa | exact (Ext.drew y0).trans xa)))
        go_wp2_with fail
        exact ⟨⟨k + 1, by omega, by go_num, mixedL_take HK.out HT.out HE.out, HX.out.trans y0⟩, by simp [intOf]; omega⟩
      · have hf := fun W => refOf01 y.key W
        have HE := Lib.hid he
        generalize ((ofB y.key).toNat : Int) = n at hf he
        have hne : (y.tag != n) = true := by simpa using he
        clear he
        go_wp2_with fail
        go_region_held3 (fun W => W.cell? ⟨b, off + k * 7, none⟩ = some (.int .i64 y.key) ∧ W.cell? ⟨b, off + k * 7 + 4, none⟩ = some (.int .u64 y.tag)) (first | exact HC.out _ (HX.out.trans y0) | exact HC.out _ (HX.out.trans (Ext.drew y0)))
          (first
            | (go_at_call 51; refine (hf _).mono ?_; rintro e wa ⟨rfl, xa⟩; have y0 := (by first | exact Ext.trans y0 xa | exact (Ext.drew y0).trans xa)))
        go_wp2_with fail
        go_ret
        exact ⟨congrArg (fun c => Ending.returned (.bool c)) (mixedL_no HK.out HE.out).symm, HX.out.trans y0⟩
    · have hge : l.length ≤ k := by omega
      go_wp2_with fail
      go_ret
      exact ⟨congrArg (fun c => Ending.returned (.bool c)) (by have := HT.out; rw [List.take_of_length_le hge] at this; exact this.symm), hx⟩

/-- No two of the first p are alike. -/
def UnlTo (l : List Item) (p : Nat) : Prop := ∀ i j x y, j < i → i < p → l[i]? = some x → l[j]? = some y → ¬ (x.tag = y.tag ∧ x.key = y.key)
/-- None of the first r is like this one. -/
def UnlAt (l : List Item) (x : Item) (r : Nat) : Prop := ∀ j y, j < r → l[j]? = some y → ¬ (x.tag = y.tag ∧ x.key = y.key)
theorem UnlTo.succ {l : List Item} {p : Nat} {x : Item} (h : UnlTo l p) (hx : l[p]? = some x) (k : UnlAt l x p) : UnlTo l (p + 1) := by
  intro i j a b h1 h2 h3 h4
  rcases Nat.lt_or_ge i p with h5 | h5
  · exact h i j a b h1 h5 h3 h4
  · obtain rfl : i = p := by omega
    rw [hx] at h3
    injection h3 with h3
    subst h3
    exact k j b h1 h4
theorem UnlAt.succ {l : List Item} {r : Nat} {x y : Item} (h : UnlAt l x r) (hy : l[r]? = some y) (k : ¬ (x.tag = y.tag ∧ x.key = y.key)) : UnlAt l x (r + 1) := by
  intro j b h1 h2
  rcases Nat.lt_or_ge j r with h5 | h5
  · exact h j b h5 h2
  · obtain rfl : j = r := by omega
    rw [hy] at h2
    injection h2 with h2
    subst h2
    exact k
theorem unl_all {l : List Item} {p : Nat} (h : UnlTo l p) (hp : l.length ≤ p) : Unl l := by
  unfold Unl
  rw [List.pairwise_iff_getElem]
  intro i j hi hj hij e
  exact h j i l[j] l[i] hij (by omega) (List.getElem?_eq_getElem hj) (List.getElem?_eq_getElem hi) ⟨e.1.symm, e.2.symm⟩
theorem unl_no {l : List Item} {i j : Nat} {x y : Item} (hij : j < i) (hx : l[i]? = some x) (hy : l[j]? = some y) (h1 : x.tag = y.tag) (h2 : x.key = y.key) : ¬ Unl l := by
  unfold Unl
  rw [List.pairwise_iff_getElem]
  intro h
  obtain ⟨hi, rfl⟩ := List.getElem?_eq_some_iff.1 hx
  obtain ⟨hj, rfl⟩ := List.getElem?_eq_some_iff.1 hy
  exact h j i hj hi hij ⟨h1.symm, h2.symm⟩

set_option maxRecDepth 100000 in
set_option maxHeartbeats 4000000 in
theorem unlike_any {l : List Item} {v : Value} {w : World} (h : Sl Item.enc w v l) (hm : l.length ≤ 100000) :
    Calls Try.prog 77 #[v] w fun e w' => (∃ b : Bool, e = .returned (.bool b) ∧ (b = true ↔ Unl l)) ∧ Ext w w' := by
  obtain ⟨A, c, rfl, hc, hr⟩ := h
  go_enter Try.func77, Try.ntmps77
  go_wp2_with fail
  go_loopw [3] (fun i wr => ∃ p : Nat, p ≤ l.length ∧ i = .int .i64 p ∧ UnlTo l p ∧ Ext w wr) (fun i _ => l.length - (intOf i).toNat)
  case atStart => exact ⟨0, Nat.zero_le _, rfl, fun i j x y h1 h2 => by omega, Ext.refl w⟩
  case round =>
    obtain ⟨p, hp, rfl, hu, hx⟩ := hrel
    have HU := Lib.hid hu
    have HX := Lib.hid hx
    clear hu hx
    by_cases hlt : p < l.length
    · obtain ⟨b, off, rfl, hb, hcs⟩ := hr (by intro h; rw [h] at hlt; simp at hlt)
      have hxk : l[p]? = some l[p] := List.getElem?_eq_getElem hlt
      generalize l[p] = x at hxk
      have hcell : ∀ (W : World) (i : Nat) (z : Item), Ext w W → l[i]? = some z → W.cell? ⟨b, off + i * 3, none⟩ = some (.int .i64 z.key) ∧ W.cell? ⟨b, off + i * 3 + 2, none⟩ = some (.int .u64 z.tag) := by
        intro W i z X hz
        obtain ⟨c0, _, c2⟩ := item_cells (hcs.ext X hb) hz
        exact ⟨c0, c2⟩
      have HC := Lib.hid hcell
      have HK := Lib.hid hxk
      clear hcell hxk hcs hr
      go_wp2_with fail
      go_loopw [4] (fun i wr => ∃ r : Nat, r ≤ p ∧ i = .int .i64 r ∧ UnlAt l x r ∧ Ext w wr) (fun i _ => p - (intOf i).toNat)
      case atStart => exact ⟨0, Nat.zero_le _, rfl, fun j y h1 => by omega, HX.out⟩
      case round =>
        clear HX
        obtain ⟨r, hrp, rfl, hu, hx⟩ := hrel
        have HA := Lib.hid hu
        clear hu
        by_cases hlr : r < p
        · have hlr2 : r < l.length := by omega
          have hyk : l[r]? = some l[r] := List.getElem?_eq_getElem hlr2
          generalize l[r] = y at hyk
          obtain ⟨a0, a2⟩ := HC.out _ _ _ hx HK.out
          obtain ⟨d0, d2⟩ := HC.out _ _ _ hx hyk
          have HX := Lib.hid hx
          have HY := Lib.hid hyk
          clear hx hyk
          by_cases h1 : x.tag = y.tag
          · have q1 : (x.tag == y.tag) = true := by simpa using h1
            by_cases h2 : x.key = y.key
            · have q2 : (x.key == y.key) = true := by simpa using h2
              have HN := Lib.hid (unl_no hlr HK.out HY.out h1 h2)
              clear h1 h2
              go_wp2_with fail
              go_quiet (fail)
              go_wp2_with fail
              go_ret
              exact ⟨⟨false, rfl, ⟨fun h => (by cases h), fun h => absurd h HN.out⟩⟩, HX.out.drewN nq⟩
            · have q2 : (x.key == y.key) = false := by simpa using h2
              have HN := Lib.hid (UnlAt.succ HA.out HY.out (fun h => h2 h.2))
              clear h1 h2
              go_wp2_with fail
              go_quiet (fail)
              go_wp2_with fail
              exact ⟨⟨r + 1, by omega, by go_num, HN.out, HX.out.drewN nq⟩, by simp [intOf]; omega⟩
          · have q1 : (x.tag == y.tag) = false := by simpa using h1
            have HN := Lib.hid (UnlAt.succ HA.out HY.out (fun h => h1 h.1))
            clear h1
            go_wp2_with fail
            go_quiet (fail)
            go_wp2_with fail
            exact ⟨⟨r + 1, by omega, by go_num, HN.out, HX.out.drewN nq⟩, by simp [intOf]; omega⟩
        · obtain rfl : r = p := by omega
          go_wp2_with fail
          exact ⟨⟨r + 1, by omega, by go_num, UnlTo.succ HU.out HK.out HA.out, hx⟩, by simp [intOf]; omega⟩
    · have hge : l.length ≤ p := by omega
      go_wp2_with fail
      go_ret
      exact ⟨⟨true, rfl, ⟨fun _ => unl_all HU.out hge, fun _ => rfl⟩⟩, HX.out⟩
end Go.Proofs.Ytlehcagpddgamaa
