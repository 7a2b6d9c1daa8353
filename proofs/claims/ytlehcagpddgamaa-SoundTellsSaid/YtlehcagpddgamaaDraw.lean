/- Package draw: what draws are in memory; New and its two closures. -/
import Derived.Test.YtlehcagpddgamaaMixC
import Derived.Test.YtlehcagpddgamaaAppend
import Derived.Laws.EntriesVeiled
import Derived.Lib.SliceRun
namespace Go.Proofs.Ytlehcagpddgamaa
open Go.RowKit

/-- A number's cell. -/
def E64 (n : Int) : List Value := [.int .u64 n]
theorem E64_len (n : Int) : (E64 n).length = 1 := rfl
theorem u64E : Elem Try.prog 44 29 1 8 E64 := by
  have h : (Try.prog.info? 29).map (fun i => (i.zero, i.size, i.bytes)) = some (some (.int .u64 0), 1, 8) := by kernel_rfl
  obtain ⟨i0, hi, hz0, hz1, hz2⟩ := info_parts h
  exact ⟨Try.underlying44, ⟨i0, _, hi, hz0, hz1, hz2, rfl⟩, by omega, E64_len, fun x u hu => by simp [E64] at hu; subst hu; rfl⟩

/-- What was there is as it was, but for these blocks. -/
structure Chg (S : List Nat) (w w' : World) : Prop where
  os : w'.os = w.os
  tape : w'.tape = w.tape
  output : w'.output = w.output
  size : w.heap.size ≤ w'.heap.size
  block : ∀ b, b < w.heap.size → b ∉ S → w'.heap[b]? = w.heap[b]?
section
variable {S : List Nat} {a b c w w' : World}
theorem Ext.chg (h : Ext a b) (S : List Nat) : Chg S a b := ⟨h.os, h.tape, h.output, h.size, fun k hk _ => h.block k hk⟩
theorem Chg.refl (S : List Nat) (w : World) : Chg S w w := (Ext.refl w).chg S
theorem Chg.trans (h : Chg S a b) (k : Chg S b c) : Chg S a c :=
  ⟨k.os.trans h.os, k.tape.trans h.tape, k.output.trans h.output, Nat.le_trans h.size k.size, fun i hi hn => (k.block i (Nat.lt_of_lt_of_le hi h.size) hn).trans (h.block i hi hn)⟩
theorem Chg.set {p : Addr} (h : Chg S a b) (hp : p.block ∈ S) (u : Value) : Chg S a (b.setCell p u) :=
  ⟨h.os, h.tape, h.output, by simpa using h.size, fun i hi hn => (Below.heap_setCell b p u i (fun e => hn (e ▸ hp))).trans (h.block i hi hn)⟩
theorem Chg.blk {B : Nat} {t : TypeId} {cs : Array Value} (h : Chg S a b) (hb : Blk a B t cs) (hn : B ∉ S) : Blk b B t cs := (h.block B hb.lt hn).trans hb
theorem Chg.ext (h : Chg S a b) (x : Ext w a) (hS : ∀ s ∈ S, w.heap.size ≤ s) : Ext w b :=
  ⟨h.os.trans x.os, h.tape.trans x.tape, h.output.trans x.output, Nat.le_trans x.size h.size, fun k hk => (h.block k (Nat.lt_of_lt_of_le hk x.size) (fun hm => by have := hS k hm; omega)).trans (x.block k hk)⟩
theorem Chg.cell (h : Chg S a b) {p : Addr} (hp : p.block < a.heap.size) (hn : p.block ∉ S) : b.cell? p = a.cell? p := World.cell?_of_block (w := a) (h.block p.block hp hn)
end

/-- A slice that reads as a list, whose row lies in a block from lo on, below hi. -/
def SlB {α : Type} (enc : α → List Value) (lo hi : Nat) (w : World) (v : Value) (l : List α) : Prop :=
  ∃ A c, v = .slice A l.length c ∧ l.length ≤ c ∧ (l ≠ [] → ∃ b off, A = some ⟨b, off, none⟩ ∧ (lo ≤ b ∧ b < hi ∧ b < w.heap.size) ∧ Cells w b off (flat enc l))
section
variable {α : Type} {enc : α → List Value} {lo hi : Nat} {w w' : World} {v : Value} {l : List α}
theorem SlB.sl (h : SlB enc lo hi w v l) : Sl enc w v l := by
  obtain ⟨A, c, rfl, hc, hr⟩ := h
  exact ⟨A, c, rfl, hc, fun hl => by obtain ⟨b, off, e, hb, hcs⟩ := hr hl; exact ⟨b, off, e, hb.2.2, hcs⟩⟩
theorem SlB.chg {S : List Nat} (h : SlB enc lo hi w v l) (k : Chg S w w') (hS : ∀ s ∈ S, s < lo ∨ hi ≤ s) : SlB enc lo hi w' v l := by
  obtain ⟨A, c, rfl, hc, hr⟩ := h
  refine ⟨A, c, rfl, hc, fun hl => ?_⟩
  obtain ⟨b, off, e, hb, hcs⟩ := hr hl
  refine ⟨b, off, e, ⟨hb.1, hb.2.1, Nat.lt_of_lt_of_le hb.2.2 k.size⟩, fun i u hu => (k.cell (p := ⟨b, off + i, none⟩) hb.2.2 ?_).trans (hcs i u hu)⟩
  intro hm
  have := hS _ hm
  simp at this
  omega
theorem SlB.ext (h : SlB enc lo hi w v l) (k : Ext w w') : SlB enc lo hi w' v l := h.chg (k.chg []) (fun s hs => by simp at hs)
theorem SlB.cut {sz : Nat} (he : ∀ x, (enc x).length = sz) {A : Option Addr} {n c : Nat} (h : SlB enc lo hi w (.slice A n c) l) (k : Nat) (hk : k ≤ l.length) : n = l.length ∧ SlB enc lo hi w (.slice (cutA sz A c k) (n - k) (c - k)) (l.drop k) := by
  obtain ⟨A', c', e, hc, hr⟩ := h
  injection e with e1 e2 e3
  subst e1 e2 e3
  refine ⟨rfl, _, _, by rw [List.length_drop], by rw [List.length_drop]; omega, fun hl => ?_⟩
  obtain ⟨b, off, rfl, hb, hcs⟩ := hr (by rintro rfl; simp at hl)
  have h2 := Row.cut he (w := w) (A := some ⟨b, off, none⟩) (l := l) (fun _ => ⟨b, off, rfl, hb.2.2, hcs⟩) k hc hl
  obtain ⟨b2, off2, e2, hb2, hc2⟩ := h2
  refine ⟨b2, off2, e2, ?_, hc2⟩
  unfold cutA at e2
  split at e2
  · simp at e2; omega
  · have hbb : b = b2 := by
      simp [Addr.add] at e2
      split at e2
      · exact (Addr.mk.inj e2).1
      · exact (Addr.mk.inj e2).1
    subst hbb
    exact hb
theorem Own.slB {sz e base : Nat} (he : ∀ x, (enc x).length = sz) (hs : 0 < sz) (h : Own enc e sz base w v l) : SlB enc base w.heap.size w v l := by
  obtain ⟨A, c, rfl, hc, hr⟩ := h.sl he hs
  refine ⟨A, c, rfl, hc, fun hl => ?_⟩
  obtain ⟨b, off, rfl, hb, hcs⟩ := hr hl
  have := h.lt b (by simp [Value.ownBlock])
  exact ⟨b, off, rfl, ⟨this.1, hb, hb⟩, hcs⟩
end

/-- Draws, in memory: the row from block B on; the box of the rest, the struct, the box of its address. -/
def Dr (w : World) (B R D V : Nat) (l : List Int) : Prop :=
  (∃ sv, Blk w R 44 #[sv] ∧ Blk w D 155 #[sv, .func (.func 142) #[] #[.pointer (some ⟨R, 0, none⟩), .pointer (some ⟨V, 0, none⟩)], .func (.func 141) #[] #[.pointer (some ⟨R, 0, none⟩)]] ∧
    Blk w V 47 #[.pointer (some ⟨D, 0, none⟩)] ∧ SlB E64 B R w sv l) ∧ B ≤ R ∧ R < D ∧ D < V
theorem Dr.chg {S : List Nat} {w w' : World} {B R D V : Nat} {l : List Int} (h : Dr w B R D V l) (k : Chg S w w') (hS : ∀ s ∈ S, s < B ∨ V < s) : Dr w' B R D V l := by
  obtain ⟨⟨sv, h1, h2, h3, h4⟩, h5, h6, h7⟩ := h
  refine ⟨⟨sv, k.blk h1 fun hm => ?_, k.blk h2 fun hm => ?_, k.blk h3 fun hm => ?_, h4.chg k fun s hs => ?_⟩, h5, h6, h7⟩
  · have := hS _ hm; omega
  · have := hS _ hm; omega
  · have := hS _ hm; omega
  · have := hS _ hs; omega
theorem Dr.ext {w w' : World} {B R D V : Nat} {l : List Int} (h : Dr w B R D V l) (k : Ext w w') : Dr w' B R D V l := h.chg (k.chg []) (fun s hs => by simp at hs)
theorem Dr.lt {w : World} {B R D V : Nat} {l : List Int} (h : Dr w B R D V l) : V < w.heap.size := by
  obtain ⟨⟨sv, h1, h2, h3, h4⟩, _⟩ := h
  exact h3.lt

set_option maxRecDepth 100000 in
set_option maxHeartbeats 1000000 in
/-- slices.Clone. -/
theorem clone_any {l : List Int} {v : Value} {w : World} (h : Sl E64 w v l) (hl : l.length ≤ 1000) :
    Calls Try.prog 140 #[v] w fun e w' => ∃ v', e = .returned v' ∧ Ext w w' ∧ Own E64 29 1 w.heap.size w' v' l := by
  have hs := h
  obtain ⟨A, c, rfl, hc, hr⟩ := h
  have q : ∀ (W : World) (a : Option Addr) (n c : Nat), (binOp .eql 44 (.slice a n c) (.slice none 0 0)).run Try.prog W = .ok (.bool a.isNone) W := fun W a n c => Lib.run_eql_slice_nil W _ _ a n c 0 0 Try.underlying44
  cases A with
  | none =>
    obtain rfl : l = [] := by
      rcases l with _ | ⟨x, l⟩
      · rfl
      · obtain ⟨b, off, h, _⟩ := hr (by simp); cases h
    clear hs hr hc hl
    go_enter Try.func140, Try.ntmps140
    go_wp2_with fail
    go_ret
    exact ⟨_, rfl, Ext.refl _, Own.nil_ _ _ _⟩
  | some ad =>
    have hn : ([] : List Int).length = 0 := rfl
    have ho := Own.lit (enc := E64) (e := 29) (sz := 1) E64_len (base := w.heap.size) w [] #[] rfl (Nat.le_refl _) (Nat.zero_le _)
    have hs2 := hs.ext ((Ext.refl w).alloc (.cells #[] 29))
    have h1 : ([] : List Int).length + l.length ≤ maxLen := by simp [maxLen]; omega
    have h2 : (([] : List Int).length + l.length) * 8 ≤ 140737488355328 := by simp; omega
    have H1 := Lib.hid h1
    have H2 := Lib.hid h2
    clear h1 h2 hl hn
    generalize hln : l.length = n at hs hs2 ⊢
    clear hr hc hln
    go_enter Try.func140, Try.ntmps140
    go_wp2_with (at_builtin; refine wpList_app u64E rfl (.tmp 5) (.tmp 6) rfl rfl rfl ho hs2 H1.out H2.out (by simp) ?_; intro v5 w5 o5 a5)
    go_ret
    exact ⟨v5, rfl, AppTo.ext a5 ((Ext.refl w).alloc _) ho, o5⟩

set_option maxRecDepth 100000 in
set_option maxHeartbeats 1000000 in
/-- A row of its own. -/
theorem own_any {l : List Int} {v : Value} {w : World} (h : Sl E64 w v l) (hl : l.length ≤ 1000) :
    Calls Try.prog 53 #[v] w fun e w' => ∃ v', e = .returned v' ∧ Ext w w' ∧ Own E64 29 1 w.heap.size w' v' l := by
  have H1 := Lib.hid (show ([] : List Int).length + l.length ≤ maxLen by simp [maxLen]; omega)
  have H2 := Lib.hid (show (([] : List Int).length + l.length) * 8 ≤ 140737488355328 by simp; omega)
  clear hl
  have ho := Own.nil_ (enc := E64) (sz := 1) w 29 w.heap.size
  go_enter Try.func53, Try.ntmps53
  go_wp2_with (at_builtin; refine wpList_app u64E rfl (.const (.slice none 0 0)) (.tmp 3) rfl rfl rfl ho h H1.out H2.out (Nat.le_refl _) ?_; intro v5 w5 o5 a5)
  go_ret
  exact ⟨v5, rfl, AppTo.ext a5 (Ext.refl w) ho, o5⟩

set_option maxRecDepth 100000 in
set_option maxHeartbeats 1000000 in
/-- New draws. -/
theorem new_draws {l : List Int} {v : Value} {w : World} (h : Sl E64 w v l) (hl : l.length ≤ 1000) :
    Calls Try.prog 54 #[v] w fun e w' => ∃ R D V, e = .returned (.pointer (some ⟨D, 0, none⟩)) ∧ Ext w w' ∧ Dr w' w.heap.size R D V l := by
  have hc := clone_any h hl
  clear hl
  go_enter Try.func54, Try.ntmps54
  go_wp2_with fail
  refine hc.mono ?_
  rintro e w1 ⟨v1, rfl, x1, o1⟩
  have hs1 := o1.slB E64_len (by omega)
  obtain ⟨A, c, rfl, hlc, _⟩ := id hs1
  go_wp2_with fail
  go_ret
  have k0 := (((Blk.new w1 44 #[.slice A l.length c]).alloc (.cells #[.slice A l.length c, .func (.func 142) #[] #[.pointer (some ⟨w1.heap.size, 0, none⟩), .pointer (some ⟨w1.heap.size + 1 + 1, 0, none⟩)], .func (.func 141) #[] #[.pointer (some ⟨w1.heap.size, 0, none⟩)]] 155))).alloc (.cells #[.pointer (some ⟨w1.heap.size + 1, 0, none⟩)] 47)
  have k1 := (Blk.new (w1.alloc (.cells #[.slice A l.length c] 44)) 155 #[.slice A l.length c, .func (.func 142) #[] #[.pointer (some ⟨w1.heap.size, 0, none⟩), .pointer (some ⟨w1.heap.size + 1 + 1, 0, none⟩)], .func (.func 141) #[] #[.pointer (some ⟨w1.heap.size, 0, none⟩)]]).alloc (.cells #[.pointer (some ⟨w1.heap.size + 1, 0, none⟩)] 47)
  have k2 := Blk.new ((w1.alloc (.cells #[.slice A l.length c] 44)).alloc (.cells #[.slice A l.length c, .func (.func 142) #[] #[.pointer (some ⟨w1.heap.size, 0, none⟩), .pointer (some ⟨w1.heap.size + 1 + 1, 0, none⟩)], .func (.func 141) #[] #[.pointer (some ⟨w1.heap.size, 0, none⟩)]] 155)) 47 #[.pointer (some ⟨w1.heap.size + 1, 0, none⟩)]
  rw [alloc_size] at k1
  rw [alloc_size, alloc_size] at k2
  have hz := x1.size
  exact ⟨w1.heap.size, w1.heap.size + 1, w1.heap.size + 1 + 1, rfl, ((x1.alloc _).alloc _).alloc _, ⟨_, k0, k1, k2, hs1.ext ((((Ext.refl w1).alloc _).alloc _).alloc _)⟩, hz, by omega, by omega⟩

section
variable {w : World} {B R D V : Nat} {l : List Int} (h : Dr w B R D V l)
include h
set_option maxHeartbeats 1000000 in
theorem left_fn : Calls Try.prog 141 #[.pointer (some ⟨R, 0, none⟩)] w fun e w' => e = .returned (.int .i64 (l.length : Int)) ∧ w' = w := by
  obtain ⟨⟨sv, h1, _, _, A, c, rfl, hc, _⟩, _⟩ := h
  have c0 := h1.cell 0
  clear hc
  go_enter Try.func141, Try.ntmps141
  go_wp2_with fail
  go_ret
  exact ⟨rfl, rfl⟩
set_option maxHeartbeats 1000000 in
theorem left_at_ : Calls Try.prog 55 #[.pointer (some ⟨D, 0, none⟩)] w fun e w' => e = .returned (.int .i64 (l.length : Int)) ∧ w' = w := by
  have hl := left_fn h
  obtain ⟨⟨sv, _, h2, _⟩, _⟩ := h
  have c0 := h2.cell 2
  go_enter Try.func55, Try.ntmps55
  go_wp2_with fail
  refine hl.mono ?_
  rintro e w1 ⟨rfl, rfl⟩
  go_wp2_with fail
  go_ret
  exact ⟨rfl, rfl⟩
/-- The next number, or none. -/
def nextV : List Int → Value | [] => .tuple #[.int .u64 0, .bool false] | x :: _ => .tuple #[.int .u64 x, .bool true]
set_option maxHeartbeats 1000000 in
theorem next_fn : Calls Try.prog 142 #[.pointer (some ⟨R, 0, none⟩), .pointer (some ⟨V, 0, none⟩)] w fun e w' => e = .returned (nextV l) ∧ Dr w' B R D V l.tail ∧ Chg [R, D] w w' := by
  have hd := h
  obtain ⟨⟨sv, h1, h2, h3, h4⟩, h5, h6, h7⟩ := h
  obtain ⟨A, c, rfl, hc, hr⟩ := id h4
  have c0 := h1.cell 0
  have f0 := h1.frozen 0
  have c1 := h2.cell 0
  have f1 := h2.frozen 0
  have c2 := h3.cell 0
  cases l with
  | nil =>
    have hn : ([] : List Int).length = 0 := rfl
    go_enter Try.func142, Try.ntmps142
    go_wp2_with fail
    go_ret2
    exact ⟨rfl, hd, Chg.refl _ _⟩
  | cons x l =>
    obtain ⟨b, off, rfl, hb, hcs⟩ := hr (by simp)
    have cx : w.cell? ⟨b, off, none⟩ = some (.int .u64 x) := by simpa using hcs 0 (.int .u64 x) (by simp [flat, E64])
    obtain ⟨i0, z0, hi, _, hsz, _⟩ := u64E.info
    have hcut := run_cut_l (P := Try.prog) u64E.ht hi hsz (some ⟨b, off, none⟩) (n := l.length + 1) (c := c) 1 1 rfl (by omega)
    have hsb := (h4.cut (sz := 1) E64_len 1 (by simp)).2
    rw [show (x :: l).length - 1 = l.length from by simp, show (x :: l).drop 1 = l from rfl] at hsb
    rw [Nat.add_sub_cancel] at hcut
    generalize cutA 1 (some ⟨b, off, none⟩) c 1 = A1 at hcut hsb
    generalize c - 1 = cc at hcut hsb
    have HB := Lib.hid hsb
    have HD := Lib.hid hd
    have H1 := Lib.hid h1
    have H2 := Lib.hid h2
    have H3 := Lib.hid h3
    have hRD : ¬ R = D := by omega
    have hDR : ¬ D = R := by omega
    have hVR : ¬ V = R := by omega
    have hRV : ¬ R = V := by omega
    have HL := Lib.hid (show B ≤ R ∧ R < D ∧ D < V from ⟨h5, h6, h7⟩)
    have c0 : w.cell? ⟨R, 0, none⟩ = some (.slice (some ⟨b, off, none⟩) (l.length + 1) c) := c0
    have k1 : w.cell? ⟨D, 0, none⟩ = some (.slice (some ⟨b, off, none⟩) (l.length + 1) c) := c1
    clear hsb hd h1 h2 h3 h4 hr hcs hb hc h5 h6 h7 c1 hi hsz
    go_enter Try.func142, Try.ntmps142
    go_wp2_with fail
    go_ret2
    have hl := HL.out
    have y1 := ((H1.out.set 0 (.slice A1 l.length cc)).far (p := ⟨D, 0, none⟩) hRD (.slice A1 l.length cc))
    have y2 := ((H2.out.far (p := ⟨R, 0, none⟩) hDR (.slice A1 l.length cc)).set 0 (.slice A1 l.length cc))
    have y3 := ((H3.out.far (p := ⟨R, 0, none⟩) hVR (.slice A1 l.length cc)).far (p := ⟨D, 0, none⟩) (by simp; omega) (.slice A1 l.length cc))
    have ch : Chg [R, D] w ((w.setCell ⟨R, 0, none⟩ (.slice A1 l.length cc)).setCell ⟨D, 0, none⟩ (.slice A1 l.length cc)) := ((Chg.refl _ w).set (by simp) _).set (by simp) _
    exact ⟨rfl, ⟨⟨_, y1, y2, y3, HB.out.chg ch (fun s hs => by simp at hs; omega)⟩, hl⟩, ch⟩
end
end Go.Proofs.Ytlehcagpddgamaa
