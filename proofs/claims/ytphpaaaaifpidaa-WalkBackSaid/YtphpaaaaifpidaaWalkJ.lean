/- Package walk: From by no order; the document's walk: joineryref35. -/
import Derived.Test.YtphpaaaaifpidaaWalkI
namespace Go.Proofs.Ytphpaaaaifpidaa
open Go.RowKit
set_option linter.unusedVariables false

set_option maxRecDepth 100000 in
set_option maxHeartbeats 4000000 in
theorem from_bad {o : Int} (h : ¬ (1 ≤ o ∧ o ≤ 7)) {a : A} {key : Int} {w : World} (ha : AP (fun b => b < w.heap.size) w a) (hm : a.size ≤ 100000) :
    Calls Try.prog 31 #[.int .u8 o, .pointer a.ptr, .int .i64 key] w fun e w' => ∃ B, e = .returned (.pointer (some ⟨B, 0, none⟩)) ∧ NewW w w' B a a.size := by
  have NM := Lib.hid (fun W => name_no h W)
  have hne : (nmB 0).toList.isEmpty = true := by kernel_rfl
  have SZ := Lib.hid (sizeA ha (by omega))
  generalize nmB 0 = nn at *
  clear ha hm h
  go_enter Try.func31, Try.ntmps31
  go_wp2_with fail
  go_step3
  go_wp2_with fail
  refine SZ.out.mono ?_; rintro e w1 ⟨rfl, x1⟩
  go_wp2_with fail
  refine (NM.out _).mono ?_; rintro e w2 ⟨rfl, x2⟩
  go_wp2_with fail
  go_step3
  go_wp2_with fail
  have b1 := (Blk.new w1 89 #[.pointer a.ptr, .slice none 0 0, .int .i64 (a.size : Int)]).ext x2
  have x3 : Ext w w2 := (x1.alloc _).trans x2
  have F0 : FInv w w2 w1.heap.size a [] [] (.slice none 0 0) (.slice none 0 0) (a.size : Int) :=
    ⟨b1, Own.nil_ _ _ _, Own.nil_ _ _ _, x1.size, fun k hk => by simp [Value.ownBlock] at hk, fun k hk => by simp [Value.ownBlock] at hk, x3⟩
  have F0 := Lib.hid F0
  clear x1 x2 x3 b1 SZ NM hne
  go_loopg [9] 0 (fun g nv wr => nv = .pointer none ∧ wr = w2)
  case atStart => exact ⟨rfl, rfl⟩
  case round =>
    obtain ⟨rfl, rfl⟩ := hrel
    go_wp2_with fail
    try rw [Exit.noGoto_ret]
    go_ret
    exact ⟨_, rfl, F0.out.done (.inl ⟨.inr rfl, rfl⟩)⟩

/-- The document's walk in memory: the struct in block R, the row behind block lo. -/
def RW (w : World) (R lo : Nat) (L : List (Int × Int)) (p : Int) : Prop := (∃ sv, Blk w R 101 #[sv, .int .i64 p] ∧ SlB EP lo R w sv L) ∧ lo ≤ R
section
variable {w w' : World} {R lo : Nat} {L : List (Int × Int)} {p : Int}
theorem RW.keep {P : Nat → Prop} (h : RW w R lo L p) (k : Keep P w w') (hP : ∀ b, lo ≤ b → b ≤ R → P b) : RW w' R lo L p := by
  obtain ⟨⟨sv, h1, A, c, rfl, h3, h4⟩, h5⟩ := h
  refine ⟨⟨_, k.blk h1 (hP R h5 (Nat.le_refl _)), A, c, rfl, h3, fun hl => ?_⟩, h5⟩
  obtain ⟨b, off, e, hb, hcs⟩ := h4 hl
  refine ⟨b, off, e, ⟨hb.1, hb.2.1, Nat.lt_of_lt_of_le hb.2.2 k.size⟩, fun i u hu => (k.cell (p := ⟨b, off + i, none⟩) hb.2.2 (hP b hb.1 (by omega))).trans (hcs i u hu)⟩
theorem RW.ext (h : RW w R lo L p) (k : Ext w w') : RW w' R lo L p := h.keep (k.keep (fun _ => True)) (fun _ _ _ => trivial)
theorem RW.lt (h : RW w R lo L p) : R < w.heap.size := by obtain ⟨⟨sv, h1, _⟩, _⟩ := h; exact h1.lt
theorem RW.cells (h : RW w R lo L p) : ∃ A c, w.cell? ⟨R, 0, none⟩ = some (.slice A L.length c) ∧ w.cell? ⟨R, 1, none⟩ = some (.int .i64 p) ∧ (∀ i, w.frozen? ⟨R, i, none⟩ = false) ∧ R < w.heap.size := by
  obtain ⟨⟨sv, h1, A, c, rfl, h3, h4⟩, h5⟩ := h
  exact ⟨A, c, h1.cell 0, h1.cell 1, fun i => h1.frozen i, h1.lt⟩
theorem RW.place (h : RW w R lo L p) (q : Int) : RW (w.setCell ⟨R, 1, none⟩ (.int .i64 q)) R lo L q := by
  obtain ⟨⟨sv, h1, h2⟩, h5⟩ := h
  exact ⟨⟨sv, h1.set 1 _, h2.chg ((Chg.refl [R] w).set (by simp) _) (fun s hs => by simp at hs; omega)⟩, h5⟩
end
theorem new_rw {w w1 : World} {sv : Value} {L : List (Int × Int)} {p : Int} (x1 : Ext w w1) (ho : Own EP 48 2 w.heap.size w1 sv L) : RW (w1.alloc (.cells #[sv, .int .i64 p] 101)) w1.heap.size w.heap.size L p :=
  ⟨⟨sv, Blk.new w1 _ _, (ho.slB EP_len (by omega)).ext ((Ext.refl w1).alloc _)⟩, x1.size⟩

set_option maxRecDepth 100000 in
set_option maxHeartbeats 4000000 in
theorem rfirst_any {t : T} {l : List Bead} {v : Value} {w : World} (h : Sl Bead.enc w v l) (hs : Ser l t) (hh : t.height ≤ 5001) (hm : l.length ≤ 100000) :
    Calls Try.prog 33 #[v] w fun e w' => ∃ R, e = .returned (.pointer (some ⟨R, 0, none⟩)) ∧ Ext w w' ∧ RW w' R w.heap.size t.pairs 0 := by
  have PA := refPairs_any t h hs hh hm
  clear h hs hh hm
  go_enter Try.func33, Try.ntmps33
  go_wp2_with fail
  refine PA.mono ?_; rintro e w1 ⟨v1, rfl, x1, o1⟩
  have N1 := Lib.hid (new_rw (p := 0) x1 o1)
  obtain ⟨A, c, rfl, _, _⟩ := o1.sl EP_len (by omega)
  go_wp2_with fail
  go_ret
  exact ⟨_, rfl, x1.alloc _, N1.out⟩
set_option maxRecDepth 100000 in
set_option maxHeartbeats 4000000 in
theorem rlast_any {t : T} {l : List Bead} {v : Value} {w : World} (h : Sl Bead.enc w v l) (hs : Ser l t) (hh : t.height ≤ 5001) (hm : l.length ≤ 100000) :
    Calls Try.prog 35 #[v] w fun e w' => ∃ R, e = .returned (.pointer (some ⟨R, 0, none⟩)) ∧ Ext w w' ∧ RW w' R w.heap.size t.pairs ((t.size : Int) - 1) := by
  have PA := refPairs_any t h hs hh hm
  have hlen := T.pairs_length t
  have hsz : t.size ≤ 100000 := by rw [← hs.length]; exact hm
  clear h hs hh hm
  go_enter Try.func35, Try.ntmps35
  go_wp2_with fail
  refine PA.mono ?_; rintro e w1 ⟨v1, rfl, x1, o1⟩
  have N1 := Lib.hid (new_rw (p := (t.size : Int) - 1) x1 o1)
  obtain ⟨A, c, rfl, _, _⟩ := o1.sl EP_len (by omega)
  rw [hlen] at N1 ⊢
  go_wp2_with fail
  go_ret
  exact ⟨_, rfl, x1.alloc _, N1.out⟩
end Go.Proofs.Ytphpaaaaifpidaa
