/- The statement WalkBack: what stands between the steps. -/
import Derived.Test.YtphpaaaaifpidaaWalkO
import Derived.Test.YtphpaaaaifpidaaSee
namespace Go.Proofs.Ytphpaaaaifpidaa
open Go.RowKit
set_option linter.unusedVariables false

theorem EP_len35 (x : Int × Int) : (EP x).length = 2 := rfl
/-- The walk stands at a place; the pairs' row, and pairs that were laid by, are kept. -/
structure Bk (w0 wr : World) (P : Nat → Prop) (B : Nat) (a : A) (p : Int) (pv : Value) (K : List (Nat × Int × Int)) : Prop where
  k : Wks P wr B a p
  lt : ∀ b, P b → b < wr.heap.size
  base : ∀ b, b < w0.heap.size → P b
  x : Ext w0 wr
  o : Own EP 48 2 0 wr pv a.tree.pairs
  ob : ∀ k, pv.ownBlock = some k → P k
  ks : ∀ q ∈ K, P q.1 ∧ Blk wr q.1 48 #[.int .i64 q.2.1, .int .i64 q.2.2]
section
variable {w0 wr w' : World} {P : Nat → Prop} {B : Nat} {a : A} {p q : Int} {pv : Value} {K : List (Nat × Int × Int)}
theorem Bk.ap (h : Bk w0 wr P B a p pv K) (ha : AP (fun b => b < w0.heap.size) w0 a) : AP P wr a := (ha.keep (h.x.keep _)).sub (fun k _ hk => h.base k hk)
theorem Bk.ext (h : Bk w0 wr P B a p pv K) (x : Ext wr w') : Bk w0 w' P B a p pv K :=
  ⟨h.k.ext x, fun b hb => Nat.lt_of_lt_of_le (h.lt b hb) x.size, h.base, h.x.trans x, h.o.ext x, h.ob, fun q hq => ⟨(h.ks q hq).1, (h.ks q hq).2.ext x⟩⟩
theorem Bk.step (h : Bk w0 wr P B a p pv K) (k : Wks P w' B a q) (y : Keep P wr w') : Bk w0 w' P B a q pv K :=
  ⟨k, fun b hb => Nat.lt_of_lt_of_le (h.lt b hb) y.size, h.base, y.ext h.x h.base, h.o.same (fun k hk => y.block k (h.o.lt k hk).2 (h.ob k hk)), h.ob, fun q hq => ⟨(h.ks q hq).1, y.blk (h.ks q hq).2 (h.ks q hq).1⟩⟩
/-- A pair is laid by. -/
theorem Bk.lay (h : Bk w0 wr P B a p pv K) (x : Ext wr w') (k v : Int) :
    ∃ P', Bk w0 (w'.alloc (.cells #[.int .i64 k, .int .i64 v] 48)) P' B a p pv ((w'.heap.size, k, v) :: K) := by
  have y := x.alloc (.cells #[.int .i64 k, .int .i64 v] 48)
  have h2 := h.ext y
  refine ⟨More P wr (w'.alloc (.cells #[.int .i64 k, .int .i64 v] 48)), h.k.more y, fun b hb => ?_, fun b hb => .inl (h.base b hb), h2.x, h2.o, fun k hk => .inl (h.ob k hk), fun q hq => ?_⟩
  · exact More.lt h.lt y.size b hb
  · rcases List.mem_cons.1 hq with rfl | hq
    · exact ⟨.inr ⟨x.size, by simp⟩, Blk.new w' 48 _⟩
    · exact ⟨.inl (h.ks q hq).1, (h2.ks q hq).2⟩
theorem Bk.next {r : Bool} (h : Bk w0 wr P B a p pv K) (ha : AP (fun b => b < w0.heap.size) w0 a) (hm : a.size ≤ 100000) (h1 : moveI a.size true p = q) (h2 : decide (0 ≤ q ∧ q < (a.size : Int) ∧ q ≠ p) = r) :
    Calls Try.prog 28 #[.pointer (some ⟨B, 0, none⟩)] wr fun e w' => e = .returned (.bool r) ∧ Bk w0 w' P B a q pv K := by
  refine (next_is h.k (h.ap ha) h.lt hm h1 (r := r) ?_).mono ?_
  · rw [← h2, ← Bool.decide_and]; congr 1; simp [and_assoc]
  · rintro e w' ⟨rfl, h3, h4⟩
    exact ⟨rfl, h.step h3 h4⟩
theorem Bk.prev {r : Bool} (h : Bk w0 wr P B a p pv K) (ha : AP (fun b => b < w0.heap.size) w0 a) (hm : a.size ≤ 100000) (h1 : moveI a.size false p = q) (h2 : decide (0 ≤ q ∧ q < (a.size : Int) ∧ q ≠ p) = r) :
    Calls Try.prog 26 #[.pointer (some ⟨B, 0, none⟩)] wr fun e w' => e = .returned (.bool r) ∧ Bk w0 w' P B a q pv K := by
  refine (prev_is h.k (h.ap ha) h.lt hm h1 (r := r) ?_).mono ?_
  · rw [← h2, ← Bool.decide_and]; congr 1; simp [and_assoc]
  · rintro e w' ⟨rfl, h3, h4⟩
    exact ⟨rfl, h.step h3 h4⟩
theorem Bk.go {k : Int} (h : Bk w0 wr P B a p pv K) (ha : AP (fun b => b < w0.heap.size) w0 a) (hm : a.size ≤ 100000) (hk : InR k) (h1 : clampI a.size (p + k) = q) :
    Calls Try.prog 30 #[.pointer (some ⟨B, 0, none⟩), .int .i64 k] wr fun e w' => e = .returned (.int .i64 0) ∧ Bk w0 w' P B a q pv K := by
  refine (go_is h.k (h.ap ha) h.lt hm hk h1).mono ?_
  rintro e w' ⟨rfl, h3, h4⟩
  exact ⟨rfl, h.step h3 h4⟩
theorem Bk.here {v : Value} (h : Bk w0 wr P B a p pv K) (ha : AP (fun b => b < w0.heap.size) w0 a) (hm : a.size ≤ 100000) (hv : hereP a.tree.pairs p = v) :
    Calls Try.prog 29 #[.pointer (some ⟨B, 0, none⟩)] wr fun e w' => e = .returned v ∧ Ext wr w' := here_is h.k (h.ap ha) hm hv
theorem Bk.place (h : Bk w0 wr P B a p pv K) : Calls Try.prog 27 #[.pointer (some ⟨B, 0, none⟩)] wr fun e w' => e = .returned (.int .i64 p) ∧ w' = wr := place_any h.k
theorem Bk.drop (h : Bk w0 wr P B a p pv K) : Bk w0 wr P B a p pv [] := ⟨h.k, h.lt, h.base, h.x, h.o, h.ob, fun q hq => by simp at hq⟩
theorem Bk.start {w1 w2 : World} (n : NewW w0 w1 B a p) (x : Ext w1 w2) (o : Own EP 48 2 w1.heap.size w2 pv a.tree.pairs) : Bk w0 w2 (More (fun b => b < w0.heap.size) w1 w2) B a p pv [] := by
  have h1 := n.1.size
  have h2 := x.size
  refine ⟨Wks.more n.2 x, fun b hb => by rcases hb with hb | hb <;> omega, fun b hb => .inl hb, n.1.trans x, o.mono (Nat.zero_le _), fun k hk => .inr (o.lt k hk), fun q hq => by simp at hq⟩
/-- A pair of the row. -/
theorem Bk.row {A : Option Addr} {N c i : Nat} {k v : Int} (h : Bk w0 wr P B a p (.slice A N c) K) (hx : a.tree.pairs[i]? = some (k, v)) :
    ∃ b off, A = some ⟨b, off, none⟩ ∧ wr.cell? ⟨b, off + i * 2, none⟩ = some (.int .i64 k) ∧ wr.cell? ⟨b, off + i * 2 + 1, none⟩ = some (.int .i64 v) := by
  obtain ⟨A', c', e, hc, hr⟩ := h.o.sl EP_len35 (by omega)
  injection e with e1 e2 e3
  subst e1
  obtain ⟨b, off, rfl, hb, hcs⟩ := hr (by rintro e; rw [e] at hx; simp at hx)
  have hce := Cells.elem EP_len35 hcs hx
  have c0 := hce 0 _ rfl
  have c1 := hce 1 _ rfl
  rw [Nat.add_zero] at c0
  exact ⟨b, off, rfl, c0, c1⟩
theorem Bk.cells {q : Nat} {k v : Int} (h : Bk w0 wr P B a p pv K) (hq : (q, k, v) ∈ K) : wr.cell? ⟨q, 0, none⟩ = some (.int .i64 k) ∧ wr.cell? ⟨q, 1, none⟩ = some (.int .i64 v) := ⟨(h.ks _ hq).2.cell 0, (h.ks _ hq).2.cell 1⟩
end
end Go.Proofs.Ytphpaaaaifpidaa
