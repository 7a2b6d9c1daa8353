/- The statement WalkTells: what stands between the steps. -/
import Derived.Test.YtphpaaaaifpidaaWalkN
import Derived.Test.YtphpaaaaifpidaaSee
namespace Go.Proofs.Ytphpaaaaifpidaa
open Go.RowKit
set_option linter.unusedVariables false

/-- Both walks stand at a place; none of their blocks was there, none of the one is the other's. -/
structure St (w0 wr : World) (P : Nat → Prop) (B R lo : Nat) (a : A) (p : Int) : Prop where
  k : Wks P wr B a p
  r : RW wr R lo a.tree.pairs p
  lt : ∀ b, P b → b < wr.heap.size
  base : ∀ b, b < w0.heap.size → P b
  row : ∀ b, lo ≤ b → b ≤ R → P b
  x : Ext w0 wr
  lo0 : w0.heap.size ≤ lo
section
variable {w0 wr w w' : World} {P : Nat → Prop} {B B' R lo : Nat} {a : A} {p q : Int}
theorem St.ext (h : St w0 wr P B R lo a p) (x : Ext wr w') : St w0 w' P B R lo a p :=
  ⟨h.k.ext x, h.r.ext x, fun b hb => Nat.lt_of_lt_of_le (h.lt b hb) x.size, h.base, h.row, h.x.trans x, h.lo0⟩
theorem St.start {W w1 w2 : World} (x0 : Ext w0 W) (n : NewW W w1 B a p) (x : Ext w1 w2) (r : RW w2 R w1.heap.size a.tree.pairs p) : St w0 w2 (More (fun b => b < W.heap.size) w1 w2) B R w1.heap.size a p := by
  have hr := r.lt
  have h1 := x0.size
  have h2 := n.1.size
  have h3 := x.size
  exact ⟨Wks.more n.2 x, r, fun b hb => by rcases hb with hb | hb <;> omega, fun b hb => .inl (by omega), fun b h1 h2 => .inr ⟨h1, by omega⟩, (x0.trans n.1).trans x, by omega⟩
theorem St.ap (h : St w0 wr P B R lo a p) (ha : AP (fun b => b < w0.heap.size) w0 a) : AP P wr a := (ha.keep (h.x.keep _)).sub (fun k _ hk => h.base k hk)
/-- The walk has moved; the document's not yet. -/
structure Hf (w0 wr : World) (P : Nat → Prop) (B R lo : Nat) (a : A) (p q : Int) : Prop where
  k : Wks P wr B a q
  r : RW wr R lo a.tree.pairs p
  lt : ∀ b, P b → b < wr.heap.size
  base : ∀ b, b < w0.heap.size → P b
  row : ∀ b, lo ≤ b → b ≤ R → P b
  x : Ext w0 wr
  lo0 : w0.heap.size ≤ lo
theorem St.half (h : St w0 wr P B R lo a p) (k : Wks P w' B a q) (y : Keep P wr w') : Hf w0 w' P B R lo a p q :=
  ⟨k, h.r.keep y h.row, fun b hb => Nat.lt_of_lt_of_le (h.lt b hb) y.size, h.base, h.row, y.ext h.x h.base, h.lo0⟩
theorem Hf.ext (h : Hf w0 wr P B R lo a p q) (x : Ext wr w') : Hf w0 w' P B R lo a p q :=
  ⟨h.k.ext x, h.r.ext x, fun b hb => Nat.lt_of_lt_of_le (h.lt b hb) x.size, h.base, h.row, h.x.trans x, h.lo0⟩
theorem Hf.full (h : Hf w0 wr P B R lo a p q) (r : RW w' R lo a.tree.pairs q) (y : Keep (fun b => b ≠ R) wr w') : St w0 w' P B R lo a q := by
  have hR : P R := h.row R h.r.2 (Nat.le_refl _)
  exact ⟨h.k.keep y (fun b _ hn e => hn (e ▸ hR)), r, fun b hb => Nat.lt_of_lt_of_le (h.lt b hb) y.size, h.base, h.row, y.ext h.x (fun k hk e => by have := h.lo0; have := h.r.2; omega), h.lo0⟩
/-- It goes on with the copy, and the other one has gone away. -/
theorem St.copied {w1 w2 : World} (h : St w0 wr P B R lo a p) (n : NewW wr w1 B' a p) (y : Keep (More P wr w1) w1 w2) : St w0 w2 P B' R lo a p := by
  have x := n.1
  have h1 := x.size
  refine ⟨(n.2.keep y (fun b hb hn => .inr ⟨by omega, hb⟩)).sub h.lt, (h.r.ext x).keep y (fun b h1 h2 => .inl (h.row b h1 h2)), fun b hb => ?_, h.base, h.row, ?_, h.lo0⟩
  · have := h.lt b hb; have := y.size; omega
  · exact y.ext (h.x.trans x) (fun k hk => .inl (h.base k hk))
end
theorem moved_dec {n : Nat} {d : Bool} {p : Int} (h : -1 ≤ p ∧ p ≤ n) : (decide (0 ≤ moveI n d p ∧ moveI n d p < (n : Int)) && decide (moveI n d p ≠ p)) = decide (0 ≤ moveI n d p ∧ moveI n d p < (n : Int)) := by
  by_cases h1 : moveI n d p = p
  · have h2 : ¬ (0 ≤ moveI n d p ∧ moveI n d p < (n : Int)) := by
      unfold moveI at *
      cases d
      · simp only [Bool.false_eq_true, if_false] at *
        split at h1
        · omega
        · rw [if_neg (by assumption)]; omega
      · simp only [if_true] at *
        split at h1
        · omega
        · rw [if_neg (by assumption)]; omega
    simp [h2]
  · simp [h1]
theorem move_right {n : Nat} {p : Int} (h : -1 ≤ p ∧ p ≤ n) : clampI n (p + 1) = moveI n true p := by
  unfold clampI moveI; simp only [if_true]; repeat' split
  all_goals omega
theorem move_left {n : Nat} {p : Int} (h : -1 ≤ p ∧ p ≤ n) : clampI n (p + -1) = moveI n false p := by
  unfold clampI moveI; simp only [Bool.false_eq_true, if_false]; repeat' split
  all_goals omega
/-- Is there a pair? -/
theorem hereP_is (L : List (Int × Int)) (p : Int) : ∃ k x, hereP L p = .tuple #[.agg #[.int .i64 k, .int .i64 x], .bool (decide (0 ≤ p ∧ p < (L.length : Int)))] := by
  by_cases h : 0 ≤ p ∧ p < (L.length : Int)
  · have hin : p.toNat < L.length := by omega
    have hx : L[p.toNat]? = some (L[p.toNat].1, L[p.toNat].2) := List.getElem?_eq_getElem hin
    rw [hereP_yes h.1 hx, decide_eq_true h]
    exact ⟨_, _, rfl⟩
  · rw [hereP_no h, decide_eq_false h]
    exact ⟨_, _, rfl⟩
section
variable {w0 wr : World} {P : Nat → Prop} {B R lo : Nat} {a : A} {p : Int}
theorem St.stands (h : St w0 wr P B R lo a p) (ha : AP (fun b => b < w0.heap.size) w0 a) (hm : a.size ≤ 100000) :
    Calls Try.prog 36 #[.pointer (some ⟨B, 0, none⟩), .pointer (some ⟨R, 0, none⟩)] wr fun e w' => e = .returned (.bool true) ∧ Ext wr w' := stands_any h.k (h.ap ha) hm h.r
theorem St.next (h : St w0 wr P B R lo a p) (ha : AP (fun b => b < w0.heap.size) w0 a) (hm : a.size ≤ 100000) :
    Calls Try.prog 28 #[.pointer (some ⟨B, 0, none⟩)] wr fun e w' => e = .returned (.bool (decide (0 ≤ moveI a.size true p ∧ moveI a.size true p < (a.size : Int)))) ∧ Hf w0 w' P B R lo a p (moveI a.size true p) := by
  refine (next_any h.k (h.ap ha) h.lt hm).mono ?_
  rintro e w' ⟨rfl, h1, h2⟩
  exact ⟨by rw [moved_dec h.k.range], h.half h1 h2⟩
theorem St.prev (h : St w0 wr P B R lo a p) (ha : AP (fun b => b < w0.heap.size) w0 a) (hm : a.size ≤ 100000) :
    Calls Try.prog 26 #[.pointer (some ⟨B, 0, none⟩)] wr fun e w' => e = .returned (.bool (decide (0 ≤ moveI a.size false p ∧ moveI a.size false p < (a.size : Int)))) ∧ Hf w0 w' P B R lo a p (moveI a.size false p) := by
  refine (prev_any h.k (h.ap ha) h.lt hm).mono ?_
  rintro e w' ⟨rfl, h1, h2⟩
  exact ⟨by rw [moved_dec h.k.range], h.half h1 h2⟩
theorem St.go (h : St w0 wr P B R lo a p) (ha : AP (fun b => b < w0.heap.size) w0 a) (hm : a.size ≤ 100000) {n : Int} (hn : InR n) :
    Calls Try.prog 30 #[.pointer (some ⟨B, 0, none⟩), .int .i64 n] wr fun e w' => e = .returned (.int .i64 0) ∧ Hf w0 w' P B R lo a p (clampI a.size (p + n)) := by
  refine (go_any h.k (h.ap ha) h.lt hm hn).mono ?_
  rintro e w' ⟨rfl, h1, h2⟩
  exact ⟨rfl, h.half h1 h2⟩
theorem Hf.go {q n : Int} (h : Hf w0 wr P B R lo a p q) (hp : -1 ≤ p ∧ p ≤ a.size) (hm : a.size ≤ 100000) (hn : InR n) (hq : clampI a.size (p + n) = q) :
    Calls Try.prog 37 #[.pointer (some ⟨R, 0, none⟩), .int .i64 n] wr fun e w' => e = .returned (.tuple #[]) ∧ St w0 w' P B R lo a q := by
  have hlen : a.tree.pairs.length = a.size := by rw [T.pairs_length, A.size_tree]
  refine (rgo_any h.r (by rw [hlen]; exact hp) (by omega) hn).mono ?_
  rintro e w' ⟨rfl, h1, h2⟩
  rw [hlen, hq] at h1
  exact ⟨rfl, h.full h1 h2⟩
theorem St.here (h : St w0 wr P B R lo a p) (hm : a.size ≤ 100000) :
    Calls Try.prog 38 #[.pointer (some ⟨R, 0, none⟩)] wr fun e w' => ∃ k x, e = .returned (.tuple #[.agg #[.int .i64 k, .int .i64 x], .bool (decide (0 ≤ p ∧ p < (a.size : Int)))]) ∧ Ext wr w' := by
  have hlen : a.tree.pairs.length = a.size := by rw [T.pairs_length, A.size_tree]
  refine (rhere_any h.r (by rw [hlen]; exact h.k.range) (by omega)).mono ?_
  rintro e w' ⟨rfl, x⟩
  obtain ⟨k, y, e⟩ := hereP_is a.tree.pairs p
  rw [hlen] at e
  exact ⟨k, y, by rw [e], x⟩
theorem St.copy (h : St w0 wr P B R lo a p) (hm : a.size ≤ 100000) :
    Calls Try.prog 39 #[.pointer (some ⟨B, 0, none⟩)] wr fun e w' => ∃ B', e = .returned (.pointer (some ⟨B', 0, none⟩)) ∧ NewW wr w' B' a p := copy_any h.k hm
theorem St.gone {w1 : World} {B' : Nat} (h : St w0 wr P B R lo a p) (c : NewW wr w1 B' a p) (ha : AP (fun b => b < w0.heap.size) w0 a) (hm : a.size ≤ 100000) {n : Int} (hn : InR n) :
    Calls Try.prog 30 #[.pointer (some ⟨B, 0, none⟩), .int .i64 n] w1 fun e w' => e = .returned (.int .i64 0) ∧ St w0 w' P B' R lo a p := by
  refine (go_any (Wks.more h.k c.1) ((h.ap ha).more c.1) (More.lt h.lt c.1.size) hm hn).mono ?_
  rintro e w' ⟨rfl, h1, h2⟩
  exact ⟨rfl, h.copied c h2⟩
end
theorem is_yes {t : T} {v vl : Value} {l : List Bead} {w : World} (h : Tr w v t) (hs : t.size ≤ 2000) (hl : Sl Bead.enc w vl l) (hm : l.length ≤ 9223372036854775807) (he : bOf t = l) :
    Calls Try.prog 9 #[v, vl] w fun e w' => e = .returned (.bool true) ∧ Ext w w' := by
  have := is_any h hs hl hm
  rwa [decide_eq_true he] at this
/-- A step's cells. -/
structure Stp where
  d : Int
  n : Int
def Stp.enc (x : Stp) : List Value := [.int .u8 x.d, .int .i64 x.n]
theorem Stp.enc_len (x : Stp) : x.enc.length = 2 := rfl
end Go.Proofs.Ytphpaaaaifpidaa
