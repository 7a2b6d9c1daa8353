/- WALKS IN MEMORY: a tree whose blocks are kept; the way's row; copying a slice. -/
import Derived.Test.YtphpaaaaifpidaaPairs
import Derived.Test.YtphpaaaaifpidaaChg
import Derived.Test.YtphpaaaaifpidaaWalkLaw
import Derived.Laws.CopyRow
import Derived.Laws.OwnMore
namespace Go.Proofs.Ytphpaaaaifpidaa
open Go.RowKit
set_option linter.unusedVariables false

/-- These blocks are as they were. -/
structure Keep (P : Nat → Prop) (w w' : World) : Prop where
  os : w'.os = w.os
  tape : w'.tape = w.tape
  output : w'.output = w.output
  size : w.heap.size ≤ w'.heap.size
  block : ∀ b, b < w.heap.size → P b → w'.heap[b]? = w.heap[b]?
section
variable {P Q : Nat → Prop} {a b c w w' : World}
theorem Ext.keep (h : Ext a b) (P : Nat → Prop) : Keep P a b := ⟨h.os, h.tape, h.output, h.size, fun k hk _ => h.block k hk⟩
theorem Keep.refl (P : Nat → Prop) (w : World) : Keep P w w := (Ext.refl w).keep P
theorem Keep.trans (h : Keep P a b) (k : Keep P b c) : Keep P a c :=
  ⟨k.os.trans h.os, k.tape.trans h.tape, k.output.trans h.output, Nat.le_trans h.size k.size, fun i hi hn => (k.block i (Nat.lt_of_lt_of_le hi h.size) hn).trans (h.block i hi hn)⟩
theorem Keep.set {p : Addr} (h : Keep P a b) (hp : ¬ P p.block) (u : Value) : Keep P a (b.setCell p u) :=
  ⟨h.os, h.tape, h.output, by simpa using h.size, fun i hi hn => (Below.heap_setCell b p u i (fun e => hp (e ▸ hn))).trans (h.block i hi hn)⟩
theorem Keep.drew (h : Keep P a b) : Keep P a b.drew := h.trans (((Ext.refl b).drew).keep P)
theorem Keep.alloc (h : Keep P a b) (o : Obj) : Keep P a (b.alloc o) := h.trans (((Ext.refl b).alloc o).keep P)
theorem Keep.grown {row : Option Nat} (h : Keep P a b) (hg : b.grownBy c row) (hr : ∀ k, row = some k → ¬ P k) : Keep P a c :=
  h.trans ⟨hg.os, hg.tape, hg.output, hg.size, fun i hi hn => hg.block i hi (fun e => hr i e.symm hn)⟩
theorem Keep.blk {B : Nat} {t : TypeId} {cs : Array Value} (h : Keep P a b) (hb : Blk a B t cs) (hn : P B) : Blk b B t cs := (h.block B hb.lt hn).trans hb
theorem Keep.cell (h : Keep P a b) {p : Addr} (hp : p.block < a.heap.size) (hn : P p.block) : b.cell? p = a.cell? p := World.cell?_of_block (w := a) (h.block p.block hp hn)
theorem Keep.ext (h : Keep P a b) (x : Ext w a) (hP : ∀ k, k < w.heap.size → P k) : Ext w b :=
  ⟨h.os.trans x.os, h.tape.trans x.tape, h.output.trans x.output, Nat.le_trans x.size h.size, fun k hk => (h.block k (Nat.lt_of_lt_of_le hk x.size) (hP k hk)).trans (x.block k hk)⟩
theorem Keep.sub (h : Keep P a b) (hQ : ∀ k, Q k → P k) : Keep Q a b := ⟨h.os, h.tape, h.output, h.size, fun k hk hq => h.block k hk (hQ k hq)⟩
end

/-- The pointer to a tree. -/
def A.ptr : A → Option Addr
  | .nil => none
  | .node b _ _ _ _ _ => Option.some ⟨b, 0, none⟩
theorem A.ptr_none {a : A} : a.ptr = none ↔ a.some = false := by cases a <;> simp [A.ptr, A.some]
/-- A tree that lies in blocks that are kept. -/
def AP (P : Nat → Prop) (w : World) : A → Prop
  | .nil => True
  | .node b k x g l r => P b ∧ At w b k x g l.tree r.tree (.pointer l.ptr) (.pointer r.ptr) ∧ AP P w l ∧ AP P w r
theorem AP.keep {P : Nat → Prop} {w w' : World} (k : Keep P w w') : ∀ {a : A}, AP P w a → AP P w' a
  | .nil, _ => trivial
  | .node _ _ _ _ _ _, ⟨hp, ha, hl, hr⟩ => ⟨hp, k.blk ha hp, hl.keep k, hr.keep k⟩
theorem AP.sub {P Q : Nat → Prop} {w : World} (h : ∀ k, k < w.heap.size → P k → Q k) : ∀ {a : A}, AP P w a → AP Q w a
  | .nil, _ => trivial
  | .node _ _ _ _ _ _, ⟨hp, ha, hl, hr⟩ => ⟨h _ (Blk.lt ha) hp, ha, hl.sub h, hr.sub h⟩
theorem AP.tr {P : Nat → Prop} {w : World} : ∀ {a : A}, AP P w a → Tr w (.pointer a.ptr) a.tree
  | .nil, _ => rfl
  | .node b _ _ _ _ _, ⟨_, ha, hl, hr⟩ => ⟨b, _, _, rfl, ha, hl.tr, hr.tr⟩
theorem AP.of_tr {w : World} : ∀ {t : T} {v : Value}, Tr w v t → ∃ a : A, a.tree = t ∧ v = .pointer a.ptr ∧ AP (fun b => b < w.heap.size) w a
  | .nil, v, h => ⟨.nil, rfl, h, trivial⟩
  | .node k x g l r, v, ⟨b, vl, vr, hv, ha, hl, hr⟩ => by
    obtain ⟨al, rfl, rfl, pl⟩ := AP.of_tr hl
    obtain ⟨ar, rfl, rfl, pr⟩ := AP.of_tr hr
    exact ⟨.node b k x g al ar, rfl, hv, Blk.lt ha, ha, pl, pr⟩
theorem AP.side {P : Nat → Prop} {w : World} {a : A} (h : AP P w a) (d : Bool) : AP P w (a.side d) := by
  cases a with
  | nil => exact trivial
  | node b k x g l r => obtain ⟨_, _, hl, hr⟩ := h; cases d <;> simpa [A.side]
/-- All nodes of a way stand in the tree. -/
theorem pth_ap {P : Nat → Prop} {w : World} : ∀ {a : A} {i : Nat} {s : List (A × Bool)}, Pth a i s → AP P w a → ∀ y ∈ s, AP P w y.1 ∧ y.1.some = true
  | .nil, _, _, h, _ => h.elim
  | .node b k x g l r, i, s, h, hp => by
    rcases h with ⟨_, s', rfl, h⟩ | ⟨_, d, rfl⟩ | ⟨_, s', rfl, h⟩
    · intro y hy
      rcases List.mem_cons.1 hy with rfl | hy
      · exact ⟨hp, rfl⟩
      · exact pth_ap h hp.2.2.1 y hy
    · intro y hy
      simp only [List.mem_singleton] at hy
      subst hy
      exact ⟨hp, rfl⟩
    · intro y hy
      rcases List.mem_cons.1 hy with rfl | hy
      · exact ⟨hp, rfl⟩
      · exact pth_ap h hp.2.2.2 y hy
theorem wks_ap {P : Nat → Prop} {w : World} {a : A} {p : Int} {s : List (A × Bool)} (h : WkS a p s) (hp : AP P w a) : ∀ y ∈ s, AP P w y.1 ∧ y.1.some = true := by
  rcases h with ⟨_, rfl⟩ | ⟨i, _, h⟩
  · intro y hy; simp at hy
  · exact pth_ap h hp
/-- The pair at a place. -/
theorem pth_pair : ∀ {a : A} {i : Nat} {s : List (A × Bool)}, Pth a i s → ∃ s' n d, s = s' ++ [(n, d)] ∧ n.some = true ∧ a.tree.pairs[i]? = some (n.tree.key, n.tree.val)
  | .nil, _, _, h => h.elim
  | .node b k x g l r, i, s, h => by
    have hl : l.tree.pairs.length = l.size := by rw [T.pairs_length, A.size_tree]
    rcases h with ⟨hi, s', rfl, h⟩ | ⟨rfl, d, rfl⟩ | ⟨hi, s', rfl, h⟩
    · obtain ⟨s2, n, d, rfl, hn, hp⟩ := pth_pair h
      refine ⟨_ :: s2, n, d, rfl, hn, ?_⟩
      simp only [A.tree, T.pairs]
      rw [List.getElem?_append_left (by omega)]
      exact hp
    · refine ⟨[], _, d, rfl, rfl, ?_⟩
      simp only [A.tree, T.pairs]
      rw [List.getElem?_append_right (by omega), hl, Nat.sub_self]
      rfl
    · obtain ⟨s2, n, d, rfl, hn, hp⟩ := pth_pair h
      refine ⟨_ :: s2, n, d, rfl, hn, ?_⟩
      simp only [A.tree, T.pairs]
      rw [List.getElem?_append_right (by omega), hl, show i - l.size = (i - l.size - 1) + 1 from by omega, List.getElem?_cons_succ]
      exact hp

/-- The cells of a stop. -/
def ES (y : A × Bool) : List Value := [.pointer y.1.ptr, .bool y.2]
theorem ES_len (y : A × Bool) : (ES y).length = 2 := rfl
theorem stopE : Elem Try.prog 87 93 2 16 ES := by
  have h : (Try.prog.info? 93).map (fun i => (i.zero, i.size, i.bytes)) = some (some (.agg #[.pointer none, .bool false]), 2, 16) := by kernel_rfl
  obtain ⟨i0, hi, hz0, hz1, hz2⟩ := info_parts h
  refine ⟨Try.underlying87, ⟨i0, _, hi, hz0, hz1, hz2, rfl⟩, by omega, ES_len, fun x u hu => ?_⟩
  simp only [ES, List.mem_cons, List.not_mem_nil, or_false] at hu
  rcases hu with rfl | rfl <;> rfl
/-- A walk in memory: the struct in block B, the way's row in a block of its own; none of the two among what is kept. -/
def Wk (P : Nat → Prop) (w : World) (B : Nat) (a : A) (s : List (A × Bool)) (p : Int) : Prop :=
  ∃ sv, Blk w B 89 #[.pointer a.ptr, sv, .int .i64 p] ∧ Own ES 93 2 0 w sv s ∧ (∀ k, sv.ownBlock = some k → ¬ P k ∧ k ≠ B) ∧ ¬ P B
/-- .. that stands at a place. -/
def Wks (P : Nat → Prop) (w : World) (B : Nat) (a : A) (p : Int) : Prop := ∃ s, WkS a p s ∧ Wk P w B a s p

section
variable {α : Type} {enc : α → List Value} {sz e base : Nat} {w w' : World} {v : Value} {l : List α}
/-- What a call owns is as it was where its row is. -/
theorem Own.same (h : Own enc e sz base w v l) (hb : ∀ k, v.ownBlock = some k → w'.heap[k]? = w.heap[k]?) : Own enc e sz base w' v l := by
  refine ⟨h.1, ?_⟩
  rcases h.2 with h2 | ⟨g, cap, cur, hv, hg, hh, r⟩
  · exact .inl h2
  · exact .inr ⟨g, cap, cur, hv, hg, (hb g (by rw [hv]; rfl)).trans hh, r⟩
/-- A shorter part, from the front. -/
theorem Own.take (he : ∀ x, (enc x).length = sz) {A : Option Addr} {n c : Nat} (h : Own enc e sz base w (.slice A n c) l) (k : Nat) (hk : k ≤ l.length) (hA : A ≠ none) : Own enc e sz base w (.slice A k c) (l.take k) := by
  have hlen : (l.take k).length = k := by rw [List.length_take]; omega
  unfold Own
  rw [hlen]
  refine ⟨by rw [flat_length he, hlen], ?_⟩
  rcases h.2 with ⟨h2, h3⟩ | ⟨g, cap, cur, hv, hg, hh, hnc, hcm, hcs, htake⟩
  · injection h2 with h2
    exact absurd h2 hA
  · injection hv with e1 e2 e3
    subst e1 e3
    refine .inr ⟨g, c, cur, rfl, hg, hh, by omega, hcm, hcs, ?_⟩
    have h4 : flat enc (l.take k) = (flat enc l).take (k * sz) := by
      have h2 : flat enc l = flat enc (l.take k) ++ flat enc (l.drop k) := by rw [← flat_append, List.take_append_drop]
      exact (List.take_left' (by rw [flat_length he, hlen])).symm.trans (congrArg (List.take (k * sz)) h2.symm)
    rw [h4, ← htake, List.take_take]
    congr 1
    have := Nat.mul_le_mul_right sz hk
    omega
end
end Go.Proofs.Ytphpaaaaifpidaa
