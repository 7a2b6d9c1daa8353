/- Package share: the iterator fresh. -/
import Derived.RangeFuncNested
import Derived.RangeFuncBound
import Derived.RangeFuncCalls
import Derived.RangeFuncLeaves
import Derived.Shelf.Abstract
import Derived.RegionIn
import Derived.BigRegionIn
import Derived.WalkKit
import Derived.OwnWalkIn
import Derived.TacticsInMore
import Derived.LoopNIn
import Derived.LoopIn
import Derived.Stop.RegionWithIn
import Derived.Test.YtlehcagpddgamaaGrS
import Derived.Test.YtlehcagpddgamaaSetP
import Derived.Test.YtlehcagpddgamaaIdle
import Derived.Test.YtlehcagpddgamaaAlive09
import Derived.Test.YtlehcagpddgamaaDraw
namespace Go.Proofs.Ytlehcagpddgamaa
open Go.RowKit Go.Shelf G
attribute [local go_sem] Oper.semAt_some

/-- The type of a set. -/
theorem set_ty : Try.prog.underlying 161 = some (.map 26 167) := Try.underlying161
theorem unit_zero (w : World) : (zeroValue 167).run Try.prog w = .ok (.agg #[]) w := by kernel_rfl
section
variable {w w' : World} {m b : Nat} {S : List Nat}
theorem SetM.chg {K : List Nat} (h : SetM w m S) (k : Chg K w w') (hn : m ∉ K) : SetM w' m S := (k.block m h.lt hn).trans h
theorem SetM.ext (h : SetM w m S) (k : Ext w w') : SetM w' m S := (k.blk h.lt).trans h
theorem IsB.ext (h : IsB w b) (k : Ext w w') : IsB w' b := by
  obtain ⟨cs, t, h⟩ := h
  exact ⟨cs, t, Blk.ext h k⟩
theorem SetM.ne (h : SetM w m S) {t : TypeId} {cs : Array Value} (hb : Blk w b t cs) : b ≠ m := by
  rintro rfl
  unfold SetM at h
  unfold Blk at hb
  rw [h] at hb; cases hb
theorem IsB.chg (h : IsB w b) (hm : SetM w m S) (k : Chg [m] w w') : IsB w' b := by
  obtain ⟨cs, t, h⟩ := h
  exact ⟨cs, t, k.blk h (by simp; exact hm.ne h)⟩
theorem Chg.put (S' : List Nat) : Chg [m] w (World.putSet w m S') := ⟨rfl, rfl, rfl, by rw [putSet_size]; exact Nat.le_refl _, fun k _ hn => putSet_other S' (by simpa using hn)⟩
theorem GrS.chg (hm : SetM w m S) (k : Chg [m] w w') : ∀ {t : G} {v : Value}, GrS w v t → GrS w' v t
  | .nil, _, h => h
  | .nd _ _ _, _, ⟨k', x, g, tl, tr, vl, vr, hv, ha, hl, hr⟩ => ⟨k', x, g, tl, tr, vl, vr, hv, k.blk ha (by simp; exact hm.ne ha), hl.chg hm k, hr.chg hm k⟩
theorem GrS.isB : ∀ {g : G} {v : Value}, GrS w v g → ∀ i ∈ g.ids, IsB w i
  | .nil, _, _, i, h => by simp [G.ids] at h
  | .nd b l r, _, ⟨k, x, g, tl, tr, vl, vr, hv, ha, hl, hr⟩, i, h => by
    simp only [G.ids, List.mem_cons, List.mem_append] at h
    rcases h with rfl | h | h
    · exact ⟨_, _, ha⟩
    · exact hl.isB i h
    · exact hr.isB i h
end
/-- What is asked of a set in memory. -/
structure SetI (w : World) (m : Nat) (S : List Nat) : Prop where
  set : SetM w m S
  isB : ∀ b ∈ S, IsB w b
theorem SetI.ext {w w' : World} {m : Nat} {S : List Nat} (h : SetI w m S) (k : Ext w w') : SetI w' m S := ⟨h.set.ext k, fun b hb => (h.isB b hb).ext k⟩
theorem SetI.nil {w : World} : SetI (w.alloc (.map #[] 0)) w.heap.size [] := ⟨by unfold SetM; exact heap_alloc_new w _, fun _ h => by simp at h⟩
section
variable {w : World} {m a : Nat} {S : List Nat} (h : SetI w m S)
include h
theorem SetI.has (ha : a ∈ S) : (Instr.lookup 161 (.map (some m)) (.pointer (some ⟨a, 0, none⟩)) true).run Try.prog w = .ok (.tuple #[.agg #[], .bool true]) w := by
  obtain ⟨j, hj, hz⟩ := info_node
  exact set_has Try.underlying26 hj hz set_ty h.set h.isB ha
theorem SetI.hasnt (hi : IsB w a) (ha : a ∉ S) : (Instr.lookup 161 (.map (some m)) (.pointer (some ⟨a, 0, none⟩)) true).run Try.prog w = .ok (.tuple #[.agg #[], .bool false]) w := by
  obtain ⟨j, hj, hz⟩ := info_node
  exact set_hasnt Try.underlying26 hj hz set_ty unit_zero h.set h.isB hi ha
theorem SetI.nope : (Instr.lookup 161 (.map (some m)) (.pointer none) true).run Try.prog w = .ok (.tuple #[.agg #[], .bool false]) w :=
  set_none Try.underlying26 set_ty unit_zero h.set
theorem SetI.put (hi : IsB w a) (ha : a ∉ S) : (Instr.mapUpdate 161 (.map (some m)) (.pointer (some ⟨a, 0, none⟩)) (.agg #[])).run Try.prog w = .ok () (World.putSet w m (S ++ [a])) ∧ SetI (World.putSet w m (S ++ [a])) m (S ++ [a]) ∧ Chg [m] w (World.putSet w m (S ++ [a])) := by
  obtain ⟨j, hj, hz⟩ := info_node
  refine ⟨set_put Try.underlying26 hj hz set_ty h.set h.isB hi ha, ⟨putSet_set h.set.lt _, fun b hb => ?_⟩, Chg.put _⟩
  simp only [List.mem_append, List.mem_singleton] at hb
  rcases hb with hb | rfl
  · exact (h.isB b hb).put _ ⟨_, h.set⟩
  · exact hi.put _ ⟨_, h.set⟩
end
theorem fresh_any (m : Nat) (p : Option Addr) (w : World) : Calls Try.prog 146 #[.map (some m), .pointer p] w fun e w' => e = .returned (.func (.func 177) #[] #[.pointer (some ⟨w.heap.size, 0, none⟩), .pointer (some ⟨w.heap.size + 1, 0, none⟩)]) ∧ Ext w w' ∧
    Blk w' w.heap.size 161 #[.map (some m)] ∧ Blk w' (w.heap.size + 1) 26 #[.pointer p] := by
  go_enter Try.func146, Try.ntmps146
  go_wp2_with fail
  go_ret
  have h1 := Blk.new w 161 #[.map (some m)]
  have h2 := Blk.new (w.alloc (.cells #[.map (some m)] 161)) 26 #[.pointer p]
  rw [alloc_size] at h2
  exact ⟨rfl, ((Ext.refl w).alloc _).alloc _, h1.alloc _, h2⟩

theorem fr_has {b : Nat} {gl gr : G} {S : List Nat} (hb : b ∈ S) : fr (.nd b gl gr) S = S := by
  unfold fr
  rw [if_pos hb]
theorem fr_hasnt {b : Nat} {gl gr : G} {S : List Nat} (hb : b ∉ S) : fr (.nd b gl gr) S = fr gr (fr gl S ++ [b]) := by
  conv => lhs; unfold fr
  rw [if_neg hb]
set_option maxRecDepth 100000 in
set_option maxHeartbeats 4000000 in
theorem on_in {f : Nat → G} (m sb ob yb l : Nat) (L : Obj) (hY : ∀ (k : Nat) (x : Array Value) (W : World), x.size = 1 → W.heap[l]? = some L → YieldAt Fence.wide k Try.prog l x W fun e W' => e = .returned (.bool true) ∧ W' = W) (g : G) :
    ∀ (n : Nat) (S : List Nat) (W : World) (v : Value), byF f g → Shut f g S → GrS W v g → SetI W m S → m ≠ l → W.heap[l]? = some L → Blk W sb 161 #[.map (some m)] →
      Blk W ob 85 #[.func (.func 178) #[] #[.pointer (some ⟨sb, 0, none⟩), .pointer (some ⟨ob, 0, none⟩), .pointer (some ⟨yb, 0, none⟩)]] →
      Blk W yb 85 #[.func (.yield l) #[] #[]] →
      CallsIn Fence.wide n Try.prog 178 #[v, .pointer (some ⟨sb, 0, none⟩), .pointer (some ⟨ob, 0, none⟩), .pointer (some ⟨yb, 0, none⟩)] W fun e W' =>
        e = .returned (.bool true) ∧ Chg [m] W W' ∧ SetI W' m (fr g S) := by
  induction g with
  | nil =>
    intro n S W v _ _ hg hS hml hl bs bo byb
    obtain rfl : v = .pointer none := hg
    have q := hS.nope
    have cs := bs.cell 0
    refine callsIn_of_wp Try.func178 rfl trivial ?_ rfl
    simp only [Try.ntmps178, List.size_toArray, List.length_cons, List.length_nil, Nat.reduceAdd, Nat.reduceSub, Array.replicate_succ, Array.replicate_zero, List.push_toArray, List.append_toArray, List.nil_append, List.cons_append]
    gi_wp2
    go_ret
    exact ⟨rfl, ((Ext.refl W).alloc _).chg _, hS.ext ((Ext.refl W).alloc _)⟩
  | nd b gl gr ihl ihr =>
    intro n S W v hf hsh hg hS hml hl bs bo byb
    have hg0 := hg
    obtain ⟨k, x, t, tl, tr, vl, vr, rfl, hat, g1, g2⟩ := hg
    obtain ⟨pl, rfl⟩ := g1.ptr
    obtain ⟨pr, rfl⟩ := g2.ptr
    have hib : IsB W b := ⟨_, _, hat⟩
    by_cases hb : b ∈ S
    · have q := hS.has hb
      have cs := bs.cell 0
      rw [fr_has hb]
      refine callsIn_of_wp Try.func178 rfl trivial ?_ rfl
      simp only [Try.ntmps178, List.size_toArray, List.length_cons, List.length_nil, Nat.reduceAdd, Nat.reduceSub, Array.replicate_succ, Array.replicate_zero, List.push_toArray, List.append_toArray, List.nil_append, List.cons_append]
      gi_wp2
      go_ret
      exact ⟨rfl, ((Ext.refl W).alloc _).chg _, hS.ext ((Ext.refl W).alloc _)⟩
    · have q := hS.hasnt hib hb
      have cs := bs.cell 0
      refine callsIn_of_wp Try.func178 rfl trivial ?_ rfl
      simp only [Try.ntmps178, List.size_toArray, List.length_cons, List.length_nil, Nat.reduceAdd, Nat.reduceSub, Array.replicate_succ, Array.replicate_zero, List.push_toArray, List.append_toArray, List.nil_append, List.cons_append]
      have shl : Shut f gl S := fun c hc hl => hsh c hc (by simp [ids, hl])
      have nl := not_left hf
      have nr := not_right hf
      have ml := mem_fr hf.2.1 shl
      have hb2 : b ∉ fr gl S := by rw [ml]; simp [hb, nl]
      have shr : Shut f gr (fr gl S ++ [b]) := by
        intro c hc hr y hy
        rw [List.mem_append, ml] at hc ⊢
        rcases hc with (hc | hc) | hc
        · exact .inl (.inl (hsh c hc (by simp [ids, hr]) y hy))
        · exact .inl (.inr ((at_mem hf.2.1 hc).2.2.2 y hy))
        · simp only [List.mem_singleton] at hc; subst hc; exact absurd hr nr
      rw [fr_hasnt hb]
      have hf1 := hf.2.1
      have hf2 := hf.2.2
      gi_wp2
      have x0 := (Ext.refl W).alloc (.cells #[] 167)
      generalize W.alloc (.cells #[] 167) = W0 at *
      have y0 := x0.drew
      have co := (bo.ext y0).cell 0
      have LE := left_at (hat.ext y0)
      have IL := fun k => ihl k S W0.drew (.pointer pl) hf1 shl (g1.ext y0) (hS.ext y0) hml ((y0.blk (Array.getElem?_eq_some_iff.1 hl).1).trans hl) (bs.ext y0) (bo.ext y0) (byb.ext y0)
      have HS := Lib.hid hS
      have HB := Lib.hid (And.intro bs (And.intro bo byb))
      have HY := Lib.hid y0
      clear ihl y0 x0 hsh shl nl nr ml cs q hS bs bo byb
      gi_region_with (first
        | (refine ⟨trivial, (fun h => absurd h (by decide)), ?_⟩; gi_at_call 37; refine (callsIn_wide.2 LE).mono ?_; clear LE; rintro e w' ⟨rfl, rfl⟩)
        | (refine ⟨trivial, (fun h => absurd h (by decide)), ?_⟩; gi_at_call 178; refine (IL _).mono ?_; clear IL; rintro e W1 ⟨rfl, c1, s1⟩))
      all_goals
        have y1 : Chg [m] W W1 := (HY.out.chg [m]).trans c1
        have hl1 : W1.heap[l]? = some L := (y1.block l (Array.getElem?_eq_some_iff.1 hl).1 (by simp; exact fun e => hml e.symm)).trans hl
        have cs1 := (y1.blk HB.out.1 (by simp; exact HS.out.set.ne HB.out.1)).cell 0
        obtain ⟨q1, s2, c2⟩ := s1.put (hib.chg HS.out.set y1) hb2
        have y2 := y1.trans c2
        have hl2 : (World.putSet W1 m (fr gl S ++ [b])).heap[l]? = some L := (c2.block l (Array.getElem?_eq_some_iff.1 hl1).1 (by simp; exact fun e => hml e.symm)).trans hl1
        have Y1 := Lib.hid y1
        have Y2 := Lib.hid y2
        clear c1 c2 y1 y2 s1 hl1
        gi_wp2
        generalize World.putSet W1 m (fr gl S ++ [b]) = W2 at *
        have x3 : Ext W2 W2.drew := (Ext.refl W2).drew
        have y3 := Y2.out.trans (x3.chg [m])
        have bs3 := y3.blk HB.out.1 (by simp; exact HS.out.set.ne HB.out.1)
        have bo3 := y3.blk HB.out.2.1 (by simp; exact HS.out.set.ne HB.out.2.1)
        have by3 := y3.blk HB.out.2.2 (by simp; exact HS.out.set.ne HB.out.2.2)
        have hat3 : At W2.drew b k x t tl tr (.pointer pl) (.pointer pr) := y3.blk hat (by simp; exact HS.out.set.ne hat)
        have co3 := bo3.cell 0
        have cy3 := by3.cell 0
        have RE := right_at hat3
        obtain ⟨fn, tmps, assign, body, hy, hR⟩ := hY (n - 1) #[.pointer (some ⟨b, 0, none⟩)] W2.drew rfl hl2
        have IR := fun k => ihr k (fr gl S ++ [b]) W2.drew (.pointer pr) hf2 shr (g2.chg HS.out.set y3) (s2.ext x3) hml hl2 bs3 bo3 by3
        have Y3 := Lib.hid y3
        clear ihr y3 x3 bs3 bo3 by3 hat3 hY q1 s2 hl2 shr
        gi_region_with (first
          | (refine ⟨trivial, (fun h => absurd h (by decide)), ?_⟩; gi_at_call 38; refine (callsIn_wide.2 RE).mono ?_; clear RE; rintro e w' ⟨rfl, rfl⟩)
          | (refine ⟨trivial, (fun h => absurd h (by decide)), ?_⟩; gi_at_call 178; refine (IR _).mono ?_; clear IR; rintro e W3 ⟨rfl, c3, s3⟩)
          | (refine ⟨trivial, (fun h => absurd h (by decide)), ?_⟩; refine hR.mono ?_; clear hR; rintro e W3 ⟨rfl, rfl⟩)
          | (refine ⟨(fun h => absurd h (by decide)), ?_⟩; refine hR.mono ?_; clear hR; rintro e W3 ⟨rfl, rfl⟩))
      all_goals
        gi_wp2
        go_ret
        exact ⟨rfl, Y3.out.trans c3, s3⟩

set_option maxRecDepth 100000 in
set_option maxHeartbeats 4000000 in
theorem fresh1_in {f : Nat → G} {g : G} {S : List Nat} {m sb tb l : Nat} {L : Obj} {p : Option Addr} {W : World} (n : Nat) (hY : ∀ (k : Nat) (x : Array Value) (W : World), x.size = 1 → W.heap[l]? = some L → YieldAt Fence.wide k Try.prog l x W fun e W' => e = .returned (.bool true) ∧ W' = W)
    (hf : byF f g) (hsh : Shut f g S) (hg : GrS W (.pointer p) g) (hS : SetI W m S) (hml : m ≠ l) (hl : W.heap[l]? = some L) (bs : Blk W sb 161 #[.map (some m)]) (bt : Blk W tb 26 #[.pointer p]) :
    CallsIn Fence.wide n Try.prog 177 #[.func (.yield l) #[] #[], .pointer (some ⟨sb, 0, none⟩), .pointer (some ⟨tb, 0, none⟩)] W fun e W' => (∃ v, e = .returned v) ∧ Chg [m] W W' ∧ SetI W' m (fr g S) := by
  have x1 := ((Ext.refl W).alloc (.cells #[.func (.yield l) #[] #[]] 85)).alloc (.cells #[.func (.func 178) #[] #[.pointer (some ⟨sb, 0, none⟩), .pointer (some ⟨W.heap.size + 1, 0, none⟩), .pointer (some ⟨W.heap.size, 0, none⟩)]] 85)
  have by1 := (Blk.new W 85 #[.func (.yield l) #[] #[]]).alloc (.cells #[.func (.func 178) #[] #[.pointer (some ⟨sb, 0, none⟩), .pointer (some ⟨W.heap.size + 1, 0, none⟩), .pointer (some ⟨W.heap.size, 0, none⟩)]] 85)
  have bo1 := Blk.new (W.alloc (.cells #[.func (.yield l) #[] #[]] 85)) 85 #[.func (.func 178) #[] #[.pointer (some ⟨sb, 0, none⟩), .pointer (some ⟨W.heap.size + 1, 0, none⟩), .pointer (some ⟨W.heap.size, 0, none⟩)]]
  rw [alloc_size] at bo1
  have ct := (bt.ext x1).cell 0
  have ON := fun k => on_in m sb (W.heap.size + 1) W.heap.size l L hY g k S _ (.pointer p) hf hsh (hg.ext x1) (hS.ext x1) hml ((x1.blk (Array.getElem?_eq_some_iff.1 hl).1).trans hl) (bs.ext x1) bo1 by1
  have X1 := Lib.hid x1
  clear x1 by1 bo1 hsh hf hg hS hml hl bs bt hY
  refine callsIn_of_wp Try.func177 rfl trivial ?_ rfl
  simp only [Try.ntmps177, List.size_toArray, List.length_cons, List.length_nil, Nat.reduceAdd, Nat.reduceSub, Array.replicate_succ, Array.replicate_zero, List.push_toArray, List.append_toArray, List.nil_append, List.cons_append]
  gi_wp2_with (refine ⟨trivial, (fun h => absurd h (by decide)), ?_⟩; gi_at_call 178; refine (ON _).mono ?_; rintro e W3 ⟨rfl, c3, s3⟩)
  go_end0
  exact ⟨⟨_, rfl⟩, (X1.out.chg _).trans c3, s3⟩
end Go.Proofs.Ytlehcagpddgamaa
