/- THE LAW OF append, for slices of whatever elements: onto a slice that the call owns (or nil), from a slice that reads as a list. -/
import Derived.Test.YtgpegcjgmoiglaaDoorBase
import Derived.RegionTactic
import Derived.OwnWalk
namespace Go.Proofs.YtgpegcjgmoiglaaDoor
open Go.RowKit

/-- What is asked of an element type: 't' the slice's number, 'e' the element's. -/
structure Elem {α : Type} (P : Program) (t e : TypeId) (sz bytes : Nat) (enc : α → List Value) : Prop where
  ht : P.underlying t = some (.slice e)
  info : ∃ i z, P.info? e = some i ∧ i.zero = some z ∧ i.size = sz ∧ i.bytes = bytes ∧ z.cells.size = sz
  pos : 0 < sz
  len : ∀ x, (enc x).length = sz
  one : ∀ x, ∀ u ∈ enc x, u.oneCell' = true

/-- Which blocks an append may have written. -/
def AppTo (_base : Nat) (w w' : World) (v v' : Value) : Prop := w.grownBy w' v.ownBlock ∧ (v'.ownBlock = v.ownBlock ∨ v'.ownBlock = some w.heap.size)

section
variable {α : Type} {P : Program} {t e : TypeId} {sz bytes : Nat} {enc : α → List Value} (E : Elem P t e sz bytes enc)
include E
theorem flat_one (l : List α) : ∀ u ∈ flat enc l, u.oneCell' = true := by
  intro u hu
  unfold flat at hu
  obtain ⟨x, _, hx⟩ := List.mem_flatMap.1 hu
  exact E.one x u hx

theorem run_app (ty : TypeId) {w : World} {base : Nat} {v u : Value} {l m : List α} (hv : Own enc e sz base w v l) (hu : Sl enc w u m)
    (h63 : l.length + m.length ≤ maxLen) (hb : (l.length + m.length) * bytes ≤ 140737488355328) (hbase : base ≤ w.heap.size) :
    ∃ v' w', (Builtin.append_ #[t, t] ty #[v, u]).run P w = .ok v' w' ∧ Own enc e sz base w' v' (l ++ m) ∧ AppTo base w w' v v' := by
  obtain ⟨A, c, rfl, hc, hr⟩ := hu
  obtain ⟨i, z, hi, hz, hs, hby, hzs⟩ := E.info
  have hfl : (flat enc m).length = m.length * sz := flat_length E.len m
  cases A with
  | none =>
    have hm : m = [] := by
      rcases m with _ | ⟨x, m⟩
      · rfl
      · obtain ⟨b, off, h, _⟩ := hr (by simp); cases h
    subst hm
    refine ⟨v, w, ?_, by rw [List.append_nil]; exact hv, World.grownBy.refl w _, .inl rfl⟩
    rcases hv.2 with ⟨rfl, _⟩ | ⟨g, cap, cur, rfl, _, _, hnc, _⟩
    · simp [Builtin.append_, run_underlying E.ht, sizeOf, typeInfo, hi, Builtin.lenOf, Builtin.firstCells]
    · simp [Builtin.append_, run_underlying E.ht, sizeOf, typeInfo, hi, Builtin.lenOf, Builtin.firstCells, hnc, storeCells]
  | some ad =>
    have hcells : ∀ j u, (flat enc m)[j]? = some u → w.cell? (ad.add j) = some u := by
      intro j u hj
      rcases m with _ | ⟨x, m⟩
      · simp [flat] at hj
      · obtain ⟨b, off, h, _, hcell⟩ := hr (by simp)
        injection h with h
        subst h
        have := hcell j u hj
        by_cases h0 : j = 0
        · subst h0; simpa [Addr.add] using this
        · simpa [Addr.add, h0] using this
    obtain ⟨v', w', hrun, h2, h3, _, h5⟩ := run_append_own_at (P := P) w base t ty e i z sz bytes E.ht hi hz hs hby hzs E.pos v l.length (flat enc l) hv ad m.length c (flat enc m) hfl hcells (flat_one E m) h63 hb hbase
    refine ⟨v', w', hrun, ?_, h3, h5⟩
    unfold Own
    rw [List.length_append, flat_append]
    exact h2

theorem wp_app {o : Oper} {a : Act} {K : Act → World → Prop} {Q : Exit → Act → World → Prop} (s x : Operand)
    (ho : o.op = .call { callee := .builtin .append, args := #[s, x], argTypes := #[t, t] })
    {w : World} {base : Nat} {v u : Value} {l m : List α} (hs : a.eval s = v) (hx : a.eval x = u) (hv : Own enc e sz base w v l) (hu : Sl enc w u m)
    (h63 : l.length + m.length ≤ maxLen) (hb : (l.length + m.length) * bytes ≤ 140737488355328) (hbase : base ≤ w.heap.size)
    (h : ∀ v' w', Own enc e sz base w' v' (l ++ m) → AppTo base w w' v v' → K (a.put o.dst v') w') : o.wp P a w K Q := by
  obtain ⟨v', w', hrun, h2, h3⟩ := run_app E o.type hv hu h63 hb hbase
  unfold Oper.wp execOp
  simp only [ho, resolve, invoke, builtin, Sem.run_bind, Sem.run_pure, Result.andThen_ok, List.map_toArray, List.map_cons, List.map_nil, hs, hx, hrun]
  exact h v' w' h2 h3

theorem wpList_app {ops : Array Oper} {rest : List Oper} {o : Oper} {a : Act} {Q : Exit → Act → World → Prop} (hgd : o.guard = none) (s x : Operand)
    (ho : o.op = .call { callee := .builtin .append, args := #[s, x], argTypes := #[t, t] })
    {w : World} {base : Nat} {v u : Value} {l m : List α} (hs : a.eval s = v) (hx : a.eval x = u) (hv : Own enc e sz base w v l) (hu : Sl enc w u m)
    (h63 : l.length + m.length ≤ maxLen) (hb : (l.length + m.length) * bytes ≤ 140737488355328) (hbase : base ≤ w.heap.size)
    (h : ∀ v' w', Own enc e sz base w' v' (l ++ m) → AppTo base w w' v v' → wpList P ops Q rest (a.put o.dst v') w') : wpList P ops Q (o :: rest) a w :=
  wpList_plain hgd fun _ hK => wp_app E s x ho hs hx hv hu h63 hb hbase fun v' w' h2 h3 => hK _ _ (h v' w' h2 h3)

theorem step_app {ops : Array Oper} {o : Oper} {a : Act} {K : Act → World → Prop} {Q : Exit → Act → World → Prop} {F : Prop} (hgd : o.guard = none) (s x : Operand)
    (ho : o.op = .call { callee := .builtin .append, args := #[s, x], argTypes := #[t, t] })
    {w : World} {base : Nat} {v u : Value} {l m : List α} (hs : a.eval s = v) (hx : a.eval x = u) (hv : Own enc e sz base w v l) (hu : Sl enc w u m)
    (h63 : l.length + m.length ≤ maxLen) (hb : (l.length + m.length) * bytes ≤ 140737488355328) (hbase : base ≤ w.heap.size)
    (h : ∀ v' w', Own enc e sz base w' v' (l ++ m) → AppTo base w w' v v' → K (a.put o.dst v') w') :
    if Region.wanted o (yielded ops a.tmps) = true then Oper.wp P o a w K Q else F := by
  have hw : Region.wanted o (yielded ops a.tmps) = true := by simp [Region.wanted, hgd]
  rw [if_pos hw]
  exact wp_app E s x ho hs hx hv hu h63 hb hbase h
end

/-- An append onto what the call owns leaves what was there before the call. -/
theorem AppTo.ext {α : Type} {enc : α → List Value} {e sz : Nat} {a w w' : World} {v v' : Value} {l : List α} (h : AppTo a.heap.size w w' v v') (x : Ext a w) (hv : Own enc e sz a.heap.size w v l) : Ext a w' :=
  x.grown h.1 fun k hk => (Own.lt hv k hk).1
/-- A new slice of these elements. -/
theorem Own.lit {α : Type} {enc : α → List Value} {e sz : Nat} (he : ∀ x, (enc x).length = sz) {base : Nat} (w : World) (l : List α) (cs : Array Value) (hcs : cs.toList = flat enc l) (hb : base ≤ w.heap.size) (hm : l.length ≤ maxLen) :
    Own enc e sz base (w.alloc (.cells cs e)) (.slice (some ⟨w.heap.size, 0, none⟩) l.length l.length) l := by
  have := World.ownsRow_lit (base := base) (e := e) (size := sz) w cs l.length hb hm (by rw [← Array.length_toList, hcs, flat_length he])
  unfold Own
  rwa [hcs] at this

section
variable {α : Type} {enc : α → List Value} {e sz : Nat} (he : ∀ x, (enc x).length = sz) {a w w' : World} (y : α) {cs : Array Value} (hcs : cs.toList = enc y)
include he hcs
/-- 'append(s, y)', 'append([]T{y}, ..)': the element lies in a new block of its own. -/
theorem lit_own (x : Ext a w) : Own enc e sz a.heap.size (w.alloc (.cells cs e)) (.slice (some ⟨w.heap.size, 0, none⟩) 1 1) [y] :=
  Own.lit he w [y] cs (by simp [flat, hcs]) x.size (by simp [maxLen])
omit he in
theorem lit_sl : Sl enc (w.alloc (.cells cs e)) (.slice (some ⟨w.heap.size, 0, none⟩) 1 1) [y] := by
  refine ⟨_, 1, rfl, Nat.le_refl _, fun _ => ⟨w.heap.size, 0, rfl, by simp, fun i v hv => ?_⟩⟩
  have h := Blk.cell (Blk.new w e cs) i
  rw [Nat.zero_add, h]
  have : flat enc [y] = cs.toList := by simp [flat, hcs]
  rw [this] at hv
  simpa using hv
/-- The same block, behind a call. -/
theorem lit_then (x : Ext a w) (x2 : Ext (w.alloc (.cells cs e)).drew w') : Own enc e sz a.heap.size w' (.slice (some ⟨w.heap.size, 0, none⟩) 1 1) [y] ∧ Ext a w' :=
  ⟨(lit_own he y hcs x).ext ((Ext.refl _).drew.trans x2), (x.alloc _).drew.trans x2⟩
end
end Go.Proofs.YtgpegcjgmoiglaaDoor
