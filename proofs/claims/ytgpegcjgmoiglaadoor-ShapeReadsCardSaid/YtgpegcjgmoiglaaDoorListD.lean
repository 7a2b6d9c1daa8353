/- shape.List: a tree's beads. -/
import Derived.Test.YtgpegcjgmoiglaaDoorSee
import Derived.Test.YtgpegcjgmoiglaaDoorSameD
import Derived.Test.YtgpegcjgmoiglaaDoorChart
import Derived.Deep.RegionHeld3
import Derived.Laws.EntriesVeiled
namespace Go.Proofs.YtgpegcjgmoiglaaDoor
open Go.RowKit
set_option linter.unusedVariables false

/-- The function that lists a node. -/
def addF (b p : Nat) : Value := .func (.func 28) #[] #[.pointer (some ⟨b, 0, none⟩), .pointer (some ⟨p, 0, none⟩)]
/-- What stands in memory while a tree is listed. -/
structure LT (w0 w : World) (v : Value) (l : List Bead) : Prop where
  x : Ext w0 w
  b : Blk w w0.heap.size 22 #[v]
  o : Own Bead.enc 44 7 (w0.heap.size + 2) w v l
  p : Blk w (w0.heap.size + 1) 53 #[addF w0.heap.size (w0.heap.size + 1)]
section
variable {w0 w w' : World} {l : List Bead} {v : Value}
theorem LT.ext (h : LT w0 w v l) (x : Ext w w') : LT w0 w' v l := ⟨h.x.trans x, h.b.ext x, h.o.ext x, h.p.ext x⟩
theorem LT.drew (h : LT w0 w v l) : LT w0 w.drew v l := h.ext ((Ext.refl w).drew)
/-- The row has grown; it is not laid into its cell yet. -/
def Md (w0 w : World) (X : Addr) (old v' : Value) (m : List Bead) : Prop := w.cell? X = some old ∧ w.frozen? X = false ∧ LT w0 (w.setCell X v') v' m
theorem Ext.setBoth (x : Ext w w') {p : Addr} (hp : p.block < w.heap.size) (u : Value) : Ext (w.setCell p u) (w'.setCell p u) := by
  refine ⟨x.os, x.tape, x.output, by simpa using x.size, fun i hi => ?_⟩
  have hi : i < w.heap.size := by simpa using hi
  by_cases e : i = p.block
  · subst e
    have := x.blk hi
    simp [World.setCell, Array.getElem?_modify, this]
  · rw [Below.heap_setCell _ _ _ _ e, Below.heap_setCell _ _ _ _ e]
    exact x.blk hi
theorem Md.ext {v' : Value} {m : List Bead} (h : Md w0 w ⟨w0.heap.size, 0, none⟩ v v' m) (x : Ext w w') : Md w0 w' ⟨w0.heap.size, 0, none⟩ v v' m := by
  obtain ⟨h1, h2, h3⟩ := h
  have hlt : w0.heap.size < w.heap.size := by have := h3.p.lt; simp at this; omega
  exact ⟨(x.cell (p := ⟨w0.heap.size, 0, none⟩) hlt).trans h1, (x.frozen (p := ⟨w0.heap.size, 0, none⟩) hlt).trans h2, h3.ext (x.setBoth (p := ⟨w0.heap.size, 0, none⟩) hlt v')⟩
theorem LT.app {v' : Value} {m : List Bead} (h : LT w0 w v l) (ho : Own Bead.enc 44 7 (w0.heap.size + 2) w' v' m) (a : AppTo (w0.heap.size + 2) w w' v v') : Md w0 w' ⟨w0.heap.size, 0, none⟩ v v' m ∧ Ext w0 w' := by
  have hlt := h.p.lt
  have hr : ∀ k, v.ownBlock = some k → w0.heap.size + 2 ≤ k := fun k hk => (h.o.lt k hk).1
  have x1 : Ext w0 w' := h.x.grown a.1 (fun k hk => by have := hr k hk; omega)
  have b1 := h.b.grown a.1 (fun e => by have := hr _ e.symm; omega)
  have p1 := h.p.grown a.1 (fun e => by have := hr _ e.symm; omega)
  refine ⟨⟨b1.cell 0, b1.frozen 0, x1.set (p := ⟨w0.heap.size, 0, none⟩) (Nat.le_refl _) _, by have := b1.set 0 v'; simpa using this, ?_, p1.far (p := ⟨w0.heap.size, 0, none⟩) (by simp) _⟩, x1⟩
  refine ⟨ho.1, ?_⟩
  rcases ho.2 with h2 | ⟨g, cap, cur, hv, hg, hh, r⟩
  · exact .inl h2
  · exact .inr ⟨g, cap, cur, hv, hg, (Below.heap_setCell w' ⟨w0.heap.size, 0, none⟩ v' g (fun e => by have : g = w0.heap.size := e; omega)).trans hh, r⟩
end
theorem wpIn_app {α : Type} {P : Program} {t e : TypeId} {sz bytes : Nat} {enc : α → List Value} (E : Elem P t e sz bytes enc) {o : Oper} {a : Act} {n : Nat} {K : Act → World → Prop} {Q : Exit → Act → World → Prop} (s x : Operand)
    (ho : o.op = .call { callee := .builtin .append, args := #[s, x], argTypes := #[t, t] })
    {w : World} {base : Nat} {v u : Value} {l m : List α} (hs : a.eval s = v) (hx : a.eval x = u) (hv : Own enc e sz base w v l) (hu : Sl enc w u m)
    (h63 : l.length + m.length ≤ maxLen) (hb : (l.length + m.length) * bytes ≤ 140737488355328) (hbase : base ≤ w.heap.size)
    (h : ∀ v' w', Own enc e sz base w' v' (l ++ m) → AppTo base w w' v v' → K (a.put o.dst v') w') : o.wpIn Fence.wide n P a w K Q := by
  obtain ⟨v', w', hrun, h2, h3⟩ := run_app E o.type hv hu h63 hb hbase
  refine ⟨fun _ _ => trivial, ?_⟩
  have e : (o.semAt Fence.wide.round a.eval).run P w = .ok (.value v') w' := by
    show (o.semAt none a.eval).run P w = _
    simp only [Oper.semAt, execOp, ho, resolve, invoke, builtin, Sem.run_bind, Sem.run_pure, Result.andThen_ok, List.map_toArray, List.map_cons, List.map_nil, hs, hx, hrun]
  rw [e]
  exact h v' w' h2 h3
set_option maxRecDepth 100000 in
set_option maxHeartbeats 8000000 in
theorem add_any (w0 : World) (t : T) : ∀ {v vl : Value} {w : World} {l : List Bead}, Tr w0 v t → LT w0 w vl l → l.length + t.size ≤ 100000 →
    Calls Tryd.prog 28 #[v, .pointer (some ⟨w0.heap.size, 0, none⟩), .pointer (some ⟨w0.heap.size + 1, 0, none⟩)] w fun e w' => ∃ vl', e = .returned (.tuple #[]) ∧ LT w0 w' vl' (l ++ bOf t) := by
  induction t with
  | nil =>
    intro v vl w l hv hs hm
    obtain rfl : v = .pointer none := hv
    go_enter Tryd.func28, Tryd.ntmps28
    go_wp2_with fail
    refine bodyPost_ret (results_none rfl _ _ _) rfl ?_
    exact ⟨vl, rfl, by simpa [bOf, ofT] using hs⟩
  | node k x g a b iha ihb =>
    intro v vl w l hv hs hm
    simp only [T.size] at hm
    obtain ⟨bn, va, vb, rfl, hat, ta, tb⟩ := hv
    obtain ⟨pa, rfl⟩ := ta.ptr
    obtain ⟨pb, rfl⟩ := tb.ptr
    have T0 := Lib.hid (show Tr w0 (.pointer (some ⟨bn, 0, none⟩)) (.node k x g a b) from ⟨bn, _, _, rfl, hat, ta, tb⟩)
    have hna := neq_nil ta
    have hnb := neq_nil tb
    have hw64 : wrap64 (T.size (.node k x g a b) : Int) = (T.size (.node k x g a b) : Int) := by simp only [T.size]; unfold wrap64; omega
    have HW := Lib.hid hw64
    clear hw64
    have HM := Lib.hid hm
    have hc := hs.b.cell 0
    have hfz := hs.b.frozen 0
    have HS := Lib.hid hs
    clear hm hs
    obtain ⟨AA, cc, rfl, hcc, hrr⟩ := HS.out.o.sl Bead.enc_len (by omega)
    clear hcc hrr
    go_enter Tryd.func28, Tryd.ntmps28
    go_wp2_with fail
    --R1
    refine (wpIn_wide (n := 8)).1 ?_
    refine wpIn_chart (by kernel_rfl) (fun dn aq wq => Ext w0 wq ∧ (¬ dn 19 → LT w0 wq (.slice AA l.length cc) l) ∧ ((dn 19 → dn 0 ∧ dn 18) ∧ (dn 20 → dn 19)) ∧ ∃ u6 u7 u8 u9 u10 u11 u12 u13 u14 u15 u16 u17 u18 u19 u20 u21 u22 u23 u24 u25, aq = { tmps := List.toArray ((.pointer (some ⟨bn, 0, none⟩)) :: (.pointer (some ⟨w0.heap.size, 0, none⟩)) :: (.pointer (some ⟨w0.heap.size + 1, 0, none⟩)) :: (undef) :: (.pointer (some ⟨bn, 0, none⟩)) :: (.bool false) :: (u6) :: (u7) :: (u8) :: (u9) :: (u10) :: (u11) :: (u12) :: (u13) :: (u14) :: (u15) :: (u16) :: (u17) :: (u18) :: (u19) :: (u20) :: (u21) :: (u22) :: (u23) :: (u24) :: (u25) :: (undef) :: (undef) :: (undef) :: (undef) :: (undef) :: (undef) :: (undef) :: (undef) :: []), defers := [] } ∧ (dn 0 → u6 = .slice AA l.length cc) ∧ (dn 1 → u7 = .pointer (some ⟨bn, 0, none⟩)) ∧ (dn 2 → u8 = .int .i64 k) ∧ (dn 3 → u9 = .pointer (some ⟨bn, 0, none⟩)) ∧ (dn 4 → u10 = .int .i64 x) ∧ (dn 5 → u11 = .pointer (some ⟨bn, 0, none⟩)) ∧ (dn 6 → u12 = .int .i64 (wrap64 (T.sum (.node k x g a b)))) ∧ (dn 7 → u13 = .pointer (some ⟨bn, 0, none⟩)) ∧ (dn 8 → u14 = .int .i64 (wrap64 (T.size (.node k x g a b) : Nat))) ∧ (dn 9 → u15 = .pointer (some ⟨bn, 0, none⟩)) ∧ (dn 10 → u16 = .int .u64 g) ∧ (dn 11 → u17 = .pointer (some ⟨bn, 0, none⟩)) ∧ (dn 12 → u18 = .pointer pa) ∧ (dn 13 → u19 = .bool a.some) ∧ (dn 14 → u20 = .pointer (some ⟨bn, 0, none⟩)) ∧ (dn 15 → u21 = .pointer pb) ∧ (dn 16 → u22 = .bool b.some) ∧ (dn 17 → u23 = .agg #[.int .i64 k, .int .i64 x, .int .i64 (wrap64 (T.sum (.node k x g a b))), .int .i64 (wrap64 (T.size (.node k x g a b) : Nat)), .int .u64 g, .bool a.some, .bool b.some]) ∧ (dn 18 → ∃ q, u24 = .slice (some ⟨q, 0, none⟩) 1 1 ∧ (¬ dn 19 → Sl Bead.enc wq (.slice (some ⟨q, 0, none⟩) 1 1) [headB k x g a b])) ∧ (dn 19 → ∃ A6 c6, u25 = .slice A6 (l.length + 1) c6 ∧ (¬ dn 20 → Md w0 wq ⟨w0.heap.size, 0, none⟩ (.slice AA l.length cc) (.slice A6 (l.length + 1) c6) (l ++ [headB k x g a b])) ∧ (dn 20 → LT w0 wq (.slice A6 (l.length + 1) c6) (l ++ [headB k x g a b]))) ∧ (dn 20 → True)) ?at0 ?lex ?step ?fin
    case at0 =>
      exact ⟨HS.out.drew.x, fun _ => HS.out.drew, ⟨fun h => h.elim, fun h => h.elim⟩, _, _, _, _, _, _, _, _, _, _, _, _, _, _, _, _, _, _, _, _, rfl, fun h => h.elim, fun h => h.elim, fun h => h.elim, fun h => h.elim, fun h => h.elim, fun h => h.elim, fun h => h.elim, fun h => h.elim, fun h => h.elim, fun h => h.elim, fun h => h.elim, fun h => h.elim, fun h => h.elim, fun h => h.elim, fun h => h.elim, fun h => h.elim, fun h => h.elim, fun h => h.elim, fun h => h.elim, fun h => h.elim, fun h => h.elim⟩
    case lex =>
      intro i o ho
      rcases i with _ | _ | _ | _ | _ | _ | _ | _ | _ | _ | _ | _ | _ | _ | _ | _ | _ | _ | _ | _ | _ | i
      all_goals (first | (cases ho; decide) | (simp at ho))
    case step =>
      rintro dn aq wq i o ⟨hx, hw, ⟨hc1, hc2⟩, u6, u7, u8, u9, u10, u11, u12, u13, u14, u15, u16, u17, u18, u19, u20, u21, u22, u23, u24, u25, rfl, h0, h1, h2, h3, h4, h5, h6, h7, h8, h9, h10, h11, h12, h13, h14, h15, h16, h17, h18, h19, h20⟩ ho hni hbf K hK
      rcases i with _ | _ | _ | _ | _ | _ | _ | _ | _ | _ | _ | _ | _ | _ | _ | _ | _ | _ | _ | _ | _ | i
      · simp only [List.getElem?_toArray, List.getElem?_cons_zero, Option.some.injEq] at ho
        subst ho
        rw [if_pos (by rfl)]
        have n19 : ¬ dn 19 := fun d => hni (hc1 d).1
        have cX := (hw n19).b.cell 0
        gi_big_op
        exact hK _ _ ⟨hx.trans (Ext.refl wq), fun y => (hw (fun z => y (.inr z))).ext (Ext.refl wq), ⟨fun x => ⟨.inr (hc1 (x.elim (fun e => absurd e (by decide)) id)).1, .inr (hc1 (x.elim (fun e => absurd e (by decide)) id)).2⟩, fun x => .inr (hc2 (x.elim (fun e => absurd e (by decide)) id))⟩, _, _, _, _, _, _, _, _, _, _, _, _, _, _, _, _, _, _, _, _, rfl, fun _ => rfl, fun h => h.elim (fun e => absurd e (by decide)) h1, fun h => h.elim (fun e => absurd e (by decide)) h2, fun h => h.elim (fun e => absurd e (by decide)) h3, fun h => h.elim (fun e => absurd e (by decide)) h4, fun h => h.elim (fun e => absurd e (by decide)) h5, fun h => h.elim (fun e => absurd e (by decide)) h6, fun h => h.elim (fun e => absurd e (by decide)) h7, fun h => h.elim (fun e => absurd e (by decide)) h8, fun h => h.elim (fun e => absurd e (by decide)) h9, fun h => h.elim (fun e => absurd e (by decide)) h10, fun h => h.elim (fun e => absurd e (by decide)) h11, fun h => h.elim (fun e => absurd e (by decide)) h12, fun h => h.elim (fun e => absurd e (by decide)) h13, fun h => h.elim (fun e => absurd e (by decide)) h14, fun h => h.elim (fun e => absurd e (by decide)) h15, fun h => h.elim (fun e => absurd e (by decide)) h16, fun h => h.elim (fun e => absurd e (by decide)) h17, fun h => h.elim (fun e => absurd e (by decide)) (fun d => by obtain ⟨q, e, f⟩ := h18 d; exact ⟨q, e, fun y => (f (fun z => y (.inr z))).ext (Ext.refl wq)⟩), fun h => h.elim (fun e => absurd e (by decide)) (fun d => by obtain ⟨A, c, e, f, g⟩ := h19 d; exact ⟨A, c, e, fun y => (f (fun z => y (.inr z))).ext (Ext.refl wq), fun y => (g (y.elim (fun e => absurd e (by decide)) id)).ext (Ext.refl wq)⟩), fun _ => trivial⟩
      · simp only [List.getElem?_toArray, List.getElem?_cons_zero, List.getElem?_cons_succ, Option.some.injEq] at ho
        subst ho
        rw [if_pos (by rfl)]
        gi_big_op
        exact hK _ _ ⟨hx.trans (Ext.refl wq), fun y => (hw (fun z => y (.inr z))).ext (Ext.refl wq), ⟨fun x => ⟨.inr (hc1 (x.elim (fun e => absurd e (by decide)) id)).1, .inr (hc1 (x.elim (fun e => absurd e (by decide)) id)).2⟩, fun x => .inr (hc2 (x.elim (fun e => absurd e (by decide)) id))⟩, _, _, _, _, _, _, _, _, _, _, _, _, _, _, _, _, _, _, _, _, rfl, fun h => h.elim (fun e => absurd e (by decide)) h0, fun _ => rfl, fun h => h.elim (fun e => absurd e (by decide)) h2, fun h => h.elim (fun e => absurd e (by decide)) h3, fun h => h.elim (fun e => absurd e (by decide)) h4, fun h => h.elim (fun e => absurd e (by decide)) h5, fun h => h.elim (fun e => absurd e (by decide)) h6, fun h => h.elim (fun e => absurd e (by decide)) h7, fun h => h.elim (fun e => absurd e (by decide)) h8, fun h => h.elim (fun e => absurd e (by decide)) h9, fun h => h.elim (fun e => absurd e (by decide)) h10, fun h => h.elim (fun e => absurd e (by decide)) h11, fun h => h.elim (fun e => absurd e (by decide)) h12, fun h => h.elim (fun e => absurd e (by decide)) h13, fun h => h.elim (fun e => absurd e (by decide)) h14, fun h => h.elim (fun e => absurd e (by decide)) h15, fun h => h.elim (fun e => absurd e (by decide)) h16, fun h => h.elim (fun e => absurd e (by decide)) h17, fun h => h.elim (fun e => absurd e (by decide)) (fun d => by obtain ⟨q, e, f⟩ := h18 d; exact ⟨q, e, fun y => (f (fun z => y (.inr z))).ext (Ext.refl wq)⟩), fun h => h.elim (fun e => absurd e (by decide)) (fun d => by obtain ⟨A, c, e, f, g⟩ := h19 d; exact ⟨A, c, e, fun y => (f (fun z => y (.inr z))).ext (Ext.refl wq), fun y => (g (y.elim (fun e => absurd e (by decide)) id)).ext (Ext.refl wq)⟩), fun _ => trivial⟩
      · simp only [List.getElem?_toArray, List.getElem?_cons_zero, List.getElem?_cons_succ, Option.some.injEq] at ho
        subst ho
        have b1 : dn 1 := hbf ⟨1, .data⟩ (by simp) rfl
        obtain rfl := h1 b1
        rw [if_pos (by rfl)]
        gi_wp2_with (refine ⟨trivial, ?_⟩; gi_at_call 29; refine (callsIn_wide.2 (keyS (T0.out.ext hx) rfl)).mono ?_; rintro e wn ⟨rfl, xn⟩)
        exact ⟨hx.trans xn, fun y => (hw (fun z => y (.inr z))).ext xn, ⟨fun x => ⟨.inr (hc1 (x.elim (fun e => absurd e (by decide)) id)).1, .inr (hc1 (x.elim (fun e => absurd e (by decide)) id)).2⟩, fun x => .inr (hc2 (x.elim (fun e => absurd e (by decide)) id))⟩, _, _, _, _, _, _, _, _, _, _, _, _, _, _, _, _, _, _, _, _, rfl, fun h => h.elim (fun e => absurd e (by decide)) h0, fun h => h.elim (fun e => absurd e (by decide)) (fun _ => rfl), fun _ => rfl, fun h => h.elim (fun e => absurd e (by decide)) h3, fun h => h.elim (fun e => absurd e (by decide)) h4, fun h => h.elim (fun e => absurd e (by decide)) h5, fun h => h.elim (fun e => absurd e (by decide)) h6, fun h => h.elim (fun e => absurd e (by decide)) h7, fun h => h.elim (fun e => absurd e (by decide)) h8, fun h => h.elim (fun e => absurd e (by decide)) h9, fun h => h.elim (fun e => absurd e (by decide)) h10, fun h => h.elim (fun e => absurd e (by decide)) h11, fun h => h.elim (fun e => absurd e (by decide)) h12, fun h => h.elim (fun e => absurd e (by decide)) h13, fun h => h.elim (fun e => absurd e (by decide)) h14, fun h => h.elim (fun e => absurd e (by decide)) h15, fun h => h.elim (fun e => absurd e (by decide)) h16, fun h => h.elim (fun e => absurd e (by decide)) h17, fun h => h.elim (fun e => absurd e (by decide)) (fun d => by obtain ⟨q, e, f⟩ := h18 d; exact ⟨q, e, fun y => (f (fun z => y (.inr z))).ext xn⟩), fun h => h.elim (fun e => absurd e (by decide)) (fun d => by obtain ⟨A, c, e, f, g⟩ := h19 d; exact ⟨A, c, e, fun y => (f (fun z => y (.inr z))).ext xn, fun y => (g (y.elim (fun e => absurd e (by decide)) id)).ext xn⟩), fun _ => trivial⟩
      · simp only [List.getElem?_toArray, List.getElem?_cons_zero, List.getElem?_cons_succ, Option.some.injEq] at ho
        subst ho
        rw [if_pos (by rfl)]
        gi_big_op
        exact hK _ _ ⟨hx.trans (Ext.refl wq), fun y => (hw (fun z => y (.inr z))).ext (Ext.refl wq), ⟨fun x => ⟨.inr (hc1 (x.elim (fun e => absurd e (by decide)) id)).1, .inr (hc1 (x.elim (fun e => absurd e (by decide)) id)).2⟩, fun x => .inr (hc2 (x.elim (fun e => absurd e (by decide)) id))⟩, _, _, _, _, _, _, _, _, _, _, _, _, _, _, _, _, _, _, _, _, rfl, fun h => h.elim (fun e => absurd e (by decide)) h0, fun h => h.elim (fun e => absurd e (by decide)) h1, fun h => h.elim (fun e => absurd e (by decide)) h2, fun _ => rfl, fun h => h.elim (fun e => absurd e (by decide)) h4, fun h => h.elim (fun e => absurd e (by decide)) h5, fun h => h.elim (fun e => absurd e (by decide)) h6, fun h => h.elim (fun e => absurd e (by decide)) h7, fun h => h.elim (fun e => absurd e (by decide)) h8, fun h => h.elim (fun e => absurd e (by decide)) h9, fun h => h.elim (fun e => absurd e (by decide)) h10, fun h => h.elim (fun e => absurd e (by decide)) h11, fun h => h.elim (fun e => absurd e (by decide)) h12, fun h => h.elim (fun e => absurd e (by decide)) h13, fun h => h.elim (fun e => absurd e (by decide)) h14, fun h => h.elim (fun e => absurd e (by decide)) h15, fun h => h.elim (fun e => absurd e (by decide)) h16, fun h => h.elim (fun e => absurd e (by decide)) h17, fun h => h.elim (fun e => absurd e (by decide)) (fun d => by obtain ⟨q, e, f⟩ := h18 d; exact ⟨q, e, fun y => (f (fun z => y (.inr z))).ext (Ext.refl wq)⟩), fun h => h.elim (fun e => absurd e (by decide)) (fun d => by obtain ⟨A, c, e, f, g⟩ := h19 d; exact ⟨A, c, e, fun y => (f (fun z => y (.inr z))).ext (Ext.refl wq), fun y => (g (y.elim (fun e => absurd e (by decide)) id)).ext (Ext.refl wq)⟩), fun _ => trivial⟩
      · simp only [List.getElem?_toArray, List.getElem?_cons_zero, List.getElem?_cons_succ, Option.some.injEq] at ho
        subst ho
        have b2 : dn 2 := hbf ⟨2, .chain⟩ (by simp) rfl
        have b3 : dn 3 := hbf ⟨3, .data⟩ (by simp) rfl
        obtain rfl := h3 b3
        rw [if_pos (by rfl)]
        gi_wp2_with (refine ⟨trivial, ?_⟩; gi_at_call 30; refine (callsIn_wide.2 (valS (T0.out.ext hx) rfl)).mono ?_; rintro e wn ⟨rfl, xn⟩)
        exact ⟨hx.trans xn, fun y => (hw (fun z => y (.inr z))).ext xn, ⟨fun x => ⟨.inr (hc1 (x.elim (fun e => absurd e (by decide)) id)).1, .inr (hc1 (x.elim (fun e => absurd e (by decide)) id)).2⟩, fun x => .inr (hc2 (x.elim (fun e => absurd e (by decide)) id))⟩, _, _, _, _, _, _, _, _, _, _, _, _, _, _, _, _, _, _, _, _, rfl, fun h => h.elim (fun e => absurd e (by decide)) h0, fun h => h.elim (fun e => absurd e (by decide)) h1, fun h => h.elim (fun e => absurd e (by decide)) h2, fun h => h.elim (fun e => absurd e (by decide)) (fun _ => rfl), fun _ => rfl, fun h => h.elim (fun e => absurd e (by decide)) h5, fun h => h.elim (fun e => absurd e (by decide)) h6, fun h => h.elim (fun e => absurd e (by decide)) h7, fun h => h.elim (fun e => absurd e (by decide)) h8, fun h => h.elim (fun e => absurd e (by decide)) h9, fun h => h.elim (fun e => absurd e (by decide)) h10, fun h => h.elim (fun e => absurd e (by decide)) h11, fun h => h.elim (fun e => absurd e (by decide)) h12, fun h => h.elim (fun e => absurd e (by decide)) h13, fun h => h.elim (fun e => absurd e (by decide)) h14, fun h => h.elim (fun e => absurd e (by decide)) h15, fun h => h.elim (fun e => absurd e (by decide)) h16, fun h => h.elim (fun e => absurd e (by decide)) h17, fun h => h.elim (fun e => absurd e (by decide)) (fun d => by obtain ⟨q, e, f⟩ := h18 d; exact ⟨q, e, fun y => (f (fun z => y (.inr z))).ext xn⟩), fun h => h.elim (fun e => absurd e (by decide)) (fun d => by obtain ⟨A, c, e, f, g⟩ := h19 d; exact ⟨A, c, e, fun y => (f (fun z => y (.inr z))).ext xn, fun y => (g (y.elim (fun e => absurd e (by decide)) id)).ext xn⟩), fun _ => trivial⟩
      · simp only [List.getElem?_toArray, List.getElem?_cons_zero, List.getElem?_cons_succ, Option.some.injEq] at ho
        subst ho
        rw [if_pos (by rfl)]
        gi_big_op
        exact hK _ _ ⟨hx.trans (Ext.refl wq), fun y => (hw (fun z => y (.inr z))).ext (Ext.refl wq), ⟨fun x => ⟨.inr (hc1 (x.elim (fun e => absurd e (by decide)) id)).1, .inr (hc1 (x.elim (fun e => absurd e (by decide)) id)).2⟩, fun x => .inr (hc2 (x.elim (fun e => absurd e (by decide)) id))⟩, _, _, _, _, _, _, _, _, _, _, _, _, _, _, _, _, _, _, _, _, rfl, fun h => h.elim (fun e => absurd e (by decide)) h0, fun h => h.elim (fun e => absurd e (by decide)) h1, fun h => h.elim (fun e => absurd e (by decide)) h2, fun h => h.elim (fun e => absurd e (by decide)) h3, fun h => h.elim (fun e => absurd e (by decide)) h4, fun _ => rfl, fun h => h.elim (fun e => absurd e (by decide)) h6, fun h => h.elim (fun e => absurd e (by decide)) h7, fun h => h.elim (fun e => absurd e (by decide)) h8, fun h => h.elim (fun e => absurd e (by decide)) h9, fun h => h.elim (fun e => absurd e (by decide)) h10, fun h => h.elim (fun e => absurd e (by decide)) h11, fun h => h.elim (fun e => absurd e (by decide)) h12, fun h => h.elim (fun e => absurd e (by decide)) h13, fun h => h.elim (fun e => absurd e (by decide)) h14, fun h => h.elim (fun e => absurd e (by decide)) h15, fun h => h.elim (fun e => absurd e (by decide)) h16, fun h => h.elim (fun e => absurd e (by decide)) h17, fun h => h.elim (fun e => absurd e (by decide)) (fun d => by obtain ⟨q, e, f⟩ := h18 d; exact ⟨q, e, fun y => (f (fun z => y (.inr z))).ext (Ext.refl wq)⟩), fun h => h.elim (fun e => absurd e (by decide)) (fun d => by obtain ⟨A, c, e, f, g⟩ := h19 d; exact ⟨A, c, e, fun y => (f (fun z => y (.inr z))).ext (Ext.refl wq), fun y => (g (y.elim (fun e => absurd e (by decide)) id)).ext (Ext.refl wq)⟩), fun _ => trivial⟩
      · simp only [List.getElem?_toArray, List.getElem?_cons_zero, List.getElem?_cons_succ, Option.some.injEq] at ho
        subst ho
        have b4 : dn 4 := hbf ⟨4, .chain⟩ (by simp) rfl
        have b5 : dn 5 := hbf ⟨5, .data⟩ (by simp) rfl
        obtain rfl := h5 b5
        rw [if_pos (by rfl)]
        gi_wp2_with (refine ⟨trivial, ?_⟩; gi_at_call 31; refine (callsIn_wide.2 (sumS (T0.out.ext hx) rfl)).mono ?_; rintro e wn ⟨rfl, xn⟩)
        exact ⟨hx.trans xn, fun y => (hw (fun z => y (.inr z))).ext xn, ⟨fun x => ⟨.inr (hc1 (x.elim (fun e => absurd e (by decide)) id)).1, .inr (hc1 (x.elim (fun e => absurd e (by decide)) id)).2⟩, fun x => .inr (hc2 (x.elim (fun e => absurd e (by decide)) id))⟩, _, _, _, _, _, _, _, _, _, _, _, _, _, _, _, _, _, _, _, _, rfl, fun h => h.elim (fun e => absurd e (by decide)) h0, fun h => h.elim (fun e => absurd e (by decide)) h1, fun h => h.elim (fun e => absurd e (by decide)) h2, fun h => h.elim (fun e => absurd e (by decide)) h3, fun h => h.elim (fun e => absurd e (by decide)) h4, fun h => h.elim (fun e => absurd e (by decide)) (fun _ => rfl), fun _ => rfl, fun h => h.elim (fun e => absurd e (by decide)) h7, fun h => h.elim (fun e => absurd e (by decide)) h8, fun h => h.elim (fun e => absurd e (by decide)) h9, fun h => h.elim (fun e => absurd e (by decide)) h10, fun h => h.elim (fun e => absurd e (by decide)) h11, fun h => h.elim (fun e => absurd e (by decide)) h12, fun h => h.elim (fun e => absurd e (by decide)) h13, fun h => h.elim (fun e => absurd e (by decide)) h14, fun h => h.elim (fun e => absurd e (by decide)) h15, fun h => h.elim (fun e => absurd e (by decide)) h16, fun h => h.elim (fun e => absurd e (by decide)) h17, fun h => h.elim (fun e => absurd e (by decide)) (fun d => by obtain ⟨q, e, f⟩ := h18 d; exact ⟨q, e, fun y => (f (fun z => y (.inr z))).ext xn⟩), fun h => h.elim (fun e => absurd e (by decide)) (fun d => by obtain ⟨A, c, e, f, g⟩ := h19 d; exact ⟨A, c, e, fun y => (f (fun z => y (.inr z))).ext xn, fun y => (g (y.elim (fun e => absurd e (by decide)) id)).ext xn⟩), fun _ => trivial⟩
      · simp only [List.getElem?_toArray, List.getElem?_cons_zero, List.getElem?_cons_succ, Option.some.injEq] at ho
        subst ho
        rw [if_pos (by rfl)]
        gi_big_op
        exact hK _ _ ⟨hx.trans (Ext.refl wq), fun y => (hw (fun z => y (.inr z))).ext (Ext.refl wq), ⟨fun x => ⟨.inr (hc1 (x.elim (fun e => absurd e (by decide)) id)).1, .inr (hc1 (x.elim (fun e => absurd e (by decide)) id)).2⟩, fun x => .inr (hc2 (x.elim (fun e => absurd e (by decide)) id))⟩, _, _, _, _, _, _, _, _, _, _, _, _, _, _, _, _, _, _, _, _, rfl, fun h => h.elim (fun e => absurd e (by decide)) h0, fun h => h.elim (fun e => absurd e (by decide)) h1, fun h => h.elim (fun e => absurd e (by decide)) h2, fun h => h.elim (fun e => absurd e (by decide)) h3, fun h => h.elim (fun e => absurd e (by decide)) h4, fun h => h.elim (fun e => absurd e (by decide)) h5, fun h => h.elim (fun e => absurd e (by decide)) h6, fun _ => rfl, fun h => h.elim (fun e => absurd e (by decide)) h8, fun h => h.elim (fun e => absurd e (by decide)) h9, fun h => h.elim (fun e => absurd e (by decide)) h10, fun h => h.elim (fun e => absurd e (by decide)) h11, fun h => h.elim (fun e => absurd e (by decide)) h12, fun h => h.elim (fun e => absurd e (by decide)) h13, fun h => h.elim (fun e => absurd e (by decide)) h14, fun h => h.elim (fun e => absurd e (by decide)) h15, fun h => h.elim (fun e => absurd e (by decide)) h16, fun h => h.elim (fun e => absurd e (by decide)) h17, fun h => h.elim (fun e => absurd e (by decide)) (fun d => by obtain ⟨q, e, f⟩ := h18 d; exact ⟨q, e, fun y => (f (fun z => y (.inr z))).ext (Ext.refl wq)⟩), fun h => h.elim (fun e => absurd e (by decide)) (fun d => by obtain ⟨A, c, e, f, g⟩ := h19 d; exact ⟨A, c, e, fun y => (f (fun z => y (.inr z))).ext (Ext.refl wq), fun y => (g (y.elim (fun e => absurd e (by decide)) id)).ext (Ext.refl wq)⟩), fun _ => trivial⟩
      · simp only [List.getElem?_toArray, List.getElem?_cons_zero, List.getElem?_cons_succ, Option.some.injEq] at ho
        subst ho
        have b6 : dn 6 := hbf ⟨6, .chain⟩ (by simp) rfl
        have b7 : dn 7 := hbf ⟨7, .data⟩ (by simp) rfl
        obtain rfl := h7 b7
        rw [if_pos (by rfl)]
        gi_wp2_with (refine ⟨trivial, ?_⟩; gi_at_call 23; refine (callsIn_wide.2 (sizeS (T0.out.ext hx) rfl)).mono ?_; rintro e wn ⟨rfl, xn⟩)
        exact ⟨hx.trans xn, fun y => (hw (fun z => y (.inr z))).ext xn, ⟨fun x => ⟨.inr (hc1 (x.elim (fun e => absurd e (by decide)) id)).1, .inr (hc1 (x.elim (fun e => absurd e (by decide)) id)).2⟩, fun x => .inr (hc2 (x.elim (fun e => absurd e (by decide)) id))⟩, _, _, _, _, _, _, _, _, _, _, _, _, _, _, _, _, _, _, _, _, rfl, fun h => h.elim (fun e => absurd e (by decide)) h0, fun h => h.elim (fun e => absurd e (by decide)) h1, fun h => h.elim (fun e => absurd e (by decide)) h2, fun h => h.elim (fun e => absurd e (by decide)) h3, fun h => h.elim (fun e => absurd e (by decide)) h4, fun h => h.elim (fun e => absurd e (by decide)) h5, fun h => h.elim (fun e => absurd e (by decide)) h6, fun h => h.elim (fun e => absurd e (by decide)) (fun _ => rfl), fun _ => rfl, fun h => h.elim (fun e => absurd e (by decide)) h9, fun h => h.elim (fun e => absurd e (by decide)) h10, fun h => h.elim (fun e => absurd e (by decide)) h11, fun h => h.elim (fun e => absurd e (by decide)) h12, fun h => h.elim (fun e => absurd e (by decide)) h13, fun h => h.elim (fun e => absurd e (by decide)) h14, fun h => h.elim (fun e => absurd e (by decide)) h15, fun h => h.elim (fun e => absurd e (by decide)) h16, fun h => h.elim (fun e => absurd e (by decide)) h17, fun h => h.elim (fun e => absurd e (by decide)) (fun d => by obtain ⟨q, e, f⟩ := h18 d; exact ⟨q, e, fun y => (f (fun z => y (.inr z))).ext xn⟩), fun h => h.elim (fun e => absurd e (by decide)) (fun d => by obtain ⟨A, c, e, f, g⟩ := h19 d; exact ⟨A, c, e, fun y => (f (fun z => y (.inr z))).ext xn, fun y => (g (y.elim (fun e => absurd e (by decide)) id)).ext xn⟩), fun _ => trivial⟩
      · simp only [List.getElem?_toArray, List.getElem?_cons_zero, List.getElem?_cons_succ, Option.some.injEq] at ho
        subst ho
        rw [if_pos (by rfl)]
        gi_big_op
        exact hK _ _ ⟨hx.trans (Ext.refl wq), fun y => (hw (fun z => y (.inr z))).ext (Ext.refl wq), ⟨fun x => ⟨.inr (hc1 (x.elim (fun e => absurd e (by decide)) id)).1, .inr (hc1 (x.elim (fun e => absurd e (by decide)) id)).2⟩, fun x => .inr (hc2 (x.elim (fun e => absurd e (by decide)) id))⟩, _, _, _, _, _, _, _, _, _, _, _, _, _, _, _, _, _, _, _, _, rfl, fun h => h.elim (fun e => absurd e (by decide)) h0, fun h => h.elim (fun e => absurd e (by decide)) h1, fun h => h.elim (fun e => absurd e (by decide)) h2, fun h => h.elim (fun e => absurd e (by decide)) h3, fun h => h.elim (fun e => absurd e (by decide)) h4, fun h => h.elim (fun e => absurd e (by decide)) h5, fun h => h.elim (fun e => absurd e (by decide)) h6, fun h => h.elim (fun e => absurd e (by decide)) h7, fun h => h.elim (fun e => absurd e (by decide)) h8, fun _ => rfl, fun h => h.elim (fun e => absurd e (by decide)) h10, fun h => h.elim (fun e => absurd e (by decide)) h11, fun h => h.elim (fun e => absurd e (by decide)) h12, fun h => h.elim (fun e => absurd e (by decide)) h13, fun h => h.elim (fun e => absurd e (by decide)) h14, fun h => h.elim (fun e => absurd e (by decide)) h15, fun h => h.elim (fun e => absurd e (by decide)) h16, fun h => h.elim (fun e => absurd e (by decide)) h17, fun h => h.elim (fun e => absurd e (by decide)) (fun d => by obtain ⟨q, e, f⟩ := h18 d; exact ⟨q, e, fun y => (f (fun z => y (.inr z))).ext (Ext.refl wq)⟩), fun h => h.elim (fun e => absurd e (by decide)) (fun d => by obtain ⟨A, c, e, f, g⟩ := h19 d; exact ⟨A, c, e, fun y => (f (fun z => y (.inr z))).ext (Ext.refl wq), fun y => (g (y.elim (fun e => absurd e (by decide)) id)).ext (Ext.refl wq)⟩), fun _ => trivial⟩
      · simp only [List.getElem?_toArray, List.getElem?_cons_zero, List.getElem?_cons_succ, Option.some.injEq] at ho
        subst ho
        have b8 : dn 8 := hbf ⟨8, .chain⟩ (by simp) rfl
        have b9 : dn 9 := hbf ⟨9, .data⟩ (by simp) rfl
        obtain rfl := h9 b9
        rw [if_pos (by rfl)]
        gi_wp2_with (refine ⟨trivial, ?_⟩; gi_at_call 32; refine (callsIn_wide.2 (tagS (T0.out.ext hx) rfl)).mono ?_; rintro e wn ⟨rfl, xn⟩)
        exact ⟨hx.trans xn, fun y => (hw (fun z => y (.inr z))).ext xn, ⟨fun x => ⟨.inr (hc1 (x.elim (fun e => absurd e (by decide)) id)).1, .inr (hc1 (x.elim (fun e => absurd e (by decide)) id)).2⟩, fun x => .inr (hc2 (x.elim (fun e => absurd e (by decide)) id))⟩, _, _, _, _, _, _, _, _, _, _, _, _, _, _, _, _, _, _, _, _, rfl, fun h => h.elim (fun e => absurd e (by decide)) h0, fun h => h.elim (fun e => absurd e (by decide)) h1, fun h => h.elim (fun e => absurd e (by decide)) h2, fun h => h.elim (fun e => absurd e (by decide)) h3, fun h => h.elim (fun e => absurd e (by decide)) h4, fun h => h.elim (fun e => absurd e (by decide)) h5, fun h => h.elim (fun e => absurd e (by decide)) h6, fun h => h.elim (fun e => absurd e (by decide)) h7, fun h => h.elim (fun e => absurd e (by decide)) h8, fun h => h.elim (fun e => absurd e (by decide)) (fun _ => rfl), fun _ => rfl, fun h => h.elim (fun e => absurd e (by decide)) h11, fun h => h.elim (fun e => absurd e (by decide)) h12, fun h => h.elim (fun e => absurd e (by decide)) h13, fun h => h.elim (fun e => absurd e (by decide)) h14, fun h => h.elim (fun e => absurd e (by decide)) h15, fun h => h.elim (fun e => absurd e (by decide)) h16, fun h => h.elim (fun e => absurd e (by decide)) h17, fun h => h.elim (fun e => absurd e (by decide)) (fun d => by obtain ⟨q, e, f⟩ := h18 d; exact ⟨q, e, fun y => (f (fun z => y (.inr z))).ext xn⟩), fun h => h.elim (fun e => absurd e (by decide)) (fun d => by obtain ⟨A, c, e, f, g⟩ := h19 d; exact ⟨A, c, e, fun y => (f (fun z => y (.inr z))).ext xn, fun y => (g (y.elim (fun e => absurd e (by decide)) id)).ext xn⟩), fun _ => trivial⟩
      · simp only [List.getElem?_toArray, List.getElem?_cons_zero, List.getElem?_cons_succ, Option.some.injEq] at ho
        subst ho
        rw [if_pos (by rfl)]
        gi_big_op
        exact hK _ _ ⟨hx.trans (Ext.refl wq), fun y => (hw (fun z => y (.inr z))).ext (Ext.refl wq), ⟨fun x => ⟨.inr (hc1 (x.elim (fun e => absurd e (by decide)) id)).1, .inr (hc1 (x.elim (fun e => absurd e (by decide)) id)).2⟩, fun x => .inr (hc2 (x.elim (fun e => absurd e (by decide)) id))⟩, _, _, _, _, _, _, _, _, _, _, _, _, _, _, _, _, _, _, _, _, rfl, fun h => h.elim (fun e => absurd e (by decide)) h0, fun h => h.elim (fun e => absurd e (by decide)) h1, fun h => h.elim (fun e => absurd e (by decide)) h2, fun h => h.elim (fun e => absurd e (by decide)) h3, fun h => h.elim (fun e => absurd e (by decide)) h4, fun h => h.elim (fun e => absurd e (by decide)) h5, fun h => h.elim (fun e => absurd e (by decide)) h6, fun h => h.elim (fun e => absurd e (by decide)) h7, fun h => h.elim (fun e => absurd e (by decide)) h8, fun h => h.elim (fun e => absurd e (by decide)) h9, fun h => h.elim (fun e => absurd e (by decide)) h10, fun _ => rfl, fun h => h.elim (fun e => absurd e (by decide)) h12, fun h => h.elim (fun e => absurd e (by decide)) h13, fun h => h.elim (fun e => absurd e (by decide)) h14, fun h => h.elim (fun e => absurd e (by decide)) h15, fun h => h.elim (fun e => absurd e (by decide)) h16, fun h => h.elim (fun e => absurd e (by decide)) h17, fun h => h.elim (fun e => absurd e (by decide)) (fun d => by obtain ⟨q, e, f⟩ := h18 d; exact ⟨q, e, fun y => (f (fun z => y (.inr z))).ext (Ext.refl wq)⟩), fun h => h.elim (fun e => absurd e (by decide)) (fun d => by obtain ⟨A, c, e, f, g⟩ := h19 d; exact ⟨A, c, e, fun y => (f (fun z => y (.inr z))).ext (Ext.refl wq), fun y => (g (y.elim (fun e => absurd e (by decide)) id)).ext (Ext.refl wq)⟩), fun _ => trivial⟩
      · simp only [List.getElem?_toArray, List.getElem?_cons_zero, List.getElem?_cons_succ, Option.some.injEq] at ho
        subst ho
        have b10 : dn 10 := hbf ⟨10, .chain⟩ (by simp) rfl
        have b11 : dn 11 := hbf ⟨11, .data⟩ (by simp) rfl
        obtain rfl := h11 b11
        rw [if_pos (by rfl)]
        gi_wp2_with (refine ⟨trivial, ?_⟩; gi_at_call 33; refine (callsIn_wide.2 (left_at (hat.ext hx))).mono ?_; rintro e wn ⟨rfl, rfl⟩)
        exact ⟨hx.trans (Ext.refl wq), fun y => (hw (fun z => y (.inr z))).ext (Ext.refl wq), ⟨fun x => ⟨.inr (hc1 (x.elim (fun e => absurd e (by decide)) id)).1, .inr (hc1 (x.elim (fun e => absurd e (by decide)) id)).2⟩, fun x => .inr (hc2 (x.elim (fun e => absurd e (by decide)) id))⟩, _, _, _, _, _, _, _, _, _, _, _, _, _, _, _, _, _, _, _, _, rfl, fun h => h.elim (fun e => absurd e (by decide)) h0, fun h => h.elim (fun e => absurd e (by decide)) h1, fun h => h.elim (fun e => absurd e (by decide)) h2, fun h => h.elim (fun e => absurd e (by decide)) h3, fun h => h.elim (fun e => absurd e (by decide)) h4, fun h => h.elim (fun e => absurd e (by decide)) h5, fun h => h.elim (fun e => absurd e (by decide)) h6, fun h => h.elim (fun e => absurd e (by decide)) h7, fun h => h.elim (fun e => absurd e (by decide)) h8, fun h => h.elim (fun e => absurd e (by decide)) h9, fun h => h.elim (fun e => absurd e (by decide)) h10, fun h => h.elim (fun e => absurd e (by decide)) (fun _ => rfl), fun _ => rfl, fun h => h.elim (fun e => absurd e (by decide)) h13, fun h => h.elim (fun e => absurd e (by decide)) h14, fun h => h.elim (fun e => absurd e (by decide)) h15, fun h => h.elim (fun e => absurd e (by decide)) h16, fun h => h.elim (fun e => absurd e (by decide)) h17, fun h => h.elim (fun e => absurd e (by decide)) (fun d => by obtain ⟨q, e, f⟩ := h18 d; exact ⟨q, e, fun y => (f (fun z => y (.inr z))).ext (Ext.refl wq)⟩), fun h => h.elim (fun e => absurd e (by decide)) (fun d => by obtain ⟨A, c, e, f, g⟩ := h19 d; exact ⟨A, c, e, fun y => (f (fun z => y (.inr z))).ext (Ext.refl wq), fun y => (g (y.elim (fun e => absurd e (by decide)) id)).ext (Ext.refl wq)⟩), fun _ => trivial⟩
      · simp only [List.getElem?_toArray, List.getElem?_cons_zero, List.getElem?_cons_succ, Option.some.injEq] at ho
        subst ho
        have b12 : dn 12 := hbf ⟨12, .data⟩ (by simp) rfl
        obtain rfl := h12 b12
        rw [if_pos (by rfl)]
        gi_big_op
        exact hK _ _ ⟨hx.trans (Ext.refl wq), fun y => (hw (fun z => y (.inr z))).ext (Ext.refl wq), ⟨fun x => ⟨.inr (hc1 (x.elim (fun e => absurd e (by decide)) id)).1, .inr (hc1 (x.elim (fun e => absurd e (by decide)) id)).2⟩, fun x => .inr (hc2 (x.elim (fun e => absurd e (by decide)) id))⟩, _, _, _, _, _, _, _, _, _, _, _, _, _, _, _, _, _, _, _, _, rfl, fun h => h.elim (fun e => absurd e (by decide)) h0, fun h => h.elim (fun e => absurd e (by decide)) h1, fun h => h.elim (fun e => absurd e (by decide)) h2, fun h => h.elim (fun e => absurd e (by decide)) h3, fun h => h.elim (fun e => absurd e (by decide)) h4, fun h => h.elim (fun e => absurd e (by decide)) h5, fun h => h.elim (fun e => absurd e (by decide)) h6, fun h => h.elim (fun e => absurd e (by decide)) h7, fun h => h.elim (fun e => absurd e (by decide)) h8, fun h => h.elim (fun e => absurd e (by decide)) h9, fun h => h.elim (fun e => absurd e (by decide)) h10, fun h => h.elim (fun e => absurd e (by decide)) h11, fun h => h.elim (fun e => absurd e (by decide)) (fun _ => rfl), fun _ => rfl, fun h => h.elim (fun e => absurd e (by decide)) h14, fun h => h.elim (fun e => absurd e (by decide)) h15, fun h => h.elim (fun e => absurd e (by decide)) h16, fun h => h.elim (fun e => absurd e (by decide)) h17, fun h => h.elim (fun e => absurd e (by decide)) (fun d => by obtain ⟨q, e, f⟩ := h18 d; exact ⟨q, e, fun y => (f (fun z => y (.inr z))).ext (Ext.refl wq)⟩), fun h => h.elim (fun e => absurd e (by decide)) (fun d => by obtain ⟨A, c, e, f, g⟩ := h19 d; exact ⟨A, c, e, fun y => (f (fun z => y (.inr z))).ext (Ext.refl wq), fun y => (g (y.elim (fun e => absurd e (by decide)) id)).ext (Ext.refl wq)⟩), fun _ => trivial⟩
      · simp only [List.getElem?_toArray, List.getElem?_cons_zero, List.getElem?_cons_succ, Option.some.injEq] at ho
        subst ho
        rw [if_pos (by rfl)]
        gi_big_op
        exact hK _ _ ⟨hx.trans (Ext.refl wq), fun y => (hw (fun z => y (.inr z))).ext (Ext.refl wq), ⟨fun x => ⟨.inr (hc1 (x.elim (fun e => absurd e (by decide)) id)).1, .inr (hc1 (x.elim (fun e => absurd e (by decide)) id)).2⟩, fun x => .inr (hc2 (x.elim (fun e => absurd e (by decide)) id))⟩, _, _, _, _, _, _, _, _, _, _, _, _, _, _, _, _, _, _, _, _, rfl, fun h => h.elim (fun e => absurd e (by decide)) h0, fun h => h.elim (fun e => absurd e (by decide)) h1, fun h => h.elim (fun e => absurd e (by decide)) h2, fun h => h.elim (fun e => absurd e (by decide)) h3, fun h => h.elim (fun e => absurd e (by decide)) h4, fun h => h.elim (fun e => absurd e (by decide)) h5, fun h => h.elim (fun e => absurd e (by decide)) h6, fun h => h.elim (fun e => absurd e (by decide)) h7, fun h => h.elim (fun e => absurd e (by decide)) h8, fun h => h.elim (fun e => absurd e (by decide)) h9, fun h => h.elim (fun e => absurd e (by decide)) h10, fun h => h.elim (fun e => absurd e (by decide)) h11, fun h => h.elim (fun e => absurd e (by decide)) h12, fun h => h.elim (fun e => absurd e (by decide)) h13, fun _ => rfl, fun h => h.elim (fun e => absurd e (by decide)) h15, fun h => h.elim (fun e => absurd e (by decide)) h16, fun h => h.elim (fun e => absurd e (by decide)) h17, fun h => h.elim (fun e => absurd e (by decide)) (fun d => by obtain ⟨q, e, f⟩ := h18 d; exact ⟨q, e, fun y => (f (fun z => y (.inr z))).ext (Ext.refl wq)⟩), fun h => h.elim (fun e => absurd e (by decide)) (fun d => by obtain ⟨A, c, e, f, g⟩ := h19 d; exact ⟨A, c, e, fun y => (f (fun z => y (.inr z))).ext (Ext.refl wq), fun y => (g (y.elim (fun e => absurd e (by decide)) id)).ext (Ext.refl wq)⟩), fun _ => trivial⟩
      · simp only [List.getElem?_toArray, List.getElem?_cons_zero, List.getElem?_cons_succ, Option.some.injEq] at ho
        subst ho
        have b12 : dn 12 := hbf ⟨12, .chain⟩ (by simp) rfl
        have b14 : dn 14 := hbf ⟨14, .data⟩ (by simp) rfl
        obtain rfl := h14 b14
        rw [if_pos (by rfl)]
        gi_wp2_with (refine ⟨trivial, ?_⟩; gi_at_call 34; refine (callsIn_wide.2 (right_at (hat.ext hx))).mono ?_; rintro e wn ⟨rfl, rfl⟩)
        exact ⟨hx.trans (Ext.refl wq), fun y => (hw (fun z => y (.inr z))).ext (Ext.refl wq), ⟨fun x => ⟨.inr (hc1 (x.elim (fun e => absurd e (by decide)) id)).1, .inr (hc1 (x.elim (fun e => absurd e (by decide)) id)).2⟩, fun x => .inr (hc2 (x.elim (fun e => absurd e (by decide)) id))⟩, _, _, _, _, _, _, _, _, _, _, _, _, _, _, _, _, _, _, _, _, rfl, fun h => h.elim (fun e => absurd e (by decide)) h0, fun h => h.elim (fun e => absurd e (by decide)) h1, fun h => h.elim (fun e => absurd e (by decide)) h2, fun h => h.elim (fun e => absurd e (by decide)) h3, fun h => h.elim (fun e => absurd e (by decide)) h4, fun h => h.elim (fun e => absurd e (by decide)) h5, fun h => h.elim (fun e => absurd e (by decide)) h6, fun h => h.elim (fun e => absurd e (by decide)) h7, fun h => h.elim (fun e => absurd e (by decide)) h8, fun h => h.elim (fun e => absurd e (by decide)) h9, fun h => h.elim (fun e => absurd e (by decide)) h10, fun h => h.elim (fun e => absurd e (by decide)) h11, fun h => h.elim (fun e => absurd e (by decide)) h12, fun h => h.elim (fun e => absurd e (by decide)) h13, fun h => h.elim (fun e => absurd e (by decide)) (fun _ => rfl), fun _ => rfl, fun h => h.elim (fun e => absurd e (by decide)) h16, fun h => h.elim (fun e => absurd e (by decide)) h17, fun h => h.elim (fun e => absurd e (by decide)) (fun d => by obtain ⟨q, e, f⟩ := h18 d; exact ⟨q, e, fun y => (f (fun z => y (.inr z))).ext (Ext.refl wq)⟩), fun h => h.elim (fun e => absurd e (by decide)) (fun d => by obtain ⟨A, c, e, f, g⟩ := h19 d; exact ⟨A, c, e, fun y => (f (fun z => y (.inr z))).ext (Ext.refl wq), fun y => (g (y.elim (fun e => absurd e (by decide)) id)).ext (Ext.refl wq)⟩), fun _ => trivial⟩
      · simp only [List.getElem?_toArray, List.getElem?_cons_zero, List.getElem?_cons_succ, Option.some.injEq] at ho
        subst ho
        have b15 : dn 15 := hbf ⟨15, .data⟩ (by simp) rfl
        obtain rfl := h15 b15
        rw [if_pos (by rfl)]
        gi_big_op
        exact hK _ _ ⟨hx.trans (Ext.refl wq), fun y => (hw (fun z => y (.inr z))).ext (Ext.refl wq), ⟨fun x => ⟨.inr (hc1 (x.elim (fun e => absurd e (by decide)) id)).1, .inr (hc1 (x.elim (fun e => absurd e (by decide)) id)).2⟩, fun x => .inr (hc2 (x.elim (fun e => absurd e (by decide)) id))⟩, _, _, _, _, _, _, _, _, _, _, _, _, _, _, _, _, _, _, _, _, rfl, fun h => h.elim (fun e => absurd e (by decide)) h0, fun h => h.elim (fun e => absurd e (by decide)) h1, fun h => h.elim (fun e => absurd e (by decide)) h2, fun h => h.elim (fun e => absurd e (by decide)) h3, fun h => h.elim (fun e => absurd e (by decide)) h4, fun h => h.elim (fun e => absurd e (by decide)) h5, fun h => h.elim (fun e => absurd e (by decide)) h6, fun h => h.elim (fun e => absurd e (by decide)) h7, fun h => h.elim (fun e => absurd e (by decide)) h8, fun h => h.elim (fun e => absurd e (by decide)) h9, fun h => h.elim (fun e => absurd e (by decide)) h10, fun h => h.elim (fun e => absurd e (by decide)) h11, fun h => h.elim (fun e => absurd e (by decide)) h12, fun h => h.elim (fun e => absurd e (by decide)) h13, fun h => h.elim (fun e => absurd e (by decide)) h14, fun h => h.elim (fun e => absurd e (by decide)) (fun _ => rfl), fun _ => rfl, fun h => h.elim (fun e => absurd e (by decide)) h17, fun h => h.elim (fun e => absurd e (by decide)) (fun d => by obtain ⟨q, e, f⟩ := h18 d; exact ⟨q, e, fun y => (f (fun z => y (.inr z))).ext (Ext.refl wq)⟩), fun h => h.elim (fun e => absurd e (by decide)) (fun d => by obtain ⟨A, c, e, f, g⟩ := h19 d; exact ⟨A, c, e, fun y => (f (fun z => y (.inr z))).ext (Ext.refl wq), fun y => (g (y.elim (fun e => absurd e (by decide)) id)).ext (Ext.refl wq)⟩), fun _ => trivial⟩
      · simp only [List.getElem?_toArray, List.getElem?_cons_zero, List.getElem?_cons_succ, Option.some.injEq] at ho
        subst ho
        have b2 : dn 2 := hbf ⟨2, .data⟩ (by simp) rfl
        have b4 : dn 4 := hbf ⟨4, .data⟩ (by simp) rfl
        have b6 : dn 6 := hbf ⟨6, .data⟩ (by simp) rfl
        have b8 : dn 8 := hbf ⟨8, .data⟩ (by simp) rfl
        have b10 : dn 10 := hbf ⟨10, .data⟩ (by simp) rfl
        have b13 : dn 13 := hbf ⟨13, .data⟩ (by simp) rfl
        have b16 : dn 16 := hbf ⟨16, .data⟩ (by simp) rfl
        obtain rfl := h2 b2
        obtain rfl := h4 b4
        obtain rfl := h6 b6
        obtain rfl := h8 b8
        obtain rfl := h10 b10
        obtain rfl := h13 b13
        obtain rfl := h16 b16
        rw [if_pos (by rfl)]
        gi_big_op
        exact hK _ _ ⟨hx.trans (Ext.refl wq), fun y => (hw (fun z => y (.inr z))).ext (Ext.refl wq), ⟨fun x => ⟨.inr (hc1 (x.elim (fun e => absurd e (by decide)) id)).1, .inr (hc1 (x.elim (fun e => absurd e (by decide)) id)).2⟩, fun x => .inr (hc2 (x.elim (fun e => absurd e (by decide)) id))⟩, _, _, _, _, _, _, _, _, _, _, _, _, _, _, _, _, _, _, _, _, rfl, fun h => h.elim (fun e => absurd e (by decide)) h0, fun h => h.elim (fun e => absurd e (by decide)) h1, fun h => h.elim (fun e => absurd e (by decide)) (fun _ => rfl), fun h => h.elim (fun e => absurd e (by decide)) h3, fun h => h.elim (fun e => absurd e (by decide)) (fun _ => rfl), fun h => h.elim (fun e => absurd e (by decide)) h5, fun h => h.elim (fun e => absurd e (by decide)) (fun _ => rfl), fun h => h.elim (fun e => absurd e (by decide)) h7, fun h => h.elim (fun e => absurd e (by decide)) (fun _ => rfl), fun h => h.elim (fun e => absurd e (by decide)) h9, fun h => h.elim (fun e => absurd e (by decide)) (fun _ => rfl), fun h => h.elim (fun e => absurd e (by decide)) h11, fun h => h.elim (fun e => absurd e (by decide)) h12, fun h => h.elim (fun e => absurd e (by decide)) (fun _ => rfl), fun h => h.elim (fun e => absurd e (by decide)) h14, fun h => h.elim (fun e => absurd e (by decide)) h15, fun h => h.elim (fun e => absurd e (by decide)) (fun _ => rfl), fun _ => rfl, fun h => h.elim (fun e => absurd e (by decide)) (fun d => by obtain ⟨q, e, f⟩ := h18 d; exact ⟨q, e, fun y => (f (fun z => y (.inr z))).ext (Ext.refl wq)⟩), fun h => h.elim (fun e => absurd e (by decide)) (fun d => by obtain ⟨A, c, e, f, g⟩ := h19 d; exact ⟨A, c, e, fun y => (f (fun z => y (.inr z))).ext (Ext.refl wq), fun y => (g (y.elim (fun e => absurd e (by decide)) id)).ext (Ext.refl wq)⟩), fun _ => trivial⟩
      · simp only [List.getElem?_toArray, List.getElem?_cons_zero, List.getElem?_cons_succ, Option.some.injEq] at ho
        subst ho
        have b17 : dn 17 := hbf ⟨17, .data⟩ (by simp) rfl
        obtain rfl := h17 b17
        rw [if_pos (by rfl)]
        gi_big_op
        exact hK _ _ ⟨hx.trans (Ext.alloc (Ext.refl wq) _), fun y => (hw (fun z => y (.inr z))).ext (Ext.alloc (Ext.refl wq) _), ⟨fun x => ⟨.inr (hc1 (x.elim (fun e => absurd e (by decide)) id)).1, .inr (hc1 (x.elim (fun e => absurd e (by decide)) id)).2⟩, fun x => .inr (hc2 (x.elim (fun e => absurd e (by decide)) id))⟩, _, _, _, _, _, _, _, _, _, _, _, _, _, _, _, _, _, _, _, _, rfl, fun h => h.elim (fun e => absurd e (by decide)) h0, fun h => h.elim (fun e => absurd e (by decide)) h1, fun h => h.elim (fun e => absurd e (by decide)) h2, fun h => h.elim (fun e => absurd e (by decide)) h3, fun h => h.elim (fun e => absurd e (by decide)) h4, fun h => h.elim (fun e => absurd e (by decide)) h5, fun h => h.elim (fun e => absurd e (by decide)) h6, fun h => h.elim (fun e => absurd e (by decide)) h7, fun h => h.elim (fun e => absurd e (by decide)) h8, fun h => h.elim (fun e => absurd e (by decide)) h9, fun h => h.elim (fun e => absurd e (by decide)) h10, fun h => h.elim (fun e => absurd e (by decide)) h11, fun h => h.elim (fun e => absurd e (by decide)) h12, fun h => h.elim (fun e => absurd e (by decide)) h13, fun h => h.elim (fun e => absurd e (by decide)) h14, fun h => h.elim (fun e => absurd e (by decide)) h15, fun h => h.elim (fun e => absurd e (by decide)) h16, fun h => h.elim (fun e => absurd e (by decide)) (fun _ => rfl), fun _ => ⟨wq.heap.size, rfl, fun _ => lit_sl (enc := Bead.enc) (headB k x g a b) (by simp only [Bead.enc, headB]; rw [HW.out])⟩, fun h => h.elim (fun e => absurd e (by decide)) (fun d => by obtain ⟨A, c, e, f, g⟩ := h19 d; exact ⟨A, c, e, fun y => (f (fun z => y (.inr z))).ext (Ext.alloc (Ext.refl wq) _), fun y => (g (y.elim (fun e => absurd e (by decide)) id)).ext (Ext.alloc (Ext.refl wq) _)⟩), fun _ => trivial⟩
      · simp only [List.getElem?_toArray, List.getElem?_cons_zero, List.getElem?_cons_succ, Option.some.injEq] at ho
        subst ho
        have b0 : dn 0 := hbf ⟨0, .data⟩ (by simp) rfl
        have b15 : dn 15 := hbf ⟨15, .chain⟩ (by simp) rfl
        have b18 : dn 18 := hbf ⟨18, .data⟩ (by simp) rfl
        obtain rfl := h0 b0
        obtain ⟨q, rfl, hq⟩ := h18 b18
        rw [if_pos (by rfl)]
        have lt := hw hni
        refine wpIn_app beadE (.tmp 6) (.tmp 24) rfl rfl rfl lt.o (hq hni) (by have := HM.out; simp only [maxLen, List.length_singleton]; omega) (by have := HM.out; simp only [List.length_singleton]; omega) (by have := lt.p.lt; omega) ?_
        intro v6 w6 o6 a6
        obtain ⟨A6, c6, rfl, hc6, hr6⟩ := o6.sl Bead.enc_len (by omega)
        have md := lt.app o6 a6
        rw [show (l ++ [headB k x g a b]).length = l.length + 1 from by simp] at *
        exact hK _ _ ⟨md.2, fun y => absurd (.inl rfl) y, ⟨fun _ => ⟨.inr b0, .inr b18⟩, fun x => .inr (hc2 (x.elim (fun e => absurd e (by decide)) id))⟩, _, _, _, _, _, _, _, _, _, _, _, _, _, _, _, _, _, _, _, _, rfl, fun h => h.elim (fun e => absurd e (by decide)) (fun _ => rfl), fun h => h.elim (fun e => absurd e (by decide)) h1, fun h => h.elim (fun e => absurd e (by decide)) h2, fun h => h.elim (fun e => absurd e (by decide)) h3, fun h => h.elim (fun e => absurd e (by decide)) h4, fun h => h.elim (fun e => absurd e (by decide)) h5, fun h => h.elim (fun e => absurd e (by decide)) h6, fun h => h.elim (fun e => absurd e (by decide)) h7, fun h => h.elim (fun e => absurd e (by decide)) h8, fun h => h.elim (fun e => absurd e (by decide)) h9, fun h => h.elim (fun e => absurd e (by decide)) h10, fun h => h.elim (fun e => absurd e (by decide)) h11, fun h => h.elim (fun e => absurd e (by decide)) h12, fun h => h.elim (fun e => absurd e (by decide)) h13, fun h => h.elim (fun e => absurd e (by decide)) h14, fun h => h.elim (fun e => absurd e (by decide)) h15, fun h => h.elim (fun e => absurd e (by decide)) h16, fun h => h.elim (fun e => absurd e (by decide)) h17, fun _ => ⟨q, rfl, fun y => absurd (.inl rfl) y⟩, fun _ => ⟨A6, c6, rfl, fun _ => md.1, fun y => absurd (hc2 (y.elim (fun e => absurd e (by decide)) id)) hni⟩, fun _ => trivial⟩
      · simp only [List.getElem?_toArray, List.getElem?_cons_zero, List.getElem?_cons_succ, Option.some.injEq] at ho
        subst ho
        have b0 : dn 0 := hbf ⟨0, .phase⟩ (by simp) rfl
        have b1 : dn 1 := hbf ⟨1, .phase⟩ (by simp) rfl
        have b2 : dn 2 := hbf ⟨2, .phase⟩ (by simp) rfl
        have b3 : dn 3 := hbf ⟨3, .phase⟩ (by simp) rfl
        have b4 : dn 4 := hbf ⟨4, .phase⟩ (by simp) rfl
        have b5 : dn 5 := hbf ⟨5, .phase⟩ (by simp) rfl
        have b6 : dn 6 := hbf ⟨6, .phase⟩ (by simp) rfl
        have b7 : dn 7 := hbf ⟨7, .phase⟩ (by simp) rfl
        have b8 : dn 8 := hbf ⟨8, .phase⟩ (by simp) rfl
        have b9 : dn 9 := hbf ⟨9, .phase⟩ (by simp) rfl
        have b10 : dn 10 := hbf ⟨10, .phase⟩ (by simp) rfl
        have b11 : dn 11 := hbf ⟨11, .phase⟩ (by simp) rfl
        have b12 : dn 12 := hbf ⟨12, .phase⟩ (by simp) rfl
        have b13 : dn 13 := hbf ⟨13, .phase⟩ (by simp) rfl
        have b14 : dn 14 := hbf ⟨14, .phase⟩ (by simp) rfl
        have b15 : dn 15 := hbf ⟨15, .phase⟩ (by simp) rfl
        have b16 : dn 16 := hbf ⟨16, .phase⟩ (by simp) rfl
        have b17 : dn 17 := hbf ⟨17, .phase⟩ (by simp) rfl
        have b18 : dn 18 := hbf ⟨18, .phase⟩ (by simp) rfl
        have b19 : dn 19 := hbf ⟨19, .data⟩ (by simp) rfl
        obtain ⟨A6, c6, rfl, hm6, hz6⟩ := h19 b19
        rw [if_pos (by rfl)]
        obtain ⟨cX, fX, lt⟩ := hm6 hni
        gi_big_op
        exact hK _ _ ⟨lt.x, fun y => absurd (.inr b19) y, ⟨fun x => ⟨.inr (hc1 (x.elim (fun e => absurd e (by decide)) id)).1, .inr (hc1 (x.elim (fun e => absurd e (by decide)) id)).2⟩, fun _ => .inr b19⟩, _, _, _, _, _, _, _, _, _, _, _, _, _, _, _, _, _, _, _, _, rfl, fun h => h.elim (fun e => absurd e (by decide)) h0, fun h => h.elim (fun e => absurd e (by decide)) h1, fun h => h.elim (fun e => absurd e (by decide)) h2, fun h => h.elim (fun e => absurd e (by decide)) h3, fun h => h.elim (fun e => absurd e (by decide)) h4, fun h => h.elim (fun e => absurd e (by decide)) h5, fun h => h.elim (fun e => absurd e (by decide)) h6, fun h => h.elim (fun e => absurd e (by decide)) h7, fun h => h.elim (fun e => absurd e (by decide)) h8, fun h => h.elim (fun e => absurd e (by decide)) h9, fun h => h.elim (fun e => absurd e (by decide)) h10, fun h => h.elim (fun e => absurd e (by decide)) h11, fun h => h.elim (fun e => absurd e (by decide)) h12, fun h => h.elim (fun e => absurd e (by decide)) h13, fun h => h.elim (fun e => absurd e (by decide)) h14, fun h => h.elim (fun e => absurd e (by decide)) h15, fun h => h.elim (fun e => absurd e (by decide)) h16, fun h => h.elim (fun e => absurd e (by decide)) h17, fun h => h.elim (fun e => absurd e (by decide)) (fun d => by obtain ⟨q, e, f⟩ := h18 d; exact ⟨q, e, fun y => absurd (.inr b19) y⟩), fun _ => ⟨A6, c6, rfl, fun y => absurd (.inl rfl) y, fun _ => lt⟩, fun _ => trivial⟩
      · simp at ho
    case fin =>
      rintro dn aq wq ⟨hx, hw, _, u6, u7, u8, u9, u10, u11, u12, u13, u14, u15, u16, u17, u18, u19, u20, u21, u22, u23, u24, u25, rfl, h0, h1, h2, h3, h4, h5, h6, h7, h8, h9, h10, h11, h12, h13, h14, h15, h16, h17, h18, h19, h20⟩ hall
      obtain rfl := h0 (hall 0 (by decide))
      obtain rfl := h1 (hall 1 (by decide))
      obtain rfl := h2 (hall 2 (by decide))
      obtain rfl := h3 (hall 3 (by decide))
      obtain rfl := h4 (hall 4 (by decide))
      obtain rfl := h5 (hall 5 (by decide))
      obtain rfl := h6 (hall 6 (by decide))
      obtain rfl := h7 (hall 7 (by decide))
      obtain rfl := h8 (hall 8 (by decide))
      obtain rfl := h9 (hall 9 (by decide))
      obtain rfl := h10 (hall 10 (by decide))
      obtain rfl := h11 (hall 11 (by decide))
      obtain rfl := h12 (hall 12 (by decide))
      obtain rfl := h13 (hall 13 (by decide))
      obtain rfl := h14 (hall 14 (by decide))
      obtain rfl := h15 (hall 15 (by decide))
      obtain rfl := h16 (hall 16 (by decide))
      obtain rfl := h17 (hall 17 (by decide))
      obtain ⟨q, rfl, _⟩ := h18 (hall 18 (by decide))
      obtain ⟨A6, c6, rfl, _, hz6⟩ := h19 (hall 19 (by decide))
      have s6 := hz6 (hall 20 (by decide))
      clear hall hw h20
    --E1
      have hh : headB k x g a b = headB k x g a b := rfl
      have c6p : wq.cell? ⟨w0.heap.size + 1, 0, none⟩ = some (.func (.func 28) #[] #[.pointer (some ⟨w0.heap.size, 0, none⟩), .pointer (some ⟨w0.heap.size + 1, 0, none⟩)]) := s6.p.cell 0
      have S6 := Lib.hid s6
      clear s6 hx hfz hc hh hz6
      go_wp2_with fail
      go_region_held3 (fun w' => w'.cell? ⟨w0.heap.size + 1, 0, none⟩ = some (.func (.func 28) #[] #[.pointer (some ⟨w0.heap.size, 0, none⟩), .pointer (some ⟨w0.heap.size + 1, 0, none⟩)])) (go_keep)
        (first
          | (go_at_call 33; refine (left_at (by first | exact hat.ext S6.out.drew.x | exact hat.ext S6.out.x)).mono ?_; rintro e w' ⟨rfl, rfl⟩)
          | (go_at_call 28; refine (iha ta (by first | exact S6.out.drew | exact S6.out) (by have := HM.out; simp; omega)).mono ?_; rintro e w7 ⟨v7, rfl, s7⟩; have c7p : w7.cell? ⟨w0.heap.size + 1, 0, none⟩ = some (.func (.func 28) #[] #[.pointer (some ⟨w0.heap.size, 0, none⟩), .pointer (some ⟨w0.heap.size + 1, 0, none⟩)]) := s7.p.cell 0; have S7 := Lib.hid s7; clear s7))
      go_wp2_with fail
      go_region_held3 (fun w' => w'.cell? ⟨w0.heap.size + 1, 0, none⟩ = some (.func (.func 28) #[] #[.pointer (some ⟨w0.heap.size, 0, none⟩), .pointer (some ⟨w0.heap.size + 1, 0, none⟩)])) (go_keep)
        (first
          | (go_at_call 34; refine (right_at (by first | exact hat.ext S7.out.drew.x | exact hat.ext S7.out.x)).mono ?_; rintro e w' ⟨rfl, rfl⟩)
          | (go_at_call 28; refine (ihb tb (by first | exact S7.out.drew | exact S7.out) (by have := HM.out; simp [bOf_length]; omega)).mono ?_; rintro e w8 ⟨v8, rfl, s8⟩; have c8p : w8.cell? ⟨w0.heap.size + 1, 0, none⟩ = some (.func (.func 28) #[] #[.pointer (some ⟨w0.heap.size, 0, none⟩), .pointer (some ⟨w0.heap.size + 1, 0, none⟩)]) := s8.p.cell 0; have S8 := Lib.hid s8; clear s8))
      go_wp2_with fail
      go_end0
      refine ⟨v8, rfl, ?_⟩
      have := S8.out
      rwa [bOf_node, show l ++ headB k x g a b :: (bOf a ++ bOf b) = l ++ [headB k x g a b] ++ bOf a ++ bOf b from by simp]
end Go.Proofs.YtgpegcjgmoiglaaDoor
