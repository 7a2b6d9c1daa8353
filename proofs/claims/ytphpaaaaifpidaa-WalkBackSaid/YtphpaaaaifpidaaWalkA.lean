/- Package walk: kept, to, down. -/
import Derived.Test.YtphpaaaaifpidaaWalkMem
import Derived.Deep.RegionHeld3
namespace Go.Proofs.Ytphpaaaaifpidaa
open Go.RowKit
set_option linter.unusedVariables false

theorem grown_setRow {w : World} {g : Nat} {cs : Array Value} : w.grownBy (w.setRow g cs) (some g) :=
  ⟨rfl, rfl, rfl, by simp [World.setRow], fun k hk hn => setRow_other w g k cs (fun e => hn (by rw [e]))⟩
section
variable {α : Type} {P : Program} {t e : TypeId} {sz bytes : Nat} {enc : α → List Value} (E : Elem P t e sz bytes enc)
include E
/-- 'copy' into a row of the call's own, of just as many elements. -/
theorem run_copyE (ty : TypeId) {w : World} {base g : Nat} {u : Value} {l m : List α} {xs : List Value} (hv : w.ownsRow base e sz (.slice (some ⟨g, 0, none⟩) l.length l.length) l.length xs) (hu : Sl enc w u l) :
    ∃ w', (Builtin.copy_ #[t, t] ty #[.slice (some ⟨g, 0, none⟩) l.length l.length, u]).run P w = .ok (goInt l.length) w' ∧ Own enc e sz base w' (.slice (some ⟨g, 0, none⟩) l.length l.length) l ∧ w.grownBy w' (some g) := by
  obtain ⟨i, z, hi, hz, hs, hby, hzs⟩ := E.info
  obtain ⟨A, c, rfl, hc, hr⟩ := hu
  have hfl : (flat enc l).length = l.length * sz := flat_length E.len l
  rcases hv.2 with ⟨h2, _⟩ | ⟨g', cap, cur, hg', hbg, hg, hnc, hcm, hcs, htake⟩
  · cases h2
  · injection hg' with e1 e2 e3
    injection e1 with e1
    injection e1 with e1
    subst e1 e3
    by_cases h0 : l = []
    · subst h0
      refine ⟨w, ?_, ?_, World.grownBy.refl w _⟩
      · have hl0 := fun ad : Addr => run_loadCells_list (P := P) (w := w) ad [] (fun j v hj => by simp at hj)
        cases A with
        | none => simp [Builtin.copy_, run_underlying E.ht, Builtin.lenOf, Builtin.firstCells, sizeOf, typeInfo, hi, storeCells]
        | some ad =>
          have := hl0 ad
          simp at this
          simp [Builtin.copy_, run_underlying E.ht, Builtin.lenOf, Builtin.firstCells, sizeOf, typeInfo, hi, this, storeCells]
      · refine ⟨by simp [flat], .inr ⟨g, _, cur, rfl, hbg, hg, hnc, hcm, hcs, by simp [flat]⟩⟩
    · obtain ⟨b, off, rfl, hb, hcell⟩ := hr h0
      have hl := run_loadCells_list (P := P) (w := w) (⟨b, off, none⟩ : Addr) (flat enc l) (fun j v hj => by
        have := hcell j v hj
        by_cases h0 : j = 0
        · subst h0; simpa [Addr.add] using this
        · simpa [Addr.add, h0] using this)
      have hst := run_storeCells_at P g 0 e (flat enc l) 0 cur w hg (by rw [hfl, hcs]; omega) (flat_one E l)
      have hfull : (cur.toList.take 0 ++ flat enc l ++ cur.toList.drop (0 + 0 + (flat enc l).length)).toArray = (flat enc l).toArray := by
        congr 1
        rw [List.take_zero, List.nil_append, List.drop_eq_nil_of_le (by rw [hfl, Array.length_toList, hcs]; omega), List.append_nil]
      rw [hfull] at hst
      refine ⟨w.setRow g (flat enc l).toArray, ?_, ⟨hfl, .inr ⟨g, _, _, rfl, hbg, setRow_heap w g cur _ e _ hg, hnc, hcm, by simp [hfl], ?_⟩⟩, grown_setRow⟩
      · rw [hfl] at hl
        simp [Builtin.copy_, run_underlying E.ht, Builtin.lenOf, Builtin.firstCells, sizeOf, typeInfo, hi, hs, hl, hst]
      · rw [List.take_of_length_le (by simp [hfl])]
theorem wpList_copyE {ops : Array Oper} {rest : List Oper} {o : Oper} {a : Act} {Q : Exit → Act → World → Prop} (hgd : o.guard = none) (d s : Operand)
    (ho : o.op = .call { callee := .builtin .copy, args := #[d, s], argTypes := #[t, t] })
    {w : World} {base g : Nat} {u : Value} {l : List α} {xs : List Value} (hd : a.eval d = .slice (some ⟨g, 0, none⟩) l.length l.length) (hs : a.eval s = u)
    (hv : w.ownsRow base e sz (.slice (some ⟨g, 0, none⟩) l.length l.length) l.length xs) (hu : Sl enc w u l)
    (h : ∀ w', Own enc e sz base w' (.slice (some ⟨g, 0, none⟩) l.length l.length) l → w.grownBy w' (some g) → wpList P ops Q rest (a.put o.dst (goInt l.length)) w') : wpList P ops Q (o :: rest) a w := by
  obtain ⟨w', hrun, h2, h3⟩ := run_copyE E (m := l) o.type hv hu
  refine wpList_plain hgd fun K hK => ?_
  unfold Oper.wp execOp
  simp only [ho, resolve, invoke, builtin, Sem.run_bind, Sem.run_pure, Result.andThen_ok, List.map_toArray, List.map_cons, List.map_nil, hd, hs, hrun]
  exact hK _ _ (h w' h2 h3)
end

set_option maxRecDepth 100000 in
set_option maxHeartbeats 1000000 in
/-- A way of its own. -/
theorem kept_any {s : List (A × Bool)} {v : Value} {w : World} (h : Sl ES w v s) (hl : s.length ≤ 1000000) :
    Calls Try.prog 62 #[v] w fun e w' => ∃ v', e = .returned v' ∧ Ext w w' ∧ Own ES 93 2 w.heap.size w' v' s := by
  have hs := h
  obtain ⟨A, c, rfl, hc, hr⟩ := h
  obtain ⟨i0, z, hi, hz0, hz1, hz2, hzs⟩ := stopE.info
  have hb2 : i0.bytes * s.length ≤ 281474976710656 := by rw [hz2]; omega
  have hb3 : s.length ≤ maxLen := by simp [maxLen]; omega
  have HB := Lib.hid (And.intro hb2 hb3)
  have HS := Lib.hid hs
  clear hb2 hb3 hs hr hc hl
  go_enter Try.func62, Try.ntmps62
  go_wp2_with (first
    | (refine wpList_make_full w rfl (.tmp 5) (.tmp 5) 87 rfl w.heap.size 93 i0 z 2 stopE.ht hi hz0 hz1 .i64 .i64 _ _ s.length rfl rfl rfl rfl HB.out.1 HB.out.2 (Nat.le_refl _) ?_; intro w1 o1 g1; have x1 : Ext w w1 := (Ext.refl w).grown g1 (fun k hk => by cases hk))
    | fail)
  obtain ⟨w2, hrun, o2, g2⟩ := run_copyE stopE (m := s) 3 o1 (HS.out.ext x1)
  have x2 : Ext w w2 := x1.grown g2 (fun k hk => by cases hk; exact Nat.le_refl _)
  rw [hrun]
  go_wp2_with fail
  go_ret
  exact ⟨_, rfl, x2, o2⟩

theorem kept_sl {s : List (A × Bool)} {v : Value} {w : World} (h : Sl ES w v s) (hl : s.length ≤ 1000000) :
    Calls Try.prog 62 #[v] w fun e w' => ∃ A c, e = .returned (.slice A s.length c) ∧ Ext w w' ∧ Own ES 93 2 w.heap.size w' (.slice A s.length c) s := by
  refine (kept_any h hl).mono ?_
  rintro e w' ⟨v', rfl, x, o⟩
  obtain ⟨A, c, rfl, _, _⟩ := o.sl ES_len (by omega)
  exact ⟨A, c, rfl, x, o⟩
theorem to_field (v : Value) : ∀ w : World, (Instr.field 97 (.agg #[v]) 0).run Try.prog w = .ok v w := fun _ => by kernel_rfl
/-- Which way to a side. -/
def sideF (d : Bool) : Nat := if d then 43 else 42
theorem side_call (d : Bool) : ∀ (args : Array Value) (w : World), (callFunc (sideF d) args).run Try.prog w = .ok (.enter (sideF d) args) w := by
  intro args w
  cases d with
  | true => exact (show (callFunc 43 args).run Try.prog w = .ok (.enter 43 args) w by kernel_rfl)
  | false => exact (show (callFunc 42 args).run Try.prog w = .ok (.enter 42 args) w by kernel_rfl)
set_option maxHeartbeats 1000000 in
theorem to_any (d : Bool) (w : World) : Calls Try.prog 63 #[.bool d] w fun e w' => e = .returned (.agg #[.func (.func (sideF d)) #[] #[]]) ∧ Ext w w' := by
  cases d with
  | true =>
    go_enter Try.func63, Try.ntmps63
    go_wp2_with fail
    exact bodyPost_ret (v := .agg #[.func (.func (sideF true)) #[] #[]]) (by simp [results, Try.results63, go_sem, sideF]) rfl ⟨rfl, (Ext.refl _).alloc _⟩
  | false =>
    go_enter Try.func63, Try.ntmps63
    go_wp2_with fail
    exact bodyPost_ret (v := .agg #[.func (.func (sideF false)) #[] #[]]) (by simp [results, Try.results63, go_sem, sideF]) rfl ⟨rfl, (Ext.refl _).alloc _⟩
theorem right_any {P : Nat → Prop} {a : A} {w : World} (h : AP P w a) : Calls Try.prog 43 #[.pointer a.ptr] w fun e w' => e = .returned (.pointer (a.side true).ptr) ∧ w = w' := by
  cases a with
  | nil => exact right_nil w
  | node b k x g l r => exact right_at h.2.1
theorem left_any {P : Nat → Prop} {a : A} {w : World} (h : AP P w a) : Calls Try.prog 42 #[.pointer a.ptr] w fun e w' => e = .returned (.pointer (a.side false).ptr) ∧ w = w' := by
  cases a with
  | nil => exact left_nil w
  | node b k x g l r => exact left_at h.2.1
theorem side_any {P : Nat → Prop} {a : A} {w : World} (h : AP P w a) (d : Bool) : Calls Try.prog (sideF d) #[.pointer a.ptr] w fun e w' => e = .returned (.pointer (a.side d).ptr) ∧ w = w' := by
  cases d with
  | true => exact right_any h
  | false => exact left_any h
end Go.Proofs.Ytphpaaaaifpidaa
