/- A RANGE OVER A FUNCTION WHOSE BODY IS EMPTY: each round leaves the world as it was. And how a function with many such marks leaves. No program in sight. -/
import Derived.RangeFuncKeeps
import Derived.RangeFuncLeaves
import Derived.RangeFuncBound
namespace Go.Proofs.Ytlehcagpddgamaa
open Go Go.RowKit

theorem putObj_twice (W : World) (l : Nat) (a b : Obj) (h : W.heap[l]? = some b) : (W.putObj l a).putObj l b = W := by
  have hlt : l < W.heap.size := (Array.getElem?_eq_some_iff.1 h).1
  have e : (W.heap.setIfInBounds l a).setIfInBounds l b = W.heap := by
    apply Array.ext_getElem?
    intro i
    by_cases q : l = i
    · subst q; rw [h]; simp [hlt]
    · simp [q]
  unfold World.putObj
  simp only [e]
theorem room_none {F : Fence} (hd : F.depth = none) (k : Nat) : F.room k := fun d h => by rw [hd] at h; cases h

variable {F : Fence} {n : Nat} {P : Program}
theorem wpIn_rangeFunc_idle {g : Operand} {ps : Array Tmp} {assign body : Code} {Q : Exit → Act → World → Prop} {a : Act} {w : World}
    (hro : F.round = none) (h1 : 1 ≤ n) {gf : Nat} {lb : Array Value} (hg : a.eval g = .func (.func gf) #[] lb) (hFg : F.fn gf) (eg : ∀ args w, (callFunc gf args).run P w = .ok (.enter gf args) w)
    (a₁ : Array Value → Act)
    (hassign : ∀ (l m : Nat) (x : Array Value) (W : World) (K : Act → World → Prop), x.size = ps.size → K (a₁ x) W →
      assign.wpIn (F.inRound l) m P (Exit.then K (fun _ _ _ => False)) { tmps := (ps.zip x).foldl (fun t (p, v) => t.setIfInBounds p v) a.tmps, defers := [] } W)
    (hbody : ∀ (l m : Nat) (x : Array Value) (W : World), body.wpIn (F.inRound l) m P (fun e _ W' => e = .normal ∧ W' = W) (a₁ x) W)
    (R : World → Prop)
    (hseq : ∀ (l : Nat) (W : World), l = w.heap.size + 1 → Below w.heap.size w W → W.heap.size = w.heap.size + 2 →
      (∀ (m : Nat) (x : Array Value) (W2 : World), x.size = ps.size → W2.heap[l]? = W.heap[l]? → YieldAt F m P l x W2 fun e W3 => e = .returned (.bool true) ∧ W3 = W2) →
      CallsIn F (n - 1) P gf (#[.func (.yield l) #[] #[]] ++ lb) W fun e W' => (∃ v, e = .returned v) ∧ R W' ∧ W'.heap[l]? = W.heap[l]? ∧ W'.heap[w.heap.size]? = W.heap[w.heap.size]?)
    (hdone : ∀ (W : World) (o : Obj), R W → w.heap.size + 1 < W.heap.size → (W.putObj (w.heap.size + 1) o).heap[w.heap.size]? = some (.deferred (some [])) →
      Q .normal { a with defers := { target := .collected w.heap.size, args := #[] } :: a.defers } (W.putObj (w.heap.size + 1) o)) :
    (Code.rangeFunc g ps assign body).wpIn F n P Q a w := by
  refine wpIn_rangeFunc ?_
  intro fn hfn
  rw [hro]
  obtain ⟨rec, hrec⟩ : ∃ rec : LoopState → Option Code → Loop, rec = fun st pe => { state := st, pending := pe, fn, tmps := a.tmps, params := ps, assign, body, defers := w.heap.size } := ⟨_, rfl⟩
  obtain ⟨W1, hW1⟩ : ∃ W1, (w.alloc (.deferred (some []))).alloc (.loop (rec .ready none)) = W1 := ⟨_, rfl⟩
  have hL1 : W1.heap[w.heap.size + 1]? = some (.loop (rec .ready none)) := by
    rw [← hW1]; have := World.alloc_heap_new (w.alloc (.deferred (some []))) (.loop (rec .ready none)); rwa [World.size_alloc] at this
  have hK1 : W1.heap[w.heap.size]? = some (.deferred (some [])) := by
    rw [← hW1]; exact (Below.heap_alloc _ _ _ (by simp)).trans (World.alloc_heap_new w _)
  have hb1 : Below w.heap.size w W1 := by
    rw [← hW1]; exact ((Below.refl _ w).alloc (Nat.le_refl _) _).alloc (by simp) _
  have hs1 : W1.heap.size = w.heap.size + 2 := by rw [← hW1]; simp
  refine ⟨w.heap.size + 1, [{ target := .collected w.heap.size, args := #[] }], W1, { target := .fn (.func gf) lb, args := #[.func (.yield (w.heap.size + 1)) #[] #[]] }, W1, gf,
    #[.func (.yield (w.heap.size + 1)) #[] #[]] ++ lb, W1, ?_, ?_, ?_, ?_, fun _ => h1, ?_⟩
  · rw [← hW1, hrec]; exact run_enterLoop_outer _ _ _ _ _
  · simp only [resolve, hg]
    simp [go_sem]
  · intro f' hf'; simp [Target.leads] at hf'; subst hf'; exact hFg
  · simp [invoke, go_sem, eg]
  · refine (hseq (w.heap.size + 1) W1 rfl hb1 hs1 ?_).mono ?_
    · -- ONE ROUND
      intro m x W hx hl
      rw [hL1] at hl
      have hlt : w.heap.size + 1 < W.heap.size := (Array.getElem?_eq_some_iff.1 hl).1
      have hy := run_yield (P := P) (args := x) hl (by rw [hrec]; exact hx)
      rw [hrec] at hy
      refine ⟨fn, _, assign, body, hy, roundIn_of_wpIn hfn (hassign _ m x W _ hx ⟨_, run_beginRound hl (by rw [hrec]), ?_⟩)⟩
      have hl2 : (W.putObj (w.heap.size + 1) (.loop { rec .ready none with state := .busy })).heap[w.heap.size + 1]? = some (.loop { rec .ready none with state := .busy }) := World.putObj_heap_same hlt
      refine wpIn_mono (hbody _ m x _) ?_
      rintro e a3 W3 ⟨rfl, rfl⟩
      have := run_endRound (P := P) none hl2
      refine ⟨_, _, this, rfl, ?_⟩
      rw [hrec] at hl ⊢
      exact putObj_twice W _ _ _ hl
    · -- BEHIND THE ITERATOR
      rintro e W2 ⟨⟨v, rfl⟩, hR, hl, hk⟩
      rw [hL1] at hl
      rw [hK1] at hk
      have hlt : w.heap.size + 1 < W2.heap.size := (Array.getElem?_eq_some_iff.1 hl).1
      exact ⟨none, _, by have := run_endLoop (P := P) hl (by rw [hrec]; simp); rw [hrec] at this; exact this, hdone _ _ hR hlt ((World.putObj_heap_other (by omega)).trans hk)⟩
/-- The same, where the rounds' values go nowhere. -/
theorem wpIn_rangeFunc_idle0 {g : Operand} {ps : Array Tmp} {body : Code} {Q : Exit → Act → World → Prop} {a : Act} {w : World}
    (hro : F.round = none) (h1 : 1 ≤ n) {gf : Nat} {lb : Array Value} (hg : a.eval g = .func (.func gf) #[] lb) (hFg : F.fn gf) (eg : ∀ args w, (callFunc gf args).run P w = .ok (.enter gf args) w)
    (hbody : ∀ (l m : Nat) (a : Act) (W : World), body.wpIn (F.inRound l) m P (fun e _ W' => e = .normal ∧ W' = W) a W)
    (R : World → Prop)
    (hseq : ∀ (l : Nat) (W : World), l = w.heap.size + 1 → Below w.heap.size w W → W.heap.size = w.heap.size + 2 →
      (∀ (m : Nat) (x : Array Value) (W2 : World), x.size = ps.size → W2.heap[l]? = W.heap[l]? → YieldAt F m P l x W2 fun e W3 => e = .returned (.bool true) ∧ W3 = W2) →
      CallsIn F (n - 1) P gf (#[.func (.yield l) #[] #[]] ++ lb) W fun e W' => (∃ v, e = .returned v) ∧ R W' ∧ W'.heap[l]? = W.heap[l]? ∧ W'.heap[w.heap.size]? = W.heap[w.heap.size]?)
    (hdone : ∀ (W : World) (o : Obj), R W → w.heap.size + 1 < W.heap.size → (W.putObj (w.heap.size + 1) o).heap[w.heap.size]? = some (.deferred (some [])) →
      Q .normal { a with defers := { target := .collected w.heap.size, args := #[] } :: a.defers } (W.putObj (w.heap.size + 1) o)) :
    (Code.rangeFunc g ps .skip body).wpIn F n P Q a w :=
  wpIn_rangeFunc_idle hro h1 hg hFg eg (fun x => { tmps := (ps.zip x).foldl (fun t (p, v) => t.setIfInBounds p v) a.tmps, defers := [] })
    (fun _ _ _ _ _ _ hK => wpIn_skip hK) (fun l m _ W => hbody l m _ W) R hseq hdone
/-- The mark of a range over a function that is done. -/
def mark (r : Nat) : Deferred := { target := .collected r, args := #[] }
/-- The blocks of the marks. -/
def Marked (W : World) (rs : List Nat) : Prop := rs.Nodup ∧ ∀ r ∈ rs, W.heap[r]? = some (.deferred (some []))
theorem Marked.nil (W : World) : Marked W [] := ⟨List.nodup_nil, fun _ h => by simp at h⟩
theorem leaves_marks {fn : Func} {tmps : Array Value} {R : Ending → World → Prop} {n₀ : Nat} : ∀ (rs : List Nat) (W : World), Marked W rs → (∀ r ∈ rs, n₀ ≤ r) →
    (∀ W' : World, Below n₀ W W' → W'.heap.size = W.heap.size → (∀ b, b ∉ rs → W'.heap[b]? = W.heap[b]?) → ∃ v, (results fn tmps).run P W' = .ok v W' ∧ R (.returned v) W') →
    LeavesInM F n P fn tmps R (rs.map mark) .returning W
  | [], W, _, _, h => h W (Below.refl _ _) rfl fun _ _ => rfl
  | r :: rs, W, hm, hn, h => by
    have hr := hm.2 r (by simp)
    have hnd := List.nodup_cons.1 hm.1
    have hlt : r < W.heap.size := (Array.getElem?_eq_some_iff.1 hr).1
    refine ⟨by simp, .inl ⟨r, _, rfl, run_takeDeferred hr, ?_⟩⟩
    refine leaves_marks rs _ ⟨hnd.2, fun q hq => ?_⟩ (fun q hq => hn q (by simp [hq])) fun W' hb hs ho => ?_
    · rw [World.putObj_heap_other (by rintro rfl; exact hnd.1 hq)]
      exact hm.2 q (by simp [hq])
    · refine h W' (Below.trans ((Below.refl n₀ W).grown (grownBy_putObj' W r _) (by have := hn r (by simp); omega) (fun k e => by cases e; exact hn r (by simp))) hb) (by rw [hs]; simp [World.putObj]) fun b hb' => ?_
      have hne : b ≠ r := fun e => hb' (by simp [e])
      rw [ho b (fun q => hb' (by simp [q])), World.putObj_heap_other hne]
end Go.Proofs.Ytlehcagpddgamaa
