/- A REGION THAT DRAWS ITS ORDER, BY A CHART: what is known of the slots, by what has been done. It serves in a round of a range over a function, too. No program in sight. -/
import Derived.OrdersIn
import Derived.BigRegionIn
namespace Go.Proofs.YtgpegcjgmoiglaaDoor

section
variable {F : Fence} {n : Nat} {P : Program} {ops : Array Oper} {Q : Exit → Act → World → Prop}
def Has (L : Array Bool) (i : Nat) : Prop := L.getD i false = true
theorem has_set {L : Array Bool} {i : Nat} (hi : i < L.size) : Has (L.setIfInBounds i true) = fun j => j = i ∨ Has L j := by
  funext j
  unfold Has
  by_cases h : j = i
  · subst h
    simp [hi]
  · have h' : ¬ i = j := fun e => h e.symm
    simp [h, h', ← Array.getElem?_toList, Array.getD_eq_getD_getElem?]
def todo (L : Array Bool) : Nat := L.toList.countP (fun b => !b)
theorem todo_set {L : Array Bool} {i : Nat} (hi : L.getD i true = false) : todo (L.setIfInBounds i true) + 1 = todo L := by
  obtain ⟨L⟩ := L
  simp only [todo, List.setIfInBounds_toArray]
  induction L generalizing i with
  | nil => simp at hi
  | cons b L ih =>
    cases i with
    | zero => simp at hi; subst hi; simp
    | succ i =>
      have := ih (i := i) (by simpa using hi)
      simp only [List.set_cons_succ, List.countP_cons]
      omega
theorem not_has {L : Array Bool} {i : Nat} (h : L.getD i true = false) : ¬ Has L i ∧ i < L.size := by
  unfold Has
  rw [Array.getD_eq_getD_getElem?] at *
  cases hi : L[i]? with
  | none => simp [hi] at h
  | some b =>
    rw [hi] at h
    simp at h
    subst h
    exact ⟨by simp, (Array.getElem?_eq_some_iff.1 hi).1⟩

theorem chart (S : (Nat → Prop) → Act → World → Prop) (hlex : ∀ (i : Nat) (o : Oper), ops[i]? = some o → ∀ e ∈ o.after, e.on < i)
    (hstep : ∀ (D : Nat → Prop) (a : Act) (w : World) (i : Nat) (o : Oper), S D a w → ops[i]? = some o → ¬ D i → (∀ e ∈ o.after, Region.binds .any e = true → D e.on) → ∀ K : Act → World → Prop, (∀ a' w', S (fun j => j = i ∨ D j) a' w' → K a' w') →
      if Region.wanted o (yielded ops a.tmps) = true then o.wpIn F n P a w K Q else (∀ f, o.about P w a.eval = some f → F.fn f) ∧ K (a.put o.dst undef) w)
    (hdone : ∀ D a w, S D a w → (∀ i, i < ops.size → D i) → Q .normal a w) :
    ∀ (fuel : Nat) (L : Array Bool) (a : Act) (w : World), L.size = ops.size → todo L ≤ fuel → S (Has L) a w → wpAnyIn F n P .any ops Q fuel L a w := by
  have hall : ∀ (L : Array Bool), L.size = ops.size → Region.ready .any ops L = [] → ∀ i, i < ops.size → Has L i := by
    intro L hL hr i
    induction i using Nat.strongRecOn with
    | ind i ih =>
      intro hi
      refine Classical.byContradiction fun hn => ?_
      have hm : i ∈ Region.ready .any ops L := by
        rw [mem_ready]
        refine ⟨?_, ops[i], Array.getElem?_eq_getElem hi, fun e he _ => ih e.on (hlex i _ (Array.getElem?_eq_getElem hi) e he) (Nat.lt_trans (hlex i _ (Array.getElem?_eq_getElem hi) e he) hi)⟩
        unfold Has at hn
        rw [Array.getD_eq_getD_getElem?] at hn ⊢
        have hi' : i < L.size := hL ▸ hi
        simpa [hi'] using hn
      rw [hr] at hm
      cases hm
  intro fuel
  induction fuel with
  | zero =>
    intro L a w hL ht hS
    have hr : Region.ready .any ops L = [] := by
      refine List.eq_nil_iff_forall_not_mem.2 fun i hi => ?_
      have := todo_set (mem_ready.1 hi).1
      omega
    exact ⟨hr, hdone _ a w hS (hall L hL hr)⟩
  | succ fuel ih =>
    intro L a w hL ht hS
    refine ⟨fun hr => hdone _ a w hS (hall L hL hr), fun i hi => ?_⟩
    obtain ⟨h1, o, ho, h2⟩ := mem_ready.1 hi
    obtain ⟨h3, h4⟩ := not_has h1
    have h5 := todo_set h1
    refine wpOpIn_step ho fun K' hK => hstep _ a w i o hS ho h3 h2 K' fun a' w' hS' => hK a' w' (ih _ a' w' (by simpa using hL) (by omega) ?_)
    rw [has_set h4]
    exact hS'

/-- A region by a chart. -/
theorem wpIn_chart {id : Nat} {a : Act} {w : World} (hm : P.follows .mixedOrders = true) (S : (Nat → Prop) → Act → World → Prop) (h0 : S (fun _ => False) a w.drew) (hlex : ∀ (i : Nat) (o : Oper), ops[i]? = some o → ∀ e ∈ o.after, e.on < i)
    (hstep : ∀ (D : Nat → Prop) (a : Act) (w : World) (i : Nat) (o : Oper), S D a w → ops[i]? = some o → ¬ D i → (∀ e ∈ o.after, Region.binds .any e = true → D e.on) → ∀ K : Act → World → Prop, (∀ a' w', S (fun j => j = i ∨ D j) a' w' → K a' w') →
      if Region.wanted o (yielded ops a.tmps) = true then o.wpIn F n P a w K Q else (∀ f, o.about P w a.eval = some f → F.fn f) ∧ K (a.put o.dst undef) w)
    (hdone : ∀ D a w, S D a w → (∀ i, i < ops.size → D i) → Q .normal a w) : (Code.region id ops true).wpIn F n P Q a w := by
  refine wpIn_region_any hm (chart S hlex hstep hdone _ _ _ _ (by simp) ?_ ?_)
  · simp [todo, List.countP_replicate]
  · have : Has (Array.replicate ops.size false) = fun _ => False := by
      funext i
      unfold Has
      rw [Array.getD_eq_getD_getElem?]
      by_cases h : i < ops.size <;> simp [h]
    rw [this]
    exact h0
end
end Go.Proofs.YtgpegcjgmoiglaaDoor
