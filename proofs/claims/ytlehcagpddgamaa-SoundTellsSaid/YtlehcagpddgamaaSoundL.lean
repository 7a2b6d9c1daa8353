/- THE PLAIN LAW of soundness: which trees are sound, and which stand ahead of others. -/
import Derived.Test.YtlehcagpddgamaaSoundB
namespace Go.Proofs.Ytlehcagpddgamaa

/-- The keys of a tree, from left to right. -/
def T.keys : T → List Int
  | .nil => []
  | .node k _ _ l r => l.keys ++ k :: r.keys
/-- Keys that rise. -/
def Rise (o : Nat) (l : List Int) : Prop := l.Pairwise fun a b => codeK o a < codeK o b
instance (o : Nat) (l : List Int) : Decidable (Rise o l) := by unfold Rise; infer_instance
theorem cmpK_lt {o : Nat} {a b : Int} : cmpK o a b < 0 ↔ codeK o a < codeK o b := by
  unfold cmpK cmpI
  split
  · simp [*]
  · split <;> simp [*]
theorem cmpK_gt {o : Nat} {a b : Int} : 0 < cmpK o a b ↔ codeK o b < codeK o a := by
  unfold cmpK cmpI
  split
  · constructor <;> intro h <;> omega
  · split <;> simp [*]
theorem seq_ok (o : Nat) : ∀ (t : T) (B : List (Int × Bool)), (∀ x ∈ seqW o t B, x = false) ↔ Rise o t.keys ∧ ∀ a ∈ t.keys, okB o B a = true
  | .nil, B => by simp [seqW, T.keys, Rise]
  | .node k x g l r, B => by
    have hl := seq_ok o l ((k, false) :: B)
    have hr := seq_ok o r ((k, true) :: B)
    simp only [okB, if_true, Bool.false_eq_true, if_false, Bool.and_eq_true, decide_eq_true_eq, cmpK_lt, cmpK_gt] at hl hr
    simp only [seqW, List.mem_cons, List.mem_append, or_imp, forall_and, forall_eq, Bool.not_eq_false', T.keys]
    rw [hl, hr]
    unfold Rise
    rw [List.pairwise_append, List.pairwise_cons]
    constructor
    · rintro ⟨h1, ⟨h2, h3⟩, h4, h5⟩
      refine ⟨⟨h2, ⟨fun a ha => (h5 a ha).2, h4⟩, fun a ha b hb => ?_⟩, fun a ha => (h3 a ha).1, h1, fun a ha => (h5 a ha).1⟩
      rcases List.mem_cons.1 hb with rfl | hb
      · exact (h3 a ha).2
      · exact Int.lt_trans (h3 a ha).2 (h5 b hb).2
    · rintro ⟨⟨h2, ⟨h5, h4⟩, h6⟩, h7, h1, h8⟩
      exact ⟨h1, ⟨h2, fun a ha => ⟨h7 a ha, h6 a ha k (by simp)⟩⟩, h4, fun a ha => ⟨h8 a ha, h5 a ha⟩⟩
/-- Where the first one is. -/
def lead : List Bool → Nat
  | [] => 0
  | true :: _ => 0
  | false :: l => 1 + lead l
theorem lead_le : ∀ l : List Bool, lead l ≤ l.length
  | [] => Nat.le_refl _
  | true :: _ => Nat.zero_le _
  | false :: l => by have := lead_le l; simp only [lead, List.length_cons]; omega
theorem lead_all : ∀ l : List Bool, lead l = l.length ↔ ∀ x ∈ l, x = false
  | [] => by simp [lead]
  | true :: l => by simp [lead]
  | false :: l => by
    have := lead_all l
    simp only [lead, List.length_cons, List.mem_cons, forall_eq_or_imp, true_and]
    rw [← this]; omega
theorem lead_at : ∀ (p q : List Bool), (∀ x ∈ p, x = false) → lead (p ++ true :: q) = p.length
  | [], q, _ => rfl
  | true :: p, q, h => by have := h true (by simp); cases this
  | false :: p, q, h => by
    have := lead_at p q (fun x hx => h x (by simp [hx]))
    simp only [List.cons_append, lead, List.length_cons, this]; omega
/-- What Check says: which node is the first wrong one, and whether there is one. -/
def chkA (o : Nat) (t : T) : Nat := lead (seqW o t [])
def chkE (o : Nat) (t : T) : Int := if Rise o t.keys then 0 else 120
theorem chk_ok (o : Nat) (t : T) : chkA o t = t.size ↔ Rise o t.keys := by
  unfold chkA
  rw [← seqW_length o t [], lead_all, seq_ok]
  simp [okB]
/-- Two rows that rise, and what stands between them. -/
theorem rise_mid {o : Nat} {l r : List Int} {k : Int} : Rise o (l ++ k :: r) ↔ Rise o (l ++ [k]) ∧ Rise o ([k] ++ r) := by
  unfold Rise
  simp only [List.pairwise_append, List.pairwise_cons, List.mem_cons, List.singleton_append, List.not_mem_nil, or_false, false_implies, implies_true, true_and, List.Pairwise.nil]
  constructor
  · rintro ⟨h1, ⟨h2, h3⟩, h4⟩
    exact ⟨⟨h1, fun a ha b hb => h4 a ha b (.inl hb)⟩, h2, h3⟩
  · rintro ⟨⟨h1, h2⟩, h3, h4⟩
    refine ⟨h1, ⟨h3, h4⟩, fun a ha b hb => ?_⟩
    rcases hb with rfl | hb
    · exact h2 a ha _ rfl
    · exact Int.lt_trans (h2 a ha k rfl) (h3 b hb)
theorem rise_app {o : Nat} {l r : List Int} {a b : Int} (hl : Rise o (l ++ [a])) (hr : Rise o (b :: r)) : Rise o ((l ++ [a]) ++ (b :: r)) ↔ codeK o a < codeK o b := by
  unfold Rise at *
  rw [List.pairwise_append]
  constructor
  · rintro ⟨_, _, h⟩
    exact h a (by simp) b (by simp)
  · intro h
    refine ⟨hl, hr, fun x hx y hy => ?_⟩
    have h1 : codeK o x ≤ codeK o a := by
      rw [List.pairwise_append] at hl
      rcases List.mem_append.1 hx with hx | hx
      · exact Int.le_of_lt (hl.2.2 x hx a (by simp))
      · simp at hx; subst hx; exact Int.le_refl _
    have h2 : codeK o b ≤ codeK o y := by
      rw [List.pairwise_cons] at hr
      rcases List.mem_cons.1 hy with rfl | hy
      · exact Int.le_refl _
      · exact Int.le_of_lt (hr.1 y hy)
    omega
/-- The last key, and the first one. -/
def T.last : T → Int
  | .nil => 0
  | .node k _ _ _ .nil => k
  | .node _ _ _ _ (.node k x g l r) => T.last (.node k x g l r)
def T.first : T → Int
  | .nil => 0
  | .node k _ _ .nil _ => k
  | .node _ _ _ (.node k x g l r) _ => T.first (.node k x g l r)
theorem keys_last : ∀ t : T, t.some = true → ∃ l, t.keys = l ++ [t.last]
  | .node k _ _ l .nil, _ => ⟨l.keys, by simp [T.keys, T.last]⟩
  | .node k _ _ l (.node k' x g a b), _ => by
    obtain ⟨m, hm⟩ := keys_last (.node k' x g a b) rfl
    refine ⟨l.keys ++ k :: m, ?_⟩
    rw [T.keys, hm, T.last]
    simp
theorem keys_first : ∀ t : T, t.some = true → ∃ l, t.keys = t.first :: l
  | .node k _ _ .nil r, _ => ⟨r.keys, by simp [T.keys, T.first]⟩
  | .node k _ _ (.node k' x g a b) r, _ => by
    obtain ⟨m, hm⟩ := keys_first (.node k' x g a b) rfl
    refine ⟨m ++ k :: r.keys, ?_⟩
    rw [T.keys, hm, T.first]
    simp
/-- Does one tree stand ahead of another one? -/
def aheadT (o : Nat) (a b : T) : Bool := decide (Rise o (a.keys ++ b.keys))
theorem ahead_no {o : Nat} {a b : T} (h : ¬ (Rise o a.keys ∧ Rise o b.keys)) : aheadT o a b = false := by
  apply decide_eq_false
  intro hr
  unfold Rise at hr h
  rw [List.pairwise_append] at hr
  exact h ⟨hr.1, hr.2.1⟩
theorem ahead_nil {o : Nat} {a b : T} (ha : Rise o a.keys) (hb : Rise o b.keys) (h : a.some = false ∨ b.some = false) : aheadT o a b = true := by
  apply decide_eq_true
  rcases h with h | h
  · cases a with
    | nil => simpa [T.keys] using hb
    | node => cases h
  · cases b with
    | nil => simpa [T.keys] using ha
    | node => cases h
theorem ahead_cmp {o : Nat} {a b : T} (ha : Rise o a.keys) (hb : Rise o b.keys) (h1 : a.some = true) (h2 : b.some = true) : aheadT o a b = decide (cmpK o a.last b.first < 0) := by
  obtain ⟨l, hl⟩ := keys_last a h1
  obtain ⟨r, hr⟩ := keys_first b h2
  unfold aheadT
  rw [hl] at ha ⊢
  rw [hr] at hb ⊢
  rw [decide_eq_decide, rise_app ha hb, cmpK_lt]
theorem joins_law {o : Nat} {a b : T} {k x g : Int} : (Rise o (T.node k x g a b).keys) ↔ aheadT o a (.node k x g .nil .nil) = true ∧ aheadT o (.node k x g .nil .nil) b = true := by
  unfold aheadT
  rw [decide_eq_true_eq, decide_eq_true_eq]
  simp only [T.keys, List.nil_append]
  exact rise_mid
end Go.Proofs.Ytlehcagpddgamaa
