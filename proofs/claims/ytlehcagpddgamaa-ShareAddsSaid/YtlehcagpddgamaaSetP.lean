/- A SET OF NODES IN MEMORY: a map keyed by pointers. No program in sight. -/
import Derived.LaidEqlPtr
import Derived.MapKept
import Derived.WalkKit
namespace Go.Proofs.Ytlehcagpddgamaa
open Go.RowKit Go.MapKept

def ptr (b : Nat) : Value := .pointer (some ⟨b, 0, none⟩)
/-- The entries of a set: in the order in which they came. -/
def setL : Nat → List Nat → List MapEntry
  | _, [] => []
  | i, b :: l => { key := ptr b, val := .agg #[], born := i } :: setL (i + 1) l
def setA (S : List Nat) : Array MapEntry := (setL 0 S).toArray
theorem setL_snoc (b : Nat) : ∀ (i : Nat) (l : List Nat), setL i (l ++ [b]) = setL i l ++ [{ key := ptr b, val := .agg #[], born := i + l.length }]
  | i, [] => rfl
  | i, c :: l => by simp only [List.cons_append, setL, setL_snoc b (i + 1) l, List.length_cons]; rw [show i + 1 + l.length = i + (l.length + 1) from by omega]
theorem setA_push (S : List Nat) (b : Nat) : (setA S).push { key := ptr b, val := .agg #[], born := S.length } = setA (S ++ [b]) := by
  simp [setA, setL_snoc]
theorem setL_len : ∀ (i : Nat) (l : List Nat), (setL i l).length = l.length
  | _, [] => rfl
  | i, _ :: l => by simp [setL, setL_len (i + 1) l]
theorem setA_size (S : List Nat) : (setA S).size = S.length := by simp [setA, setL_len]
theorem setA_nil : setA [] = #[] := rfl
/-- Block b is a whole row of cells. -/
def IsB (w : World) (b : Nat) : Prop := ∃ cs t, w.heap[b]? = some (.cells cs t (0, 0))
/-- A set of nodes. -/
def SetM (w : World) (m : Nat) (S : List Nat) : Prop := w.heap[m]? = some (.map (setA S) S.length)
/-- The world in which a set is another one. -/
def World.putSet (w : World) (m : Nat) (S : List Nat) : World := { w with heap := w.heap.setIfInBounds m (.map (setA S) S.length) }

section
variable {P : Program} {kt te : TypeId} {j : TypeInfo} (hp : P.underlying kt = some (.pointer te)) (hte : P.info? te = some j) (hsz : j.size ≠ 0)
include hp hte
theorem equal_same (w : World) (b : Nat) : (Op.equal kt (ptr b) (ptr b)).run P w = .ok true w := by
  have h : ∀ d : Nat, (Op.equalIn (d + 1) kt (ptr b) (ptr b)).run P w = .ok true w := fun d => by
    simp [ptr, Op.equalIn, run_underlying hp, sizeOf, typeInfo, hte, run_sameAddr_same, Result.andThen]
  exact h 9999
include hsz in
theorem equal_other {w : World} {a b : Nat} (hne : a ≠ b) (ha : IsB w a) (hb : IsB w b) : (Op.equal kt (ptr a) (ptr b)).run P w = .ok false w := by
  obtain ⟨ca, ta, ha⟩ := ha
  obtain ⟨cb, tb, hb⟩ := hb
  have hne' : (⟨a, 0, none⟩ : Addr) ≠ ⟨b, 0, none⟩ := fun h => hne (by injection h)
  have h : ∀ d : Nat, (Op.equalIn (d + 1) kt (ptr a) (ptr b)).run P w = .ok false w := fun d => by
    simp [ptr, Op.equalIn, run_underlying hp, sizeOf, typeInfo, hte, hsz, run_sameAddr_other w hne' ha hb, Result.andThen]
  exact h 9999
omit hte in
theorem equal_none (w : World) (b : Nat) : (Op.equal kt (.pointer none) (ptr b)).run P w = .ok false w := by
  have h : ∀ d : Nat, (Op.equalIn (d + 1) kt (.pointer none) (ptr b)).run P w = .ok false w := fun d => by
    simp [ptr, Op.equalIn, run_underlying hp, Result.andThen]
  exact h 9999
include hsz in
theorem ask_no {w : World} {a : Nat} (ha : IsB w a) : ∀ (S : List Nat) (i k : Nat), (∀ b ∈ S, IsB w b) → a ∉ S → (Instr.findAsking kt (ptr a) (setL i S) k).run P w = .ok none w
  | [], i, k, _, _ => by simp [setL, Instr.findAsking]
  | b :: S, i, k, hb, hn => by
    have h := equal_other hp hte hsz (w := w) (a := a) (b := b) (fun e => hn (by simp [e])) ha (hb b (by simp))
    have h2 := ask_no ha S (i + 1) (k + 1) (fun c hc => hb c (by simp [hc])) (fun hc => hn (by simp [hc]))
    simp only [setL, Instr.findAsking, Sem.run_bind, h, Result.andThen]
    simpa using h2
include hsz in
theorem ask_yes {w : World} {a : Nat} : ∀ (S : List Nat) (i k : Nat), (∀ b ∈ S, IsB w b) → a ∈ S → ∃ q, (Instr.findAsking kt (ptr a) (setL i S) k).run P w = .ok (some (q, .agg #[])) w
  | [], i, k, _, h => by simp at h
  | b :: S, i, k, hb, hn => by
    by_cases e : a = b
    · subst e
      have h := equal_same hp hte w a
      exact ⟨k, by simp [setL, Instr.findAsking, Sem.run_bind, h, Result.andThen]⟩
    · have hm : a ∈ S := by simpa [e] using hn
      have h := equal_other hp hte hsz (w := w) (a := a) (b := b) e (hb a (by simp [hm])) (hb b (by simp))
      obtain ⟨q, h2⟩ := ask_yes S (i + 1) (k + 1) (fun c hc => hb c (by simp [hc])) hm
      refine ⟨q, ?_⟩
      simp only [setL, Instr.findAsking, Sem.run_bind, h, Result.andThen]
      simpa using h2
omit hte in
theorem ask_none {w : World} : ∀ (S : List Nat) (i k : Nat), (Instr.findAsking kt (.pointer none) (setL i S) k).run P w = .ok none w
  | [], i, k => by simp [setL, Instr.findAsking]
  | b :: S, i, k => by
    have h := equal_none hp w b
    have h2 := ask_none (w := w) S (i + 1) (k + 1)
    simp only [setL, Instr.findAsking, Sem.run_bind, h, Result.andThen]
    simpa using h2
omit hte in
theorem find_of {w : World} {p : Option Addr} {S : List Nat} {r : Option (Nat × Value)} (h : (Instr.findAsking kt (.pointer p) (setL 0 S) 0).run P w = .ok r w) :
    (Instr.findKey kt (.pointer p) (setA S).toList).run P w = .ok r w := by
  unfold Instr.findKey
  simp only [setA, Sem.run_bind, run_underlying hp, Result.andThen]
  cases S with
  | nil => simpa [setL, Instr.findNow, Instr.findAsking] using h
  | cons b S => simpa [setL, Instr.findNow, Instr.sameNow] using h
omit hte in
theorem check_ptr {w : World} {p : Option Addr} (e : Bool) (n : Nat) : (Instr.checkKey e (n + 1) kt (.pointer p)).run P w = .ok () w := by
  unfold Instr.checkKey
  simp only [Sem.run_bind, run_underlying hp, Result.andThen]
  rfl
variable {mt et : TypeId} (hm : P.underlying mt = some (.map kt et)) (hz : ∀ w : World, (zeroValue et).run P w = .ok (.agg #[]) w)
include hm
include hsz in
theorem set_has {w : World} {m a : Nat} {S : List Nat} (h : SetM w m S) (hb : ∀ b ∈ S, IsB w b) (ha : a ∈ S) : (Instr.lookup mt (.map (some m)) (ptr a) true).run P w = .ok (.tuple #[.agg #[], .bool true]) w := by
  obtain ⟨q, hq⟩ := ask_yes hp hte hsz S 0 0 hb ha
  unfold ptr at hq ⊢
  unfold Instr.lookup
  simp [run_underlying hm, Result.andThen, Go.MapKept.run_getObj_map h, check_ptr hp _ 9999, find_of hp hq]
include hz
include hsz in
theorem set_hasnt {w : World} {m a : Nat} {S : List Nat} (h : SetM w m S) (hb : ∀ b ∈ S, IsB w b) (hi : IsB w a) (ha : a ∉ S) : (Instr.lookup mt (.map (some m)) (ptr a) true).run P w = .ok (.tuple #[.agg #[], .bool false]) w := by
  have hq := ask_no hp hte hsz hi S 0 0 hb ha
  unfold ptr at hq ⊢
  unfold Instr.lookup
  simp [run_underlying hm, Result.andThen, Go.MapKept.run_getObj_map h, check_ptr hp _ 9999, find_of hp hq, hz]
omit hte in
theorem set_none {w : World} {m : Nat} {S : List Nat} (h : SetM w m S) : (Instr.lookup mt (.map (some m)) (.pointer none) true).run P w = .ok (.tuple #[.agg #[], .bool false]) w := by
  have hq := ask_none hp (w := w) S 0 0
  unfold Instr.lookup
  simp [run_underlying hm, Result.andThen, Go.MapKept.run_getObj_map h, check_ptr hp _ 9999, find_of hp hq, hz]
omit hz
include hsz in
theorem set_put {w : World} {m a : Nat} {S : List Nat} (h : SetM w m S) (hb : ∀ b ∈ S, IsB w b) (hi : IsB w a) (ha : a ∉ S) : (Instr.mapUpdate mt (.map (some m)) (ptr a) (.agg #[])).run P w = .ok () (World.putSet w m (S ++ [a])) := by
  have hq := ask_no hp hte hsz hi S 0 0 hb ha
  have e := setA_push S a
  unfold ptr at hq e ⊢
  unfold Instr.mapUpdate World.putSet
  simp [run_underlying hm, Result.andThen, Go.MapKept.run_getObj_map h, check_ptr hp _ 9999, find_of hp hq, Go.MapKept.run_setObj_map _ h, e]
end
section
variable {w : World} {m : Nat} {S : List Nat}
theorem putSet_same (h : SetM w m S) : World.putSet w m S = w := by
  have hlt : m < w.heap.size := (Array.getElem?_eq_some_iff.1 h).1
  have : w.heap.setIfInBounds m (.map (setA S) S.length) = w.heap := by
    apply Array.ext_getElem?
    intro i
    by_cases e : m = i
    · subst e; rw [h]; simp [hlt]
    · simp [e]
  unfold World.putSet
  rw [this]
theorem putSet_twice (S S' : List Nat) : World.putSet (World.putSet w m S) m S' = World.putSet w m S' := by
  unfold World.putSet
  simp
theorem putSet_set (hlt : m < w.heap.size) (S : List Nat) : SetM (World.putSet w m S) m S := by
  unfold SetM World.putSet
  simp [hlt]
theorem putSet_size (S : List Nat) : (World.putSet w m S).heap.size = w.heap.size := by simp [World.putSet]
theorem putSet_other (S : List Nat) {b : Nat} (h : b ≠ m) : (World.putSet w m S).heap[b]? = w.heap[b]? := by
  unfold World.putSet
  simp [Ne.symm h]
theorem SetM.lt (h : SetM w m S) : m < w.heap.size := (Array.getElem?_eq_some_iff.1 h).1
theorem IsB.put {b : Nat} (h : IsB w b) (S : List Nat) (hs : ∃ S0, SetM w m S0) : IsB (World.putSet w m S) b := by
  obtain ⟨cs, t, h⟩ := h
  obtain ⟨S0, h0⟩ := hs
  refine ⟨cs, t, (putSet_other S ?_).trans h⟩
  rintro rfl
  rw [SetM, h] at h0; cases h0
end
end Go.Proofs.Ytlehcagpddgamaa
