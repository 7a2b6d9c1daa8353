/- Package order: kinds. -/
import Derived.Test.YtphpaaaaifpidaaMixG
import Derived.Carry
import Derived.MapKept
namespace Go.Proofs.Ytphpaaaaifpidaa
open Go.RowKit Go.MapKept

theorem alloc_set (w : World) (o o' : Obj) : ({ w.alloc o with heap := (w.alloc o).heap.setIfInBounds w.heap.size o' } : World) = w.alloc o' := by
  have e : ∀ o : Obj, (w.alloc o).heap = w.heap.push o := fun _ => rfl
  rw [e]
  have h : (w.heap.push o).setIfInBounds w.heap.size o' = w.heap.push o' := by
    refine Array.ext_getElem? fun i => ?_
    rw [Array.getElem?_setIfInBounds, Array.getElem?_push, Array.getElem?_push]
    by_cases hi : w.heap.size = i
    · subst hi
      simp
    · have : ¬ i = w.heap.size := fun e => hi e.symm
      simp [hi, this]
  rw [h]
  rfl
/-- A key that is new is put in. -/
theorem upd_step (w : World) (es : Array MapEntry) (c : Nat) (k : Int) (v : Value) (h : Instr.findNow (.int .u8) (.int .u8 k) es.toList 0 = some none) :
    (Instr.mapUpdate 82 (.map (some w.heap.size)) (.int .u8 k) v).run Try.prog (w.alloc (.map es c)) = .ok () (w.alloc (.map (es.push ⟨.int .u8 k, v, c⟩) (c + 1))) := by
  have hb : (w.alloc (.map es c)).heap[w.heap.size]? = some (.map es c) := (heap_alloc w _).1
  have hk : IsKey (.int .u8) (.int .u8 k) := by simp [IsKey]
  unfold Instr.mapUpdate
  simp only [Sem.run_bind, run_underlying Try.underlying82, Result.andThen, Go.MapKept.run_getObj_map hb, run_checkKey Try.underlying5 hk false 9999, run_findKey Try.underlying5 h, run_setObj_map _ hb, alloc_set]
/-- The seven orders. -/
def kv (s : List UInt8) (f g : Nat) : Value := .agg #[.string ⟨s.toArray⟩, .func (.func f) #[] #[], .func (.func g) #[] #[]]
def kindsA : Array MapEntry := #[⟨.int .u8 1, kv [117, 112] 68 69, 0⟩, ⟨.int .u8 2, kv [100, 111, 119, 110] 70 71, 1⟩, ⟨.int .u8 3, kv [115, 105, 122, 101] 72 73, 2⟩,
  ⟨.int .u8 4, kv [98, 105, 116, 115] 74 76, 3⟩, ⟨.int .u8 5, kv [101, 118, 101, 110] 77 79, 4⟩, ⟨.int .u8 6, kv [108, 111, 119] 80 81, 5⟩, ⟨.int .u8 7, kv [109, 105, 120] 82 84, 6⟩]

set_option maxRecDepth 100000 in
set_option maxHeartbeats 4000000 in
theorem kinds_any (w : World) : Calls Try.prog 54 #[] w fun e w' => e = .returned (.map (some w.heap.size)) ∧ w' = w.alloc (.map kindsA 7) := by
  have hmm := @run_makeMap Try.prog
  have u1 := upd_step w #[] 0 1 (kv [117, 112] 68 69) rfl
  have u2 := upd_step w (kindsA.extract 0 1) 1 2 (kv [100, 111, 119, 110] 70 71) rfl
  have u3 := upd_step w (kindsA.extract 0 2) 2 3 (kv [115, 105, 122, 101] 72 73) rfl
  have u4 := upd_step w (kindsA.extract 0 3) 3 4 (kv [98, 105, 116, 115] 74 76) rfl
  have u5 := upd_step w (kindsA.extract 0 4) 4 5 (kv [101, 118, 101, 110] 77 79) rfl
  have u6 := upd_step w (kindsA.extract 0 5) 5 6 (kv [108, 111, 119] 80 81) rfl
  have u7 := upd_step w (kindsA.extract 0 6) 6 7 (kv [109, 105, 120] 82 84) rfl
  simp only [kindsA, List.extract_toArray, List.extract_eq_take_drop, List.drop_zero, Nat.sub_zero, List.take_succ_cons, List.take_zero, List.push_toArray, List.nil_append, List.cons_append, kv, Nat.reduceAdd] at u1 u2 u3 u4 u5 u6 u7
  unfold kindsA kv
  go_enter Try.func54, Try.ntmps54
  go_wp2_with fail
  go_ret
  exact ⟨rfl, rfl⟩
end Go.Proofs.Ytphpaaaaifpidaa
