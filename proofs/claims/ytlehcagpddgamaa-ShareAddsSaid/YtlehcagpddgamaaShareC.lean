/- Package share: Nodes, In, Same, Tops. -/
import Derived.Test.YtlehcagpddgamaaShareB
import Derived.Test.YtlehcagpddgamaaDrawC
import Derived.Deep.RegionHeld3
namespace Go.Proofs.Ytlehcagpddgamaa
open Go.RowKit G

theorem lit1 (w : World) (q : Option Addr) (g : G) : Sl EG (w.alloc (.cells #[.pointer q] 26)) (.slice (some ⟨w.heap.size, 0, none⟩) 1 1) [(q, g)] := lit_sl (enc := EG) (q, g) rfl
theorem Trees.one {f : Nat → G} {w : World} {q : Option Addr} {g : G} (hq : GrS w (.pointer q) g) (hf : byF f g) : Trees f w [(q, g)] := fun p hp => by
  simp only [List.mem_singleton] at hp
  subst hp
  exact ⟨hq, hf⟩
theorem ids_one {q : Option Addr} {g : G} {K : Nat} (hg : g.ids.length ≤ K) : ∀ p ∈ [(q, g)], p.2.ids.length ≤ K := fun p hp => by
  simp only [List.mem_singleton] at hp
  subst hp
  exact hg
theorem all_one (q : Option Addr) (g : G) : allG ([(q, g)].map Prod.snd) = fr g [] := rfl
section
variable {f : Nat → G} {g : G} {q : Option Addr} {w : World} (hq : GrS w (.pointer q) g) (hf : byF f g) (hg : g.ids.length ≤ 1000000)
include hq hf
set_option maxHeartbeats 1000000 in
theorem nodesS_any : Calls Try.prog 67 #[.pointer q] w fun e w' => e = .returned (.int .i64 ((fr g []).length : Int)) ∧ Ext w w' := by
  have x0 := (Ext.refl w).alloc (.cells #[.pointer q] 26)
  have AL := allS_any (lit1 w q g) ((Trees.one hq hf).ext x0) (by simp)
  rw [all_one] at AL
  go_enter Try.func67, Try.ntmps67
  go_wp2_with fail
  refine AL.mono ?_
  rintro e w1 ⟨m, rfl, hm, x1, s1⟩
  have LN := len_set s1
  go_wp2_with fail
  go_ret
  exact ⟨rfl, x0.trans x1⟩
set_option maxHeartbeats 1000000 in
theorem inS_any {b : Nat} (hb : IsB w b) : Calls Try.prog 70 #[.pointer q, .pointer (some ⟨b, 0, none⟩)] w fun e w' => e = .returned (.bool (decide (b ∈ g.ids))) ∧ Ext w w' := by
  have x0 := (Ext.refl w).alloc (.cells #[.pointer q] 26)
  have AL := allS_any (lit1 w q g) ((Trees.one hq hf).ext x0) (by simp)
  rw [all_one] at AL
  have hiff : b ∈ fr g [] ↔ b ∈ g.ids := by rw [mem_fr hf (Whole.nil.shut g)]; simp
  by_cases h : b ∈ fr g []
  · rw [decide_eq_true (hiff.1 h)]
    clear hiff
    go_enter Try.func70, Try.ntmps70
    go_wp2_with fail
    refine AL.mono ?_
    rintro e w1 ⟨m, rfl, hm, x1, s1⟩
    have LK := s1.has h
    clear h s1
    go_wp2_with fail
    go_ret
    exact ⟨rfl, (x0.trans x1).alloc _⟩
  · rw [decide_eq_false (fun k => h (hiff.2 k))]
    clear hiff
    go_enter Try.func70, Try.ntmps70
    go_wp2_with fail
    refine AL.mono ?_
    rintro e w1 ⟨m, rfl, hm, x1, s1⟩
    have LK := s1.hasnt (hb.ext (x0.trans x1)) h
    clear h s1
    go_wp2_with fail
    go_ret
    exact ⟨rfl, (x0.trans x1).alloc _⟩
set_option maxHeartbeats 1000000 in
theorem inS_none : Calls Try.prog 70 #[.pointer q, .pointer none] w fun e w' => e = .returned (.bool false) ∧ Ext w w' := by
  have x0 := (Ext.refl w).alloc (.cells #[.pointer q] 26)
  have AL := allS_any (lit1 w q g) ((Trees.one hq hf).ext x0) (by simp)
  rw [all_one] at AL
  go_enter Try.func70, Try.ntmps70
  go_wp2_with fail
  refine AL.mono ?_
  rintro e w1 ⟨m, rfl, hm, x1, s1⟩
  have LK := s1.nope
  clear s1
  go_wp2_with fail
  go_ret
  exact ⟨rfl, (x0.trans x1).alloc _⟩
include hg
set_option maxHeartbeats 1000000 in
theorem sameS_any {g2 : G} {q2 : Option Addr} (hq2 : GrS w (.pointer q2) g2) (hf2 : byF f g2) (hg2 : g2.ids.length ≤ 1000000) :
    Calls Try.prog 68 #[.pointer q, .pointer q2] w fun e w' => e = .returned (.int .i64 (((fr g []).length : Int) - (newN g (fr g2 []) : Nat))) ∧ Ext w w' := by
  have ND := nodesS_any hq hf
  have NW := fun (W : World) (X : Ext w W) => newS_any (lit1 W q2 g2) ((Trees.one (hq2.ext X) hf2).ext ((Ext.refl W).alloc _)) (hq.ext (X.alloc (.cells #[.pointer q2] 26))) hf (by simp) (ids_one hg2) hg
  simp only [all_one] at NW
  have hA := fr_le g []
  have hB := fr_le g (fr g2 [])
  have hC : newN g (fr g2 []) ≤ g.ids.length := by unfold newN; omega
  have hD : newN g (fr g2 []) ≤ 1000000 := by omega
  have hE : (fr g []).length ≤ 1000000 := by simp at hA; omega
  have NW := Lib.hid NW
  clear hA hB hC hq hf hg hq2 hf2 hg2
  generalize (fr g []).length = p at *
  generalize newN g (fr g2 []) = n at *
  go_enter Try.func68, Try.ntmps68
  go_wp2_with fail
  refine ND.mono ?_
  rintro e w1 ⟨rfl, x1⟩
  go_wp2_with fail
  refine (NW.out w1 x1).mono ?_
  rintro e w2 ⟨rfl, x2⟩
  go_wp2_with fail
  go_ret
  exact ⟨rfl, (x1.alloc _).trans x2⟩
end
end Go.Proofs.Ytlehcagpddgamaa
