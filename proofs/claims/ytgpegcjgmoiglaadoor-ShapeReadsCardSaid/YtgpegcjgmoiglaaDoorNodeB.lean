/- Contract of joineryref09.Node. -/
import Derived.Test.YtgpegcjgmoiglaaDoorOf
namespace Go.Proofs.YtgpegcjgmoiglaaDoor
open Go.RowKit

set_option maxHeartbeats 2000000 in
theorem nodeB_any {a b : T} {la lb : List Bead} {va vb : Value} (k x g : Int) {w : World} (ha : Sl Bead.enc w va la) (sa : Ser la a) (hb : Sl Bead.enc w vb lb) (sb : Ser lb b)
    (hha : a.height ≤ 5000) (hhb : b.height ≤ 5000) (hla : la.length ≤ 40000) (hlb : lb.length ≤ 40000) :
    Calls Tryd.prog 62 #[va, .int .i64 k, .int .i64 x, .int .u64 g, vb] w (Gives (fun v' w' => Own Bead.enc 44 7 w.heap.size w' v' (bOf (.node k x g a b))) w) := by
  have ha' := ha
  have hb' := hb
  have hsz1 := sa.length
  have hsz2 := sb.length
  have hser : Ser ([({ key := k, val := x, sum := 0, size := 0, tag := g, left := decide (0 < la.length), right := decide (0 < lb.length) } : Bead)] ++ la ++ lb) (.node k x g a b) := by
    refine ⟨_, la, lb, rfl, rfl, rfl, rfl, ?_, ?_, sa, sb⟩
    · cases a with
      | nil => rw [show la = [] from sa]; rfl
      | node => simp only [T.size] at hsz1; simp [T.some]; omega
    · cases b with
      | nil => rw [show lb = [] from sb]; rfl
      | node => simp only [T.size] at hsz2; simp [T.some]; omega
  have HS := Lib.hid hser
  clear hser hsz1 hsz2
  obtain ⟨A, ca, rfl, hca, hra⟩ := ha
  obtain ⟨B, cb, rfl, hcb, hrb⟩ := hb
  have x0 : ∀ o, Ext w (w.alloc o) := fun o => (Ext.refl w).alloc o
  have o0 := lit_own (e := 44) Bead.enc_len ({ key := k, val := x, sum := 0, size := 0, tag := g, left := decide (0 < la.length), right := decide (0 < lb.length) } : Bead) rfl (Ext.refl w)
  go_enter Tryd.func62, Tryd.ntmps62
  go_wp2_with (first
    | (at_builtin; refine wpList_app beadE rfl (.tmp 23) (.tmp 24) rfl (v := .slice (some ⟨w.heap.size, 0, none⟩) 1 1) rfl rfl o0 (ha'.ext (x0 _)) ?hm1 ?hm2 (x0 _).size ?_; (case hm1 => simp only [maxLen, List.length_singleton]; omega); (case hm2 => simp only [List.length_singleton]; omega); intro v1 w1 o1 a1; have x1 : Ext w w1 := AppTo.ext a1 (x0 _) o0)
    | (at_builtin; refine wpList_app beadE rfl (.tmp 26) (.tmp 27) rfl rfl rfl o1 (hb'.ext x1) ?hm3 ?hm4 x1.size ?_; (case hm3 => simp only [maxLen, List.length_append, List.length_singleton]; omega); (case hm4 => simp only [List.length_append, List.length_singleton]; omega); intro v2 w2 o2 a2; have x2 : Ext w w2 := AppTo.ext a2 x1 o1)
    | fail)
  refine (of_beads _ (o2.sl Bead.enc_len (by omega)) HS.out (by simp only [T.height]; omega) (by simp only [List.length_append, List.length_singleton]; omega)).mono ?_; rintro e w3 ⟨v3, rfl, x3, o3⟩
  go_wp2_with fail
  go_ret
  exact ⟨_, rfl, x2.trans x3, Own.mono o3 x2.size⟩
end Go.Proofs.YtgpegcjgmoiglaaDoor
