/- Contract of joineryref09.Sum. -/
import Derived.Test.YtgpegcjgmoiglaaDoorBead2
namespace Go.Proofs.YtgpegcjgmoiglaaDoor
open Go.RowKit

theorem sum_take {l : List Bead} {k : Nat} {x : Bead} (hx : l[k]? = some x) : wrap64 (wrap64 (sumL (l.take k)) + x.val) = wrap64 (sumL (l.take (k + 1))) := by
  rw [List.take_add_one, hx]
  simp only [Option.toList_some, sumL_append, sumL]
  unfold wrap64
  omega

set_option maxHeartbeats 1000000 in
theorem sumL_any {l : List Bead} {v : Value} {w : World} (h : Sl Bead.enc w v l) (hm : l.length ≤ 1000000) :
    Calls Tryd.prog 27 #[v] w fun e w' => e = .returned (.int .i64 (wrap64 (sumL l))) ∧ w = w' := by
  obtain ⟨A, c, rfl, hc, hr⟩ := h
  go_enter Tryd.func27, Tryd.ntmps27
  go_wp2_with fail
  go_loop [3, 4] (fun n i => ∃ k : Nat, k ≤ l.length ∧ i = .int .i64 k ∧ n = .int .i64 (wrap64 (sumL (l.take k)))) (fun _ i => l.length - (intOf i).toNat)
  case atStart => exact ⟨0, Nat.zero_le _, rfl, by simp [sumL, wrap64]⟩
  case round =>
    obtain ⟨k, hk, rfl, rfl⟩ := hrel
    by_cases hlt : k < l.length
    · obtain ⟨b, off, rfl, hblt, hcells⟩ := hr (by intro h; rw [h] at hlt; simp at hlt)
      have hxk : l[k]? = some l[k] := List.getElem?_eq_getElem hlt
      generalize l[k] = x at hxk
      obtain ⟨c0, c1, c2, c3, c4, c5, c6⟩ := bead_cells hcells hxk
      have HX := Lib.hid hxk
      clear hxk hcells hr
      generalize hs : sumL (l.take k) = s
      have HS := Lib.hid hs
      clear hs
      go_wp2_with fail
      exact ⟨⟨k + 1, by omega, by go_num, congrArg (Value.int .i64) (by rw [← sum_take HX.out, HS.out])⟩, by simp [intOf]; omega⟩
    · have hge : l.length ≤ k := by omega
      go_wp2_with fail
      go_ret
      exact ⟨by rw [List.take_of_length_le hge]; rfl, rfl⟩
end Go.Proofs.YtgpegcjgmoiglaaDoor
