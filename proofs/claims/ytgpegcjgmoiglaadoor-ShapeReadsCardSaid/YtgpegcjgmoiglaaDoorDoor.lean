/- WHAT A ROW'S CONDITION ON THE LISTED VARIABLES GIVES: the library's table of powers, its two errors. -/
import Derived.Test.YtgpegcjgmoiglaaDoorNumD
import Derived.Test.YtgpegcjgmoiglaaDoorEnter
import Derived.Test.YtgpegcjgmoiglaaDoorTie
import Derived.LaidMore
import Derived.LaidLaws
import Derived.MakeChecks
import Derived.Stop.Joined
namespace Go.Proofs.YtgpegcjgmoiglaaDoor
open Go.RowKit Go.Lib

theorem gTab : Tryd.prog.globalNamed "internal/strconv.uint64pow10" = some 0 := by kernel_rfl
theorem gSyn : Tryd.prog.globalNamed "strconv.ErrSyntax" = some 1 := by kernel_rfl
theorem gRng : Tryd.prog.globalNamed "strconv.ErrRange" = some 2 := by kernel_rfl
theorem tTab : (Tryd.prog.globals[0]?).map (·.type) = some 109 := by kernel_rfl
theorem tSyn : (Tryd.prog.globals[1]?).map (·.type) = some 62 := by kernel_rfl
theorem tRng : (Tryd.prog.globals[2]?).map (·.type) = some 62 := by kernel_rfl
theorem tab_is : (Rows.laid_internal_strconv_uint64pow10 : DataW Unit) = tabData .u64 pow10Tab := by rfl
theorem of_laid {W : World} (h : laidMetH Tryd.prog Rows.shapeListsRow.laid W) : Laid W := by
  rw [MakeChecks.laidMetH_plain _ _ _ (by kernel_rfl)] at h
  obtain ⟨ps, ⟨_, _, _, _, _, _, _, _, _, _, ⟨_, _, _, _, _, _, _, _, _, _, ⟨g2, t2, cs2, f2, p2, q2, hg2, ht2, hv2, hd2, ⟨g3, t3, cs3, f3, p3, q3, hg3, ht3, hv3, hd3, ⟨g4, t4, cs4, f4, p4, q4, hg4, ht4, hv4, hd4, _, _⟩, _⟩, _⟩, _⟩, _⟩, _, _⟩ := h
  obtain rfl := Option.some.inj (gTab.symm.trans hg2)
  obtain rfl := Option.some.inj (gRng.symm.trans hg3)
  obtain rfl := Option.some.inj (gSyn.symm.trans hg4)
  obtain rfl := Option.some.inj (tTab.symm.trans ht2)
  obtain rfl := Option.some.inj (tRng.symm.trans ht3)
  obtain rfl := Option.some.inj (tSyn.symm.trans ht4)
  refine ⟨?_, ?_, ?_⟩
  · rw [tab_is] at hd2
    have := cells_of_tab Tryd.underlying109 Tryd.underlying42 (by kernel_rfl) (by kernel_rfl) hd2
    unfold TabIs
    rw [hv2, ← this]
  · obtain ⟨_, u, v, e, _⟩ := iface_of_trod Tryd.underlying62 hd4
    exact ⟨u, v, by rw [hv4, Array.eq_one_of_toList e]⟩
  · obtain ⟨_, u, v, e, _⟩ := iface_of_trod Tryd.underlying62 hd3
    exact ⟨u, v, by rw [hv3, Array.eq_one_of_toList e]⟩
/-- The door's own heap meets the condition. -/
theorem door_met (os : Os) (args : Array Value) : laidMetH Tryd.prog Rows.shapeListsRow.laid ((World.doorLaid Tryd.prog 400 os).forCall (fun _ _ => 0) ⟨#[], args, []⟩).memory :=
  laidMetH_of_parts3 (fuel := 8) (laidMet_of_run' 8 (by kernel_rfl) (by kernel_rfl)) (by kernel_rfl) (by kernel_rfl)
end Go.Proofs.YtgpegcjgmoiglaaDoor
