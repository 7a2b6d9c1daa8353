/- joineryref11.Read. -/
import Derived.Test.YtgpegcjgmoiglaaDoorRefTake
import Derived.Test.YtgpegcjgmoiglaaDoorRefLine
import Derived.Test.YtgpegcjgmoiglaaDoorHeight
namespace Go.Proofs.YtgpegcjgmoiglaaDoor
open Go.RowKit Go.Lib
set_option linter.unusedVariables false

/-- What the document's Read answers. -/
def EndQ (w : World) (o : Option T) (e : Ending) (w' : World) : Prop := ∃ vl, e = .returned (.tuple #[vl, .int .i64 (numO o)]) ∧ Own Bead.enc 44 7 w.heap.size w' vl (bOf (o.getD .nil)) ∧ Ext w w'
theorem EndQ.no {w w' : World} {o : Option T} (h : o = none) (x : Ext w w') : EndQ w o (.returned (.tuple #[.slice none 0 0, .int .i64 7])) w' := by subst h; exact ⟨_, rfl, Own.nil_ _ _ _, x⟩
theorem EndQ.yes {w w' : World} {o : Option T} {t : T} {v : Value} (h : o = some t) (ho : Own Bead.enc 44 7 w.heap.size w' v (bOf t)) (x : Ext w w') : EndQ w o (.returned (.tuple #[v, .int .i64 0])) w' := by subst h; exact ⟨_, rfl, ho, x⟩
set_option maxRecDepth 100000 in
set_option maxHeartbeats 8000000 in
theorem refRead_any {w : World} {s : List UInt8} (hl : Laid w) (hm : s.length ≤ 5000) :
    Calls Tryd.prog 18 #[.string ⟨⟨s⟩⟩] w (EndQ w (readT s)) := by
  have L0 := Lib.hid (And.intro hl hm)
  have TK := Lib.hid (takeR_any hl 4096 (s := s) (iL := 4096) (Ext.refl w) hm (by omega) rfl)
  have hm9 : (s.length : Int) ≤ 1048576 := by omega
  clear hl hm
  go_enter Tryd.func18, Tryd.ntmps18
  go_wp2_with fail
  refine TK.out.mono ?_; rintro e w1 ⟨x1, p⟩
  cases ec : takeW 4096 s with
  | none =>
    rw [ec] at p
    subst p
    have RS := Lib.hid (readW_no (s := s) (fun q h => by rw [ec] at h; cases h))
    clear ec
    go_wp2_with fail
    go_ret2
    exact EndQ.no RS.out x1
  | some y =>
    obtain ⟨q, rest⟩ := y
    rw [ec] at p
    obtain ⟨v, t, rfl, hf, ho⟩ := p
    cases rest with
    | cons d r =>
      have RS := Lib.hid (readW_no (s := s) (fun q h => by rw [ec] at h; cases h))
      clear ec hf ho
      go_wp2_with fail
      go_ret2
      exact EndQ.no RS.out x1
    | nil =>
      have hsz := (takeW_size ec hf).1
      have hm := L0.out.2
      have hlen : (bOf t).length = t.size := bOf_length t
      have LN := Lib.hid (refLine_any t (L0.out.1.ext x1) (ho.sl Bead.enc_len (by omega)) (ofT_ser _ t) (by have := t.height_le_size; omega) (by rw [hlen]; omega) hf.rng)
      have HO := Lib.hid ho
      obtain ⟨A, c, rfl, hc, hr⟩ := ho.sl Bead.enc_len (by omega)
      have hn9 : ((bOf t).length : Int) ≤ 65536 := by rw [hlen]; omega
      clear hc hr ho
      by_cases he : lineT t = s
      · have RS := Lib.hid (readW_yes ec hf (by omega) he)
        rw [he] at LN
        clear ec hf he hsz hm hlen
        go_wp2_with fail
        refine LN.out.mono ?_; rintro e w2 ⟨rfl, x2⟩
        go_wp2_with fail
        go_ret2
        exact EndQ.yes RS.out (HO.out.ext x2) (x1.trans x2)
      · have RS := Lib.hid (readW_not ec hf (fun h => he h.2))
        have hbe : (lineT t == s) = false := beq_eq_false_iff_ne.2 he
        clear ec hf he hsz hm hlen
        go_wp2_with fail
        refine LN.out.mono ?_; rintro e w2 ⟨rfl, x2⟩
        go_wp2_with fail
        go_ret2
        exact EndQ.no RS.out (x1.trans x2)
end Go.Proofs.YtgpegcjgmoiglaaDoor
