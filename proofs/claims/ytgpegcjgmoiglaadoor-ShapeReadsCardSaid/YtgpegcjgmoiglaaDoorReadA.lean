/- Package shape: must; a reader takes a byte, a word. -/
import Derived.Test.YtgpegcjgmoiglaaDoorNumD
import Derived.Test.YtgpegcjgmoiglaaDoorShapeLaw
import Derived.Test.YtgpegcjgmoiglaaDoorNode
import Derived.WalkLawsBesides
namespace Go.Proofs.YtgpegcjgmoiglaaDoor
open Go.RowKit Go.Lib
set_option linter.unusedVariables false

/-- What is thrown. -/
def thrown : List PanicEntry := [{ v := .iface 88 (.agg #[]), recovered := false }]
theorem must_ok (w : World) : Calls Tryd.prog 44 #[.bool true] w fun e w' => e = .returned (.tuple #[]) ∧ w' = w := by
  go_enter Tryd.func44, Tryd.ntmps44
  go_wp2_with fail
  go_end0
  exact ⟨rfl, rfl⟩
theorem must_no (w : World) : Calls Tryd.prog 44 #[.bool false] w fun e w' => e = .panicked thrown ∧ w' = w := by
  go_enter Tryd.func44, Tryd.ntmps44
  go_wp2_with fail
  exact ⟨rfl, rfl, rfl⟩
theorem must_yes {b : Bool} (h : b = true) (w : World) : Calls Tryd.prog 44 #[.bool b] w fun e w' => e = .returned (.tuple #[]) ∧ w' = w := by subst h; exact must_ok w
theorem must_not {b : Bool} (h : b = false) (w : World) : Calls Tryd.prog 44 #[.bool b] w fun e w' => e = .panicked thrown ∧ w' = w := by subst h; exact must_no w
/-- A reader: what is left of its text, how many nodes it has met. -/
def Rd (w : World) (R : Nat) (l : List UInt8) (m : Int) : Prop := Blk w R 71 #[.string ⟨⟨l⟩⟩, .int .i64 m]
theorem cut_eq (l : List UInt8) (i j : Nat) : (⟨⟨l⟩⟩ : ByteArray).extract i j = ⟨⟨(l.drop i).take (j - i)⟩⟩ := by
  have h : ((⟨⟨l⟩⟩ : ByteArray).extract i j).data = ⟨(l.drop i).take (j - i)⟩ := by
    rw [ByteArray.data_extract]
    apply Array.ext'
    simp
  cases hb : (⟨⟨l⟩⟩ : ByteArray).extract i j with
  | mk data => rw [hb] at h; rw [← h]
theorem byte_eq (c d : UInt8) (l : List UInt8) (h : 0 < (⟨⟨d :: l⟩⟩ : ByteArray).size) : ((((⟨⟨d :: l⟩⟩ : ByteArray)[0].toNat : Nat) : Int) == ((c.toNat : Nat) : Int)) = decide (d = c) := by
  show (((d.toNat : Nat) : Int) == ((c.toNat : Nat) : Int)) = decide (d = c)
  rw [Bool.eq_iff_iff]
  simp only [beq_iff_eq, decide_eq_true_eq]
  constructor
  · intro e; exact UInt8.toNat_inj.1 (by omega)
  · intro e; rw [e]
set_option maxRecDepth 100000 in
set_option maxHeartbeats 1000000 in
theorem sign_any {w : World} {R : Nat} {l : List UInt8} {m : Int} (c : UInt8) {n : Int} (hn : (c.toNat : Int) = n) (h : Rd w R l m) :
    Calls Tryd.prog 56 #[.pointer (some ⟨R, 0, none⟩), .int .u8 n] w fun e w' =>
      (match signR c l with
        | none => e = .panicked thrown ∧ w' = w
        | some l' => e = .returned (.tuple #[]) ∧ w' = w.setCell ⟨R, 0, none⟩ (.string ⟨⟨l'⟩⟩)) := by
  subst hn
  have c0 := h.cell 0
  have f0 := h.frozen 0
  cases l with
  | nil =>
    simp only [signR]
    go_enter Tryd.func56, Tryd.ntmps56
    go_wp2_with fail
    refine (must_no _).mono ?_; rintro e w' ⟨rfl, rfl⟩
    go_wp2_with fail
    exact ⟨rfl, rfl, rfl⟩
  | cons d l =>
    by_cases hd : d = c
    · subst hd
      have hb := byte_eq d d l
      simp only [decide_true] at hb
      simp only [signR, if_true]
      go_enter Tryd.func56, Tryd.ntmps56
      go_wp2_with fail
      refine (must_ok _).mono ?_; rintro e w' ⟨rfl, rfl⟩
      go_wp2_with fail
      go_end0
      exact ⟨rfl, by rw [cut_eq, List.drop_one, List.tail_cons, List.take_of_length_le (by simp)]⟩
    · have hb := byte_eq c d l
      rw [decide_eq_false hd] at hb
      simp only [signR, if_neg hd]
      clear hd
      go_enter Tryd.func56, Tryd.ntmps56
      go_wp2_with fail
      refine (must_no _).mono ?_; rintro e w' ⟨rfl, rfl⟩
      go_wp2_with fail
      exact ⟨rfl, rfl, rfl⟩
end Go.Proofs.YtgpegcjgmoiglaaDoor
