/- joineryref11.word; numbers as the document's reader asks for them. -/
import Derived.Test.YtgpegcjgmoiglaaDoorReadC
import Derived.Test.YtgpegcjgmoiglaaDoorWordLaw
namespace Go.Proofs.YtgpegcjgmoiglaaDoor
open Go.RowKit Go.Lib
set_option linter.unusedVariables false

set_option maxRecDepth 100000 in
set_option maxHeartbeats 4000000 in
theorem refWord_any {w : World} {l : List UInt8} (hm : l.length ≤ 1000000000) :
    Calls Tryd.prog 59 #[.string ⟨⟨l⟩⟩] w fun e w' => e = .returned (.string ⟨⟨wordL l⟩⟩) ∧ w' = w := by
  have HM := Lib.hid hm
  clear hm
  go_enter Tryd.func59, Tryd.ntmps59
  go_wp2_with fail
  go_loopw [3] (fun kv wr => ∃ k : Nat, k ≤ l.length ∧ kv = .int .i64 (k : Int) ∧ (∀ d ∈ l.take k, isW d = true) ∧ wr = w) (fun kv _ => l.length - (RowKit.intOf kv).toNat)
  case atStart => exact ⟨0, Nat.zero_le _, rfl, by simp, rfl⟩
  case round =>
    obtain ⟨k, hk, rfl, hall, rfl⟩ := hrel
    have HA := Lib.hid hall
    clear hall
    by_cases hlt : k < l.length
    · obtain ⟨c, hx⟩ : ∃ c, l[k]? = some c := ⟨l[k], List.getElem?_eq_getElem hlt⟩
      have HX := Lib.hid hx
      have hb := at_byte hx
      clear hx
      have hk9 : k ≤ 1000000000 := by have := HM.out; omega
      have hlt2 : (k : Int) < (l.length : Int) := by omega
      by_cases h45 : (c.toNat : Int) = 45
      · have HC := Lib.hid (isW_45 h45)
        go_wp2_with fail
        exact ⟨⟨k + 1, by omega, by go_num, take_next HA.out HX.out HC.out, trivial⟩, by simp only [RowKit.intOf]; omega⟩
      · have h45' : ((c.toNat : Int) == 45) = false := by rw [beq_eq_false_iff_ne]; exact h45
        by_cases h48 : 48 ≤ (c.toNat : Int)
        · by_cases h57 : (c.toNat : Int) ≤ 57
          · have HC := Lib.hid (isW_dig h48 h57)
            clear h45
            go_wp2_with fail
            exact ⟨⟨k + 1, by omega, by go_num, take_next HA.out HX.out HC.out, trivial⟩, by simp only [RowKit.intOf]; omega⟩
          · have HC := Lib.hid (isW_no h45 (by omega))
            obtain ⟨WW, WR⟩ := word_at HA.out (head_at HX.out HC.out)
            have HWW := Lib.hid (And.intro WW WR)
            clear WW WR h45
            go_wp2_with fail
            go_ret
            exact ⟨by rw [HWW.out.1]; exact congrArg (fun z => Ending.returned (.string z)) (by rw [cut_eq, List.drop_zero, Nat.sub_zero]), rfl⟩
        · have HC := Lib.hid (isW_no h45 (by omega))
          obtain ⟨WW, WR⟩ := word_at HA.out (head_at HX.out HC.out)
          have HWW := Lib.hid (And.intro WW WR)
          clear WW WR h45
          go_wp2_with fail
          go_ret
          exact ⟨by rw [HWW.out.1]; exact congrArg (fun z => Ending.returned (.string z)) (by rw [cut_eq, List.drop_zero, Nat.sub_zero]), rfl⟩
    · have hlt2 : ¬ (k : Int) < (l.length : Int) := by omega
      have HC : Hid (∀ d, (l.drop k).head? = some d → isW d = false) := Lib.hid (by intro d hd; rw [List.drop_eq_nil_of_le (by omega)] at hd; simp at hd)
      obtain ⟨WW, WR⟩ := word_at HA.out HC.out
      have HWW := Lib.hid (And.intro WW WR)
      clear WW WR
      go_wp2_with fail
      go_ret
      exact ⟨by rw [HWW.out.1]; exact congrArg (fun z => Ending.returned (.string z)) (by rw [cut_eq, List.drop_zero, Nat.sub_zero]), rfl⟩
/-- A number, whatever it is if the word is none. -/
theorem parseI_num (k : List UInt8) (hk : k.length ≤ 1000000000) {w : World} (hl : Laid w) :
    Calls Tryd.prog 60 #[.string ⟨⟨k⟩⟩, .int .i64 10, .int .i64 64] w fun e w' => ∃ n ev, e = .returned (.tuple #[.int .i64 n, ev]) ∧ NumOf k n ∧ Ext w w' := by
  have hs : (⟨⟨k⟩⟩ : ByteArray).size ≤ 281474976710656 := by rw [str_size]; omega
  cases hp : parseIntB 64 k with
  | ok n =>
    refine (parseI_ok ⟨⟨k⟩⟩ hs hp).mono ?_
    rintro e w' ⟨rfl, x⟩
    exact ⟨n, _, rfl, ⟨parseI_bounds hp, fun m h => by rw [hp] at h; injection h⟩, x⟩
  | _ =>
    refine (parseI_err ⟨⟨k⟩⟩ hs (fun n e => by rw [show (⟨⟨k⟩⟩ : ByteArray).data.toList = k from rfl, hp] at e; cases e) hl).mono ?_
    rintro e w' ⟨n, T, N, hb, rfl, x⟩
    exact ⟨n, _, rfl, ⟨hb, fun m h => by rw [hp] at h; cases h⟩, x⟩
theorem parseU_num (k : List UInt8) (hk : k.length ≤ 1000000000) {w : World} (hl : Laid w) :
    Calls Tryd.prog 61 #[.string ⟨⟨k⟩⟩, .int .i64 10, .int .i64 64] w fun e w' => ∃ n ev, e = .returned (.tuple #[.int .u64 n, ev]) ∧ TagOf k n ∧ Ext w w' := by
  have hs : (⟨⟨k⟩⟩ : ByteArray).size ≤ 281474976710656 := by rw [str_size]; omega
  cases hp : parseUintB 64 k with
  | ok n =>
    refine (parseU_ok ⟨⟨k⟩⟩ hs hp).mono ?_
    rintro e w' ⟨rfl, x⟩
    have := parseU_lt hp
    exact ⟨n, _, rfl, ⟨⟨by omega, by omega⟩, fun m h => by rw [hp] at h; injection h with h; rw [h]⟩, x⟩
  | _ =>
    refine (parseU_err ⟨⟨k⟩⟩ hs (fun n e => by rw [show (⟨⟨k⟩⟩ : ByteArray).data.toList = k from rfl, hp] at e; cases e) hl).mono ?_
    rintro e w' ⟨n, T, N, hb, rfl, x⟩
    exact ⟨n, _, rfl, ⟨hb, fun m h => by rw [hp] at h; cases h⟩, x⟩
end Go.Proofs.YtgpegcjgmoiglaaDoor
