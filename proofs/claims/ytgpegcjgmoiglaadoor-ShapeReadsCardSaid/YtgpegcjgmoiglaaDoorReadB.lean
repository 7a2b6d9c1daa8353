/- Package shape: a reader takes a word. -/
import Derived.Test.YtgpegcjgmoiglaaDoorReadA
namespace Go.Proofs.YtgpegcjgmoiglaaDoor
open Go.RowKit Go.Lib
set_option linter.unusedVariables false

theorem word_at {l : List UInt8} {k : Nat} (h : ∀ d ∈ l.take k, isW d = true) (hs : ∀ c, (l.drop k).head? = some c → isW c = false) : wordL l = l.take k ∧ restL l = l.drop k := by
  have := word_app h hs
  rwa [List.take_append_drop] at this
theorem at_byte {l : List UInt8} {k : Nat} {c : UInt8} (h : l[k]? = some c) : ∀ hh : k < (⟨⟨l⟩⟩ : ByteArray).size, (⟨⟨l⟩⟩ : ByteArray)[k] = c := by
  intro hh
  obtain ⟨h1, h2⟩ := List.getElem?_eq_some_iff.1 h
  exact h2
theorem isW_no {c : UInt8} (h1 : ¬ (c.toNat : Int) = 45) (h2 : ¬ (48 ≤ (c.toNat : Int) ∧ (c.toNat : Int) ≤ 57)) : isW c = false := by
  unfold isW
  have e1 : (c == 45) = false := by
    rw [beq_eq_false_iff_ne]
    intro e; subst e; exact h1 rfl
  rw [e1, Bool.false_or, Bool.and_eq_false_iff]
  by_cases h : 48 ≤ c.toNat
  · right; simp; omega
  · left; simp; omega
theorem isW_45 {c : UInt8} (h1 : (c.toNat : Int) = 45) : isW c = true := by
  have : c = 45 := UInt8.toNat_inj.1 (by show c.toNat = 45; omega)
  rw [this]; rfl
theorem isW_dig {c : UInt8} (h1 : 48 ≤ (c.toNat : Int)) (h2 : (c.toNat : Int) ≤ 57) : isW c = true := by
  unfold isW
  have e1 : decide (48 ≤ c.toNat) = true := by simp; omega
  have e2 : decide (c.toNat ≤ 57) = true := by simp; omega
  rw [e1, e2]; simp
theorem take_next {l : List UInt8} {k : Nat} {c : UInt8} (h : ∀ d ∈ l.take k, isW d = true) (hx : l[k]? = some c) (hc : isW c = true) : ∀ d ∈ l.take (k + 1), isW d = true := by
  intro d hd
  rw [List.take_add_one, hx] at hd
  rcases List.mem_append.1 hd with hd | hd
  · exact h d hd
  · simp at hd; rw [hd]; exact hc
theorem head_at {l : List UInt8} {k : Nat} {c : UInt8} (hx : l[k]? = some c) (hc : isW c = false) : ∀ d, (l.drop k).head? = some d → isW d = false := by
  intro d hd
  rw [List.head?_drop, hx] at hd
  simp at hd; rw [← hd]; exact hc
set_option maxRecDepth 100000 in
set_option maxHeartbeats 4000000 in
theorem word_any {w : World} {R : Nat} {l : List UInt8} {m : Int} (h : Rd w R l m) (hm : l.length ≤ 1000000000) :
    Calls Tryd.prog 70 #[.pointer (some ⟨R, 0, none⟩)] w fun e w' => e = .returned (.string ⟨⟨wordL l⟩⟩) ∧ w' = w.setCell ⟨R, 0, none⟩ (.string ⟨⟨restL l⟩⟩) := by
  have c0 := h.cell 0
  have f0 := h.frozen 0
  have HM := Lib.hid hm
  clear hm
  go_enter Tryd.func70, Tryd.ntmps70
  go_wp2_with fail
  go_step3
  go_wp2_with fail
  go_step3
  go_wp2_with fail
  go_loopw [3] (fun kv wr => ∃ k : Nat, k ≤ l.length ∧ kv = .int .i64 (k : Int) ∧ (∀ d ∈ l.take k, isW d = true) ∧ wr = w) (fun kv _ => l.length - (RowKit.intOf kv).toNat)
  case atStart => exact ⟨0, Nat.zero_le _, rfl, by simp, rfl⟩
  case round =>
    obtain ⟨k, hk, rfl, hall, rfl⟩ := hrel
    have HA := Lib.hid hall
    clear hall
    by_cases hlt : k < l.length
    · obtain ⟨c, hx⟩ : ∃ c, l[k]? = some c := ⟨l[k], List.getElem?_eq_getElem hlt⟩
      have HX := Lib.hid hx
      have hb := at_byte hx
      clear hx
      have hk9 : k ≤ 1000000000 := by have := HM.out; omega
      have hlt2 : (k : Int) < (l.length : Int) := by omega
      by_cases h45 : (c.toNat : Int) = 45
      · have HC := Lib.hid (isW_45 h45)
        go_wp2_with fail
        exact ⟨⟨k + 1, by omega, by go_num, take_next HA.out HX.out HC.out, trivial⟩, by simp only [RowKit.intOf]; omega⟩
      · by_cases h48 : 48 ≤ (c.toNat : Int)
        · by_cases h57 : (c.toNat : Int) ≤ 57
          · have HC := Lib.hid (isW_dig h48 h57)
            go_wp2_with fail
            exact ⟨⟨k + 1, by omega, by go_num, take_next HA.out HX.out HC.out, trivial⟩, by simp only [RowKit.intOf]; omega⟩
          · have HC := Lib.hid (isW_no h45 (by omega))
            obtain ⟨WW, WR⟩ := word_at HA.out (head_at HX.out HC.out)
            have HWW := Lib.hid (And.intro WW WR)
            clear WW WR
            go_wp2_with fail
            try rw [Exit.noGoto_ret]
            go_ret
            rw [HWW.out.1, HWW.out.2]
            exact ⟨by rw [show (⟨⟨l.take k⟩⟩ : ByteArray) = (⟨⟨l⟩⟩ : ByteArray).extract 0 k from by rw [cut_eq, List.drop_zero, Nat.sub_zero]]; rfl, by rw [cut_eq, List.take_of_length_le (by simp)]⟩
        · have HC := Lib.hid (isW_no h45 (by omega))
          obtain ⟨WW, WR⟩ := word_at HA.out (head_at HX.out HC.out)
          have HWW := Lib.hid (And.intro WW WR)
          clear WW WR
          go_wp2_with fail
          try rw [Exit.noGoto_ret]
          go_ret
          rw [HWW.out.1, HWW.out.2]
          exact ⟨by rw [show (⟨⟨l.take k⟩⟩ : ByteArray) = (⟨⟨l⟩⟩ : ByteArray).extract 0 k from by rw [cut_eq, List.drop_zero, Nat.sub_zero]]; rfl, by rw [cut_eq, List.take_of_length_le (by simp)]⟩
    · have hlt2 : ¬ (k : Int) < (l.length : Int) := by omega
      have HC : Hid (∀ d, (l.drop k).head? = some d → isW d = false) := Lib.hid (by intro d hd; rw [List.drop_eq_nil_of_le (by omega)] at hd; simp at hd)
      obtain ⟨WW, WR⟩ := word_at HA.out HC.out
      have HWW := Lib.hid (And.intro WW WR)
      clear WW WR
      go_wp2_with fail
      try rw [Exit.noGoto_ret]
      go_ret
      rw [HWW.out.1, HWW.out.2]
      exact ⟨by rw [show (⟨⟨l.take k⟩⟩ : ByteArray) = (⟨⟨l⟩⟩ : ByteArray).extract 0 k from by rw [cut_eq, List.drop_zero, Nat.sub_zero]]; rfl, by rw [cut_eq, List.take_of_length_le (by simp)]⟩
end Go.Proofs.YtgpegcjgmoiglaaDoor
