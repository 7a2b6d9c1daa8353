/- Package walk: down. -/
import Derived.Test.YtphpaaaaifpidaaWalkA
import Derived.Deep.LoopGhost
namespace Go.Proofs.Ytphpaaaaifpidaa
open Go.RowKit
set_option linter.unusedVariables false

theorem neq_ptr {P : Nat → Prop} {w0 : World} {a : A} (h : AP P w0 a) : ∀ w : World, (binOp .neq 26 (.pointer a.ptr) (.pointer none)).run Try.prog w = .ok (.bool a.some) w := by
  have := neq_nil h.tr
  rwa [A.some_tree] at this
theorem spine_nil (d : Bool) : spine d .nil = [] := rfl
theorem spine_step {d : Bool} {n : A} (h : n.some = true) : spine d n = (n, d) :: spine d (n.side d) := by
  cases n with
  | nil => cases h
  | node b k x g l r => cases d <;> rfl
theorem side_size {d : Bool} {n : A} (h : n.some = true) : (n.side d).size < n.size := by
  cases n with
  | nil => cases h
  | node b k x g l r => cases d <;> simp only [A.side, A.size, if_true, Bool.false_eq_true, if_false] <;> omega
theorem Wk.keepB {P : Nat → Prop} {w w' : World} {B : Nat} {a : A} {s : List (A × Bool)} {p : Int} (h : Wk P w B a s p) (x : Ext w w') : Wk P w' B a s p := by
  obtain ⟨sv, h1, h2, h3, h4⟩ := h
  exact ⟨sv, h1.ext x, h2.ext x, h3, h4⟩

set_option maxRecDepth 100000 in
set_option maxHeartbeats 4000000 in
theorem down_any {P : Nat → Prop} {a n : A} {s : List (A × Bool)} {p : Int} {w : World} {B : Nat} (hk : Wk P w B a s p) (hn : AP P w n) (hP : ∀ b, P b → b < w.heap.size) (hm : s.length + n.size ≤ 1000000) (d : Bool) :
    Calls Try.prog 60 #[.pointer (some ⟨B, 0, none⟩), .pointer n.ptr, .bool d] w fun e w' => e = .returned (.tuple #[]) ∧ Wk P w' B a (s ++ spine d n) p ∧ Keep P w w' := by
  have hcf := side_call d
  have hc : ∀ v : Value, ∀ w : World, (Instr.field 97 (.agg #[v]) 0).run Try.prog w = .ok v w := to_field
  go_enter Try.func60, Try.ntmps60
  go_wp2_with fail
  go_loopg [1] n.size (fun g nv wr => ∃ (m : A) (q : List (A × Bool)), g = m.size ∧ nv = .pointer m.ptr ∧ q ++ spine d m = s ++ spine d n ∧ Wk P wr B a q p ∧ AP P wr m ∧ Keep P w wr ∧ q.length + m.size ≤ 1000000)
  case atStart => exact ⟨n, s, rfl, rfl, rfl, hk, hn, Keep.refl P w, hm⟩
  case round =>
    obtain ⟨m, q, rfl, rfl, hq, hk2, hm2, hkp, hl⟩ := hrel
    have hne := neq_ptr hm2
    have HQ := Lib.hid hq
    have HM := Lib.hid hm2
    have HK := Lib.hid hkp
    have HL := Lib.hid hl
    clear hq hkp hl hm hk hn
    cases hs : m.some with
    | false =>
      rw [hs] at hne
      have hq := HQ.out
      cases m with
      | node => cases hs
      | nil =>
        rw [spine_nil, List.append_nil] at hq
        have HQ2 := Lib.hid hq
        clear hq
        go_wp2_with fail
        exact bodyPost_end (v := .tuple #[]) (by simp [results, Try.results60, go_sem]) rfl ⟨rfl, by rw [← HQ2.out]; exact hk2, HK.out⟩
    | true =>
      rw [hs] at hne
      obtain ⟨sv, hb, ho, hd, hPB⟩ := hk2
      obtain ⟨AA, cc, rfl, hcc, hrr⟩ := ho.sl ES_len (by omega)
      have c1 := hb.cell 1
      have f1 := hb.frozen 1
      have hlt := hb.lt
      have hlen : q.length + 1 ≤ 1000000 := by have := HL.out; have := side_size (d := d) hs; omega
      have x0 := (Ext.refl wr).alloc (.cells #[.pointer m.ptr, .bool d] 93)
      have h1 : q.length + [(m, d)].length ≤ maxLen := by simp [maxLen]; omega
      have h2 : (q.length + [(m, d)].length) * 16 ≤ 140737488355328 := by simp; omega
      have H12 := Lib.hid (And.intro h1 h2)
      have HO := Lib.hid ho
      have HB := Lib.hid hb
      have HD := Lib.hid hd
      have HPB := Lib.hid hPB
      have HN := Lib.hid (And.intro (side_size (d := d) hs) (spine_step (d := d) hs))
      clear h1 h2 hlen ho hcc hrr hd hPB hb
      go_wp2_with (at_builtin; refine wpList_app stopE rfl (.tmp 17) (.tmp 21) rfl rfl rfl (HO.out.ext x0) (lit_sl (enc := ES) (m, d) rfl) H12.out.1 H12.out.2 (Nat.zero_le _) ?_; intro v3 w3 o3 a3; have b3 := (HB.out.alloc (.cells #[.pointer m.ptr, .bool d] 93)).grown a3.1 (fun e => (HD.out B e.symm).2 rfl); have f3 := b3.frozen 1; have k3 := b3.cell 1; have O3 := Lib.hid o3; obtain ⟨A3, c3, rfl, hc3, hr3⟩ := o3.sl ES_len (by omega); clear o3 hc3 hr3)
      have y3 : Keep P w w3 := (HK.out.alloc _).grown a3.1 (fun k hk => (HD.out k hk).1)
      have y4 : Keep P w (w3.setCell ⟨B, 1, none⟩ (.slice A3 (q.length + 1) c3)) := y3.set HPB.out _
      refine (to_any d _).mono ?_; rintro e w5 ⟨rfl, x5⟩
      have y5 := y4.trans (x5.keep P)
      go_wp2_with fail
      have SD := side_any (d := d) (HM.out.keep ((((Keep.refl P wr).alloc _).grown a3.1 (fun k hk => (HD.out k hk).1) |>.set HPB.out _).trans (x5.keep P)))
      refine SD.mono ?_; rintro e w' ⟨rfl, rfl⟩
      go_wp2_with fail
      go_roundg (m.side d).size
      case measure => exact HN.out.1
      case rel =>
        have hown : ∀ k, (Value.slice A3 (q.length + 1) c3).ownBlock = some k → ¬ P k ∧ k ≠ B := by
          intro k hk
          have a32 := a3.2
          rw [show (q ++ [(m, d)]).length = q.length + 1 from by simp] at a32
          rcases a32 with h | h
          · exact HD.out k (h.symm.trans hk)
          · have := hk.symm.trans h
            simp at this
            have h9 := HK.out.size
            exact ⟨fun hp => by have := hP k hp; omega, by omega⟩
        have O4 : Own ES 93 2 0 w3 (.slice A3 (q.length + 1) c3) (q ++ [(m, d)]) := by have := O3.out; rwa [show (q ++ [(m, d)]).length = q.length + 1 from by simp] at this
        refine ⟨m.side d, q ++ [(m, d)], rfl, rfl, by have := HQ.out; rw [HN.out.2] at this; simpa using this, ?_, ?_, y5, by have := HL.out; have := HN.out.1; simp; omega⟩
        · refine Wk.keepB ⟨.slice A3 (q.length + 1) c3, b3.set 1 _, O4.same (fun k hk => ?_), hown, HPB.out⟩ x5
          exact Below.heap_setCell w3 ⟨B, 1, none⟩ _ k (hown k hk).2
        · exact ((HM.out.side d).keep ((((Keep.refl P wr).alloc _).grown a3.1 (fun k hk => (HD.out k hk).1) |>.set HPB.out _).trans (x5.keep P)))
end Go.Proofs.Ytphpaaaaifpidaa
