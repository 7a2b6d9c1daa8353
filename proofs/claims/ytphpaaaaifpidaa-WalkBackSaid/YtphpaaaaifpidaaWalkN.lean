/- joinerylaw35's alive. -/
import Derived.Test.YtphpaaaaifpidaaWalkM
namespace Go.Proofs.Ytphpaaaaifpidaa
open Go.RowKit
set_option linter.unusedVariables false

/-- What is kept, and what came since. -/
def More (P : Nat → Prop) (w w' : World) (b : Nat) : Prop := P b ∨ (w.heap.size ≤ b ∧ b < w'.heap.size)
section
variable {P : Nat → Prop} {a : A} {p p' : Int} {w w' : World} {B : Nat}
theorem More.lt (h : ∀ b, P b → b < w.heap.size) (x : w.heap.size ≤ w'.heap.size) : ∀ b, More P w w' b → b < w'.heap.size := by
  rintro b (h1 | ⟨_, h1⟩)
  · have := h b h1; omega
  · exact h1
theorem Wks.more (h : Wks P w B a p) (x : Ext w w') : Wks (More P w w') w' B a p := by
  obtain ⟨s, h1, sv, h2, h3, h4, h5⟩ := h
  refine ⟨s, h1, sv, h2.ext x, h3.ext x, fun k hk => ⟨?_, (h4 k hk).2⟩, ?_⟩
  · have := h3.lt k hk
    rintro (h | ⟨h, _⟩)
    · exact (h4 k hk).1 h
    · omega
  · have := h2.lt
    rintro (h | ⟨h, _⟩)
    · exact h5 h
    · omega
theorem AP.more (h : AP P w a) (x : Ext w w') : AP (More P w w') w' a := (h.keep (x.keep P)).sub (fun k _ hk => .inl hk)
theorem next_is {r : Bool} (hk : Wks P w B a p) (ha : AP P w a) (hP : ∀ b, P b → b < w.heap.size) (hm : a.size ≤ 100000) (h1 : moveI a.size true p = p') (h2 : (decide (0 ≤ p' ∧ p' < (a.size : Int)) && decide (p' ≠ p)) = r) :
    Calls Try.prog 28 #[.pointer (some ⟨B, 0, none⟩)] w fun e w' => e = .returned (.bool r) ∧ Wks P w' B a p' ∧ Keep P w w' := by
  subst h1 h2; exact next_any hk ha hP hm
theorem prev_is {r : Bool} (hk : Wks P w B a p) (ha : AP P w a) (hP : ∀ b, P b → b < w.heap.size) (hm : a.size ≤ 100000) (h1 : moveI a.size false p = p') (h2 : (decide (0 ≤ p' ∧ p' < (a.size : Int)) && decide (p' ≠ p)) = r) :
    Calls Try.prog 26 #[.pointer (some ⟨B, 0, none⟩)] w fun e w' => e = .returned (.bool r) ∧ Wks P w' B a p' ∧ Keep P w w' := by
  subst h1 h2; exact prev_any hk ha hP hm
theorem go_is {k : Int} (hk : Wks P w B a p) (ha : AP P w a) (hP : ∀ b, P b → b < w.heap.size) (hm : a.size ≤ 100000) (hr : InR k) (h1 : clampI a.size (p + k) = p') :
    Calls Try.prog 30 #[.pointer (some ⟨B, 0, none⟩), .int .i64 k] w fun e w' => e = .returned (.int .i64 0) ∧ Wks P w' B a p' ∧ Keep P w w' := by
  subst h1; exact go_any hk ha hP hm hr
theorem here_is {v : Value} (hk : Wks P w B a p) (ha : AP P w a) (hm : a.size ≤ 100000) (hv : hereP a.tree.pairs p = v) : Calls Try.prog 29 #[.pointer (some ⟨B, 0, none⟩)] w fun e w' => e = .returned v ∧ Ext w w' := by
  subst hv; exact here_any hk ha hm
theorem from_is {o : Nat} {oi key : Int} (h1 : 1 ≤ o) (h2 : o ≤ 7) (hoi : (o : Int) = oi) (ha : AP (fun b => b < w.heap.size) w a) (hm : a.size ≤ 100000) (hk : KeysR a.tree) (hkey : InR key) (hp : fromP (fun k => cmpK o key k) a.tree = p) :
    Calls Try.prog 31 #[.int .u8 oi, .pointer a.ptr, .int .i64 key] w fun e w' => ∃ B, e = .returned (.pointer (some ⟨B, 0, none⟩)) ∧ NewW w w' B a p := by
  subst hoi hp; exact from_any h1 h2 ha hm hk hkey
end
set_option maxRecDepth 100000 in
set_option maxHeartbeats 8000000 in
theorem alive35 (w : World) : Calls Try.prog 23 #[] w fun e w' => e = .returned (.bool true) ∧ Ext w w' := by
  have q0 := fun b => eql_walk b
  go_enter Try.func23, Try.ntmps23
  go_wp2_with fail
  refine (new_any (l := .nil) (r := .nil) 1 10 0 rfl rfl).mono ?_; rintro e w1 ⟨u1, rfl, x1, b1, rfl, hb1, at1⟩
  have t1 : Tr w1 (.pointer (some ⟨b1, 0, none⟩)) (.node 1 10 0 .nil .nil) := ⟨b1, _, _, rfl, at1, rfl, rfl⟩
  go_wp2_with fail
  refine (new_any (r := .nil) 3 30 0 t1 rfl).mono ?_; rintro e w2 ⟨u2, rfl, x2, b2, rfl, hb2, at2⟩
  obtain ⟨a, haa, haz⟩ : ∃ a : A, a = .node b2 3 30 0 (.node b1 1 10 0 .nil .nil) .nil ∧ AP (fun b => b < w2.heap.size) w2 a := ⟨_, rfl, Blk.lt at2, at2, ⟨Blk.lt (at1.ext x2), at1.ext x2, trivial, trivial⟩, trivial⟩
  have hsz : a.size = 2 := by subst haa; rfl
  have htr : a.tree = .node 3 30 0 (.node 1 10 0 .nil .nil) .nil := by subst haa; rfl
  have hptr : a.ptr = some ⟨b2, 0, none⟩ := by subst haa; rfl
  have hpairs : a.tree.pairs = [(1, 10), (3, 30)] := by rw [htr]; rfl
  have FR := from_is (o := 1) (key := 2) (p := 1) (by decide) (by decide) rfl haz (by omega) (by rw [htr]; simp [KeysR, InR]) (by simp [InR]) (by rw [htr]; decide)
  rw [hptr] at FR
  have z2 := Lib.hid (x1.trans x2)
  have HZ := Lib.hid hsz
  have HP := Lib.hid hpairs
  have HA := Lib.hid haz
  clear x1 x2 t1 at1 at2 hb1 hb2 haa hptr htr hpairs hsz haz
  go_wp2_with fail
  refine FR.mono ?_; rintro e w3 ⟨B, rfl, x3, k3⟩
  clear FR
  have q := q0 B
  go_wp2_with fail
  refine (next_none _).mono ?_; rintro e w' ⟨rfl, rfl⟩
  go_wp2_with fail
  refine (prev_none _).mono ?_; rintro e w' ⟨rfl, rfl⟩
  go_wp2_with fail
  refine (place_none _).mono ?_; rintro e w' ⟨rfl, rfl⟩
  go_wp2_with fail
  refine (copy_none _).mono ?_; rintro e w' ⟨rfl, rfl⟩
  go_wp2_with fail
  refine (go_none 1 _).mono ?_; rintro e w' ⟨rfl, rfl⟩
  go_wp2_with fail
  have hP3 : ∀ b, b < w2.heap.size → b < w'.heap.size := fun b hb => Nat.lt_of_lt_of_le hb x3.size
  have hm : a.size ≤ 100000 := by have := HZ.out; omega
  have hl2 : (a.tree.pairs.length : Int) = 2 := by rw [HP.out]; rfl
  have A3 := HA.out.keep (x3.keep _)
  refine (here_is k3 A3 hm (v := .tuple #[.agg #[.int .i64 3, .int .i64 30], .bool true]) (by rw [HP.out]; rfl)).mono ?_; rintro e w4 ⟨rfl, x4⟩
  clear hm hl2
  go_wp2_with fail
  -- the pair's block is kept from here on
  have x5 := x4.alloc (.cells #[.int .i64 3, .int .i64 30] 48)
  have b5 := Blk.new w4 48 #[.int .i64 3, .int .i64 30]
  have hQ : More (fun b => b < w2.heap.size) w' (w4.alloc (.cells #[.int .i64 3, .int .i64 30] 48)) w4.heap.size := .inr ⟨x4.size, by simp⟩
  have k5 := Wks.more k3 x5
  have A5 := AP.more A3 x5
  have hP5 := More.lt hP3 x5.size
  have y5 := x3.trans x5
  have HS2 : ∀ b, b < w2.heap.size → More (fun b => b < w2.heap.size) w' (w4.alloc (.cells #[.int .i64 3, .int .i64 30] 48)) b := fun b hb => .inl hb
  clear k3 A3 hP3 x3 x4 x5
  generalize More (fun b => b < w2.heap.size) w' (w4.alloc (.cells #[.int .i64 3, .int .i64 30] 48)) = P5 at *
  generalize w4.alloc (.cells #[.int .i64 3, .int .i64 30] 48) = w5 at *
  generalize w4.heap.size = p5 at *
  have e1 : moveI 2 false 1 = 0 := by decide
  have e2 : moveI 2 false 0 = -1 := by decide
  have e3 : moveI 2 true (-1) = 0 := by decide
  have e4 : clampI 2 (0 + 5) = 2 := by decide
  have h2 : hereP [(1, 10), (3, 30)] 0 = .tuple #[.agg #[.int .i64 1, .int .i64 10], .bool true] := rfl
  have E := Lib.hid (And.intro e1 (And.intro e2 (And.intro e3 (And.intro e4 h2))))
  clear e1 e2 e3 e4 h2
  have HM : Hid (a.size ≤ 100000) := Lib.hid (by have := HZ.out; omega)
  refine (place_any k5).mono ?_; rintro e w' ⟨rfl, rfl⟩
  go_wp2_with fail
  refine (prev_is k5 A5 hP5 HM.out (p' := 0) (r := true) (by rw [HZ.out]; exact E.out.1) (by rw [HZ.out]; decide)).mono ?_; rintro e w6 ⟨rfl, k6, y6⟩
  have A6 := A5.keep y6
  have hP6 : ∀ b, P5 b → b < w6.heap.size := fun b hb => Nat.lt_of_lt_of_le (hP5 b hb) y6.size
  go_wp2_with fail
  refine (prev_is k6 A6 hP6 HM.out (p' := -1) (r := false) (by rw [HZ.out]; exact E.out.2.1) (by rw [HZ.out]; decide)).mono ?_; rintro e w7 ⟨rfl, k7, y7⟩
  have A7 := A6.keep y7
  have hP7 : ∀ b, P5 b → b < w7.heap.size := fun b hb => Nat.lt_of_lt_of_le (hP6 b hb) y7.size
  go_wp2_with fail
  refine (place_any k7).mono ?_; rintro e w' ⟨rfl, rfl⟩
  go_wp2_with fail
  refine (next_is k7 A7 hP7 HM.out (p' := 0) (r := true) (by rw [HZ.out]; exact E.out.2.2.1) (by rw [HZ.out]; decide)).mono ?_; rintro e w8 ⟨rfl, k8, y8⟩
  have A8 := A7.keep y8
  have hP8 : ∀ b, P5 b → b < w8.heap.size := fun b hb => Nat.lt_of_lt_of_le (hP7 b hb) y8.size
  have y58 := (y6.trans y7).trans y8
  have b8 := y58.blk b5 hQ
  have z8 := y58.ext y5 HS2
  clear k5 k6 k7 y6 y7 y8 A5 A6 A7 hP5 hP6 hP7 b5 y5 y58
  go_wp2_with fail
  refine (here_is k8 A8 HM.out (v := .tuple #[.agg #[.int .i64 1, .int .i64 10], .bool true]) (by rw [HP.out]; exact E.out.2.2.2.2)).mono ?_; rintro e w9 ⟨rfl, x9⟩
  go_wp2_with fail
  have x5 := x9.alloc (.cells #[.int .i64 1, .int .i64 10] 48)
  have b9 := Blk.new w9 48 #[.int .i64 1, .int .i64 10]
  have hQ9 : More P5 w8 (w9.alloc (.cells #[.int .i64 1, .int .i64 10] 48)) w9.heap.size := .inr ⟨x9.size, by simp⟩
  have hQ5 : More P5 w8 (w9.alloc (.cells #[.int .i64 1, .int .i64 10] 48)) p5 := .inl hQ
  have k9 := Wks.more k8 x5
  have A9 := AP.more A8 x5
  have hP9 := More.lt hP8 x5.size
  have z9 := z8.trans x5
  have b5 := b8.ext x5
  have HS9 : ∀ b, b < w2.heap.size → More P5 w8 (w9.alloc (.cells #[.int .i64 1, .int .i64 10] 48)) b := fun b hb => .inl (HS2 b hb)
  clear b8 k8 A8 hP8 x9 x5 z8 HS2 hQ
  generalize More P5 w8 (w9.alloc (.cells #[.int .i64 1, .int .i64 10] 48)) = P9 at *
  generalize w9.alloc (.cells #[.int .i64 1, .int .i64 10] 48) = wA at *
  generalize w9.heap.size = p9 at *
  refine (go_is (k := 5) k9 A9 hP9 HM.out (p' := 2) (by simp [InR]) (by rw [HZ.out]; exact E.out.2.2.2.1)).mono ?_; rintro e wB ⟨rfl, kB, yB⟩
  have b5 := yB.blk b5 hQ5
  have b9 := yB.blk b9 hQ9
  have zB := yB.ext z9 HS9
  clear k9 A9 hP9 z9 yB
  go_wp2_with fail
  refine (here_none _).mono ?_; rintro e wC ⟨rfl, xC⟩
  have xD := xC.alloc (.cells #[.int .i64 0, .int .i64 0] 48)
  have kD := Lib.hid (kB.ext xD)
  have b5 := b5.ext xD
  have b9 := b9.ext xD
  have zD := zB.trans xD
  have c0 := b5.cell 0
  have c1 := b5.cell 1
  have d0 := b9.cell 0
  have d1 := b9.cell 1
  clear kB b5 b9 xC xD zB
  go_wp2_with fail
  refine (place_any kD.out).mono ?_; rintro e w' ⟨rfl, rfl⟩
  go_wp2_with fail
  go_ret
  exact ⟨rfl, z2.out.trans zD⟩
end Go.Proofs.Ytphpaaaaifpidaa
