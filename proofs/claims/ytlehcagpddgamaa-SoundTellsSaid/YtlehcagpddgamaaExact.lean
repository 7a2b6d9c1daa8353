/- Package sound: Exact, end. -/
import Derived.Test.YtlehcagpddgamaaRef02
import Derived.Test.YtlehcagpddgamaaMake
import Derived.Deep.LoopGhost
namespace Go.Proofs.Ytlehcagpddgamaa
open Go.RowKit

theorem at_tr {w : World} {b : Nat} {k x g : Int} {l r : T} {vl vr : Value} (h : At w b k x g l r vl vr) (hl : Tr w vl l) (hr : Tr w vr r) : Tr w (.pointer (some ⟨b, 0, none⟩)) (.node k x g l r) := ⟨b, vl, vr, rfl, h, hl, hr⟩
theorem nil_tr12 (w : World) : Tr w (.pointer none) .nil := rfl
theorem short12 {l : List Bead} (h : (decide (400 < l.length) || !mayL l) = false) : l.length ≤ 400 ∧ ∃ t, Ser l t ∧ t.size ≤ 400 ∧ t.height ≤ 400 := by
  simp only [Bool.or_eq_false_iff, decide_eq_false_iff_not, Bool.not_eq_false'] at h
  obtain ⟨t, ht⟩ := mayL_ser h.2
  have := ht.length
  have := t.height_le_size
  exact ⟨by omega, t, ht, by omega, by omega⟩
theorem size_is12 {t : T} {v : Value} {w : World} {n : Int} (h : Tr w v t) (hn : wrap64 (t.size : Int) = n) : Calls Try.prog 40 #[v] w fun e w' => e = .returned (.int .i64 n) ∧ Ext w w' := by subst hn; exact size_any h
theorem sum_is12 {t : T} {v : Value} {w : World} {n : Int} (h : Tr w v t) (hn : wrap64 t.sum = n) : Calls Try.prog 41 #[v] w fun e w' => e = .returned (.int .i64 n) ∧ Ext w w' := by subst hn; exact sum_any h
set_option maxRecDepth 100000 in
set_option maxHeartbeats 4000000 in
theorem exact_any (t : T) : ∀ {v : Value} {w : World}, Tr w v t → Calls Try.prog 108 #[v] w fun e w' => e = .returned (.bool true) ∧ Ext w w' := by
  induction t with
  | nil =>
    intro v w h
    obtain rfl : v = .pointer none := h
    go_enter Try.func108, Try.ntmps108
    go_wp2_with fail
    go_ret
    exact ⟨rfl, Ext.refl w⟩
  | node k x g a b iha ihb =>
    intro v w h
    have h0 := h
    obtain ⟨bn, vl, vr, rfl, hat, hl, hr⟩ := h
    obtain ⟨pl, rfl⟩ := hl.ptr
    obtain ⟨pr, rfl⟩ := hr.ptr
    have LE := left_at hat
    have RE := right_at hat
    have e1 : wrap64 (wrap64 (wrap64 (a.size : Int) + 1) + wrap64 (b.size : Int)) = wrap64 ((T.node k x g a b).size : Int) := by
      rw [wrap_add]; congr 1
    have e2 : wrap64 (wrap64 (wrap64 a.sum + x) + wrap64 b.sum) = wrap64 (T.node k x g a b).sum := by
      rw [wrap_add]; rfl
    have SZ := Lib.hid (fun (W : World) (X : Ext w W) => size_any (h0.ext X))
    have SA := Lib.hid (fun (W : World) (X : Ext w W) => size_any (hl.ext X))
    have SB := Lib.hid (fun (W : World) (X : Ext w W) => size_any (hr.ext X))
    have UZ := Lib.hid (fun (W : World) (X : Ext w W) => sum_any (h0.ext X))
    have UA := Lib.hid (fun (W : World) (X : Ext w W) => sum_any (hl.ext X))
    have UB := Lib.hid (fun (W : World) (X : Ext w W) => sum_any (hr.ext X))
    have VZ := Lib.hid (show ∀ W : World, Ext w W → Calls Try.prog 131 #[.pointer (some ⟨bn, 0, none⟩)] W fun e w' => e = .returned (.int .i64 x) ∧ Ext W w' from fun W X => val_any (h0.ext X))
    have EA := Lib.hid (fun (W : World) (X : Ext w W) => iha (hl.ext X))
    have EB := Lib.hid (fun (W : World) (X : Ext w W) => ihb (hr.ext X))
    generalize wrap64 ((T.node k x g a b).size : Int) = sz at *
    generalize wrap64 (a.size : Int) = sa at *
    generalize wrap64 (b.size : Int) = sb at *
    generalize wrap64 (T.node k x g a b).sum = uz at *
    generalize wrap64 a.sum = ua at *
    generalize wrap64 b.sum = ub at *
    have z := Ext.refl w
    clear h0 hat hl hr iha ihb
    go_enter Try.func108, Try.ntmps108
    go_wp2_with fail
    refine LE.mono ?_; rintro e w' ⟨rfl, rfl⟩
    go_wp2_with fail
    refine RE.mono ?_; rintro e w' ⟨rfl, rfl⟩
    go_wp2_with fail
    refine (SZ.out _ z).mono ?_; rintro e w1 ⟨rfl, x1⟩
    have z := z.trans x1
    go_wp2_with fail
    refine (SA.out _ z).mono ?_; rintro e w2 ⟨rfl, x2⟩
    have z := z.trans x2
    go_wp2_with fail
    refine (SB.out _ z).mono ?_; rintro e w3 ⟨rfl, x3⟩
    have z := z.trans x3
    clear x1 x2 x3
    go_wp2_with fail
    refine (UZ.out _ z).mono ?_; rintro e w4 ⟨rfl, x4⟩
    have z := z.trans x4
    go_wp2_with fail
    refine (UA.out _ z).mono ?_; rintro e w5 ⟨rfl, x5⟩
    have z := z.trans x5
    go_wp2_with fail
    refine (VZ.out _ z).mono ?_; rintro e w6 ⟨rfl, x6⟩
    have z := z.trans x6
    go_wp2_with fail
    refine (UB.out _ z).mono ?_; rintro e w7 ⟨rfl, x7⟩
    have z := z.trans x7
    clear x4 x5 x6 x7
    go_wp2_with fail
    refine (EA.out _ z).mono ?_; rintro e w8 ⟨rfl, x8⟩
    have z := z.trans x8
    go_wp2_with fail
    refine (EB.out _ z).mono ?_; rintro e w9 ⟨rfl, x9⟩
    have z := z.trans x9
    go_wp2_with fail
    go_ret
    exact ⟨rfl, z⟩
/-- A tree's last node, and its first one. -/
def T.lastT : T → T
  | .nil => .nil
  | .node k x g l .nil => .node k x g l .nil
  | .node _ _ _ _ (.node k x g l r) => T.lastT (.node k x g l r)
def T.firstT : T → T
  | .nil => .nil
  | .node k x g .nil r => .node k x g .nil r
  | .node _ _ _ (.node k x g l r) _ => T.firstT (.node k x g l r)
def T.rest : T → T
  | .nil => .nil
  | .node _ _ _ _ r => r
def T.fore : T → T
  | .nil => .nil
  | .node _ _ _ l _ => l
theorem right_val {t : T} {v : Value} {w : World} (h : Tr w v t) : ∃ p, Tr w (.pointer p) t.rest ∧ Calls Try.prog 38 #[v] w fun e w' => e = .returned (.pointer p) ∧ w = w' := by
  cases t with
  | nil => obtain rfl : v = .pointer none := h; exact ⟨none, rfl, right_nil w⟩
  | node k x g l r =>
    obtain ⟨b, vl, vr, rfl, hat, hl, hr⟩ := h
    obtain ⟨pl, rfl⟩ := hl.ptr
    obtain ⟨pr, rfl⟩ := hr.ptr
    exact ⟨pr, hr, right_at hat⟩
theorem left_val {t : T} {v : Value} {w : World} (h : Tr w v t) : ∃ p, Tr w (.pointer p) t.fore ∧ Calls Try.prog 37 #[v] w fun e w' => e = .returned (.pointer p) ∧ w = w' := by
  cases t with
  | nil => obtain rfl : v = .pointer none := h; exact ⟨none, rfl, left_nil w⟩
  | node k x g l r =>
    obtain ⟨b, vl, vr, rfl, hat, hl, hr⟩ := h
    obtain ⟨pl, rfl⟩ := hl.ptr
    obtain ⟨pr, rfl⟩ := hr.ptr
    exact ⟨pl, hl, left_at hat⟩
theorem last_rest {t : T} (h : t.rest.some = true) : t.rest.lastT = t.lastT := by
  cases t with
  | nil => cases h
  | node k x g l r => cases r with
    | nil => cases h
    | node => rfl
theorem last_end {t : T} (h : t.rest.some = false) : t.lastT = t := by
  cases t with
  | nil => rfl
  | node k x g l r => cases r with
    | nil => rfl
    | node => cases h
theorem first_fore {t : T} (h : t.fore.some = true) : t.fore.firstT = t.firstT := by
  cases t with
  | nil => cases h
  | node k x g l r => cases l with
    | nil => cases h
    | node => rfl
theorem first_end {t : T} (h : t.fore.some = false) : t.firstT = t := by
  cases t with
  | nil => rfl
  | node k x g l r => cases l with
    | nil => rfl
    | node => cases h
theorem rest_size {t : T} (h : t.rest.some = true) : t.rest.size < t.size := by
  cases t with
  | nil => cases h
  | node k x g l r => simp only [T.rest, T.size]; omega
theorem fore_size {t : T} (h : t.fore.some = true) : t.fore.size < t.size := by
  cases t with
  | nil => cases h
  | node k x g l r => simp only [T.fore, T.size]; omega
theorem ptr_some {t : T} {p : Option Addr} {w : World} (h : Tr w (.pointer p) t) : (t.some = true → ∃ a, p = some a) ∧ (t.some = false → p = none) := by
  cases t with
  | nil => exact ⟨fun h => (by cases h), fun _ => by have e : Value.pointer p = .pointer none := h; injection e⟩
  | node k x g l r =>
    obtain ⟨b, vl, vr, e, _⟩ := h
    injection e with e
    exact ⟨fun _ => ⟨_, e⟩, fun h => by cases h⟩
set_option maxHeartbeats 2000000 in
theorem endR_any {t : T} {v : Value} {w : World} (h : Tr w v t) : Calls Try.prog 166 #[v, .func (.func 38) #[] #[]] w fun e w' => ∃ p, e = .returned (.pointer p) ∧ Tr w (.pointer p) t.lastT ∧ w' = w := by
  go_enter Try.func166, Try.ntmps166
  go_wp2_with fail
  go_loopg [0] t.size (fun g tv wr => ∃ u : T, g = u.size ∧ Tr w tv u ∧ u.lastT = t.lastT ∧ wr = w)
  case atStart => exact ⟨t, rfl, h, rfl, rfl⟩
  case round =>
    obtain ⟨u, rfl, hu, he, rfl⟩ := hrel
    obtain ⟨pu, rfl⟩ := hu.ptr
    obtain ⟨p, hp, RV⟩ := right_val hu
    have HU := Lib.hid hu
    have HE := Lib.hid he
    have HP := Lib.hid hp
    cases hs : u.rest.some with
    | true =>
      obtain ⟨a, rfl⟩ := (ptr_some hp).1 hs
      have HS := Lib.hid hs
      clear hu he hp hs
      go_wp2_with fail
      refine RV.mono ?_; rintro e w' ⟨rfl, rfl⟩
      go_wp2_with fail
      refine RV.mono ?_; rintro e w' ⟨rfl, rfl⟩
      go_wp2_with fail
      go_roundg u.rest.size
      case measure => exact rest_size HS.out
      case rel => exact ⟨u.rest, rfl, HP.out, (last_rest HS.out).trans HE.out, rfl⟩
    | false =>
      obtain rfl := (ptr_some hp).2 hs
      have HS := Lib.hid hs
      clear hu he hp hs
      go_wp2_with fail
      refine RV.mono ?_; rintro e w' ⟨rfl, rfl⟩
      go_wp2_with fail
      go_ret
      exact ⟨_, rfl, by rw [← HE.out, last_end HS.out]; exact HU.out, rfl⟩
set_option maxHeartbeats 2000000 in
theorem endL_any {t : T} {v : Value} {w : World} (h : Tr w v t) : Calls Try.prog 166 #[v, .func (.func 37) #[] #[]] w fun e w' => ∃ p, e = .returned (.pointer p) ∧ Tr w (.pointer p) t.firstT ∧ w' = w := by
  go_enter Try.func166, Try.ntmps166
  go_wp2_with fail
  go_loopg [0] t.size (fun g tv wr => ∃ u : T, g = u.size ∧ Tr w tv u ∧ u.firstT = t.firstT ∧ wr = w)
  case atStart => exact ⟨t, rfl, h, rfl, rfl⟩
  case round =>
    obtain ⟨u, rfl, hu, he, rfl⟩ := hrel
    obtain ⟨pu, rfl⟩ := hu.ptr
    obtain ⟨p, hp, RV⟩ := left_val hu
    have HU := Lib.hid hu
    have HE := Lib.hid he
    have HP := Lib.hid hp
    cases hs : u.fore.some with
    | true =>
      obtain ⟨a, rfl⟩ := (ptr_some hp).1 hs
      have HS := Lib.hid hs
      clear hu he hp hs
      go_wp2_with fail
      refine RV.mono ?_; rintro e w' ⟨rfl, rfl⟩
      go_wp2_with fail
      refine RV.mono ?_; rintro e w' ⟨rfl, rfl⟩
      go_wp2_with fail
      go_roundg u.fore.size
      case measure => exact fore_size HS.out
      case rel => exact ⟨u.fore, rfl, HP.out, (first_fore HS.out).trans HE.out, rfl⟩
    | false =>
      obtain rfl := (ptr_some hp).2 hs
      have HS := Lib.hid hs
      clear hu he hp hs
      go_wp2_with fail
      refine RV.mono ?_; rintro e w' ⟨rfl, rfl⟩
      go_wp2_with fail
      go_ret
      exact ⟨_, rfl, by rw [← HE.out, first_end HS.out]; exact HU.out, rfl⟩
end Go.Proofs.Ytlehcagpddgamaa
