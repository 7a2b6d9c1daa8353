/- Package sound: how keys stand; the closures that say whether a key may stand. -/
import Derived.Test.YtlehcagpddgamaaRef02
import Derived.Test.YtlehcagpddgamaaNodeB
import Derived.Deep.RegionHeld3
namespace Go.Proofs.Ytlehcagpddgamaa
open Go.RowKit

/-- A key is in range. -/
def InR (a : Int) : Prop := -9223372036854775808 ≤ a ∧ a ≤ 9223372036854775807
/-- The code of a key. -/
def codeK (o : Nat) (a : Int) : Int := ((CO o (BitVec.ofInt 64 a)).toNat : Int)
/-- How two keys stand. -/
def cmpK (o : Nat) (a b : Int) : Int := cmpI (codeK o a) (codeK o b)
theorem ofInt_word {n : Int} (h : InR n) : (BitVec.ofInt 64 n).toInt = n := by
  obtain ⟨h1, h2⟩ := h
  rcases toInt_cases (BitVec.ofInt 64 n) with ⟨h1, h2⟩ | ⟨h1, h2⟩ <;> rw [h2] <;> rw [BitVec.toNat_ofInt] at * <;> omega
theorem compareK {o : Nat} {a b : Int} (h1 : 1 ≤ o) (h2 : o ≤ 7) (ha : InR a) (hb : InR b) (W : World) : Calls Try.prog 97 #[.int .u8 (o : Int), .int .i64 a, .int .i64 b] W fun e w' => e = .returned (.int .i64 (cmpK o a b)) ∧ Ext W w' :=
  compare_is (BitVec.ofInt 64 a) (BitVec.ofInt 64 b) h1 h2 rfl (ofInt_word ha) (ofInt_word hb) rfl
theorem rcompareK {o : Nat} {a b : Int} (h1 : 1 ≤ o) (h2 : o ≤ 7) (ha : InR a) (hb : InR b) (W : World) : Calls Try.prog 98 #[.int .u8 (o : Int), .int .i64 a, .int .i64 b] W fun e w' => e = .returned (.int .i64 (cmpK o a b)) ∧ Ext W w' := by
  have := rcmp_o o h1 h2 (BitVec.ofInt 64 a) (BitVec.ofInt 64 b) W
  unfold KW at this
  rw [ofInt_word ha, ofInt_word hb] at this
  exact this
/-- May a key stand there? Bounds: a key, and whether one has to stand behind it. -/
def okB (o : Nat) : List (Int × Bool) → Int → Bool
  | [], _ => true
  | (k, right) :: B, a => okB o B a && (if right then decide (0 < cmpK o a k) else decide (cmpK o a k < 0))
/-- What a round of the caller's keeps: all cells but two blocks of the caller's. -/
def KC (n : Nat) (W W' : World) : Prop := W.heap.size ≤ W'.heap.size ∧ ∀ b, ¬ (n ≤ b ∧ b < n + 2) → ∀ o, W.heap[b]? = some o → o.isCells = true → W'.heap[b]? = some o
theorem KC.refl (n : Nat) (W : World) : KC n W W := ⟨Nat.le_refl _, fun _ _ _ h _ => h⟩
theorem KC.trans {n : Nat} {A B C : World} (h : KC n A B) (k : KC n B C) : KC n A C := ⟨Nat.le_trans h.1 k.1, fun b hb o ho hc => k.2 b hb o (h.2 b hb o ho hc) hc⟩
theorem Ext.kc {A B : World} (h : Ext A B) (n : Nat) : KC n A B := ⟨h.size, fun _ _ _ ho _ => (h.blk (Array.getElem?_eq_some_iff.1 ho).1).trans ho⟩
theorem Blk.kc {n : Nat} {A B : World} {b : Nat} {t : TypeId} {cs : Array Value} (h : Blk A b t cs) (k : KC n A B) (hb : ¬ (n ≤ b ∧ b < n + 2)) : Blk B b t cs := k.2 b hb _ h rfl
theorem Tr.kc {w0 W : World} (k : KC w0.heap.size w0 W) : ∀ {t : T} {v : Value}, Tr w0 v t → Tr W v t
  | .nil, _, h => h
  | .node _ _ _ _ _, _, ⟨b, vl, vr, hv, ha, hl, hr⟩ => ⟨b, vl, vr, hv, Blk.kc ha k (by have := Blk.lt ha; omega), hl.kc k, hr.kc k⟩
/-- A function that says so. -/
def MayV (n o : Nat) (w : World) (v : Value) (B : List (Int × Bool)) : Prop := ∃ fn cap, v = .func (.func fn) #[] cap ∧ (fn = 198 ∧ cap = #[] ∨ (fn = 196 ∨ fn = 197) ∧ ∃ b1 b2 b3, cap = #[.pointer (some ⟨b1, 0, none⟩), .pointer (some ⟨b2, 0, none⟩), .pointer (some ⟨b3, 0, none⟩)]) ∧
  ∀ W : World, KC n w W → ∀ a, InR a → Calls Try.prog fn (#[.int .i64 a] ++ cap) W fun e w' => e = .returned (.bool (okB o B a)) ∧ Ext W w'
theorem MayV.kc {n o : Nat} {w w' : World} {v : Value} {B : List (Int × Bool)} (h : MayV n o w v B) (x : KC n w w') : MayV n o w' v B := by
  obtain ⟨fn, cap, e, hc, h⟩ := h
  exact ⟨fn, cap, e, hc, fun W X => h W (x.trans X)⟩
theorem mayV_nil (n o : Nat) (w : World) : MayV n o w (.func (.func 198) #[] #[]) [] := by
  refine ⟨_, _, rfl, .inl ⟨rfl, rfl⟩, fun W X a _ => ?_⟩
  show Calls Try.prog 198 #[.int .i64 a] W _
  go_enter Try.func198, Try.ntmps198
  go_wp2_with fail
  go_ret
  exact ⟨rfl, Ext.refl W⟩
/-! What the closures left and right say. -/
variable {o : Nat} {w W : World} {t : T} {b1 b2 b3 : Nat} {p : Option Addr} {a : Int}
set_option maxRecDepth 100000 in
set_option maxHeartbeats 4000000 in
theorem may_left0 {q : Bool} {key cc : Int} (MY : Hid (∀ W' : World, Ext W W' → Calls Try.prog 198 #[.int .i64 a] W' fun e w' => e = .returned (.bool q) ∧ Ext W' w'))
    (C : Hid (∀ W' : World, Ext W W' → W'.cell? ⟨b1, 0, none⟩ = some (.func (.func 198) #[] #[]) ∧ W'.cell? ⟨b2, 0, none⟩ = some (.int .u8 (o : Int)) ∧ W'.cell? ⟨b3, 0, none⟩ = some (.pointer p)))
    (KY : Hid (∀ W' : World, Ext W W' → Calls Try.prog 112 #[.pointer p] W' fun e w' => e = .returned (.int .i64 key) ∧ Ext W' w'))
    (CP : Hid (∀ W' : World, Calls Try.prog 97 #[.int .u8 (o : Int), .int .i64 a, .int .i64 key] W' fun e w' => e = .returned (.int .i64 cc) ∧ Ext W' w')) :
    Calls Try.prog 196 #[.int .i64 a, .pointer (some ⟨b1, 0, none⟩), .pointer (some ⟨b2, 0, none⟩), .pointer (some ⟨b3, 0, none⟩)] W fun e w' => e = .returned (.bool (q && decide (cc < 0))) ∧ Ext W w' := by
  have z := Ext.refl W
  cases q with
  | false =>
    rw [Bool.false_and]
    have c := C.out _ (Ext.drew z)
    obtain ⟨c1, c2, c3⟩ := c
    have MY1 := Lib.hid (MY.out _ (Ext.drew z))
    have Z := Lib.hid (Ext.drew z)
    clear MY z CP KY
    go_enter Try.func196, Try.ntmps196
    go_wp2_with fail
    first
      | (go_region_with (go_at_call 198; refine MY1.out.mono ?_; rintro e wq ⟨rfl, xq⟩))
      | fail
    all_goals
      go_wp2_with fail
      go_ret
      exact ⟨rfl, Z.out.trans xq⟩
  | true =>
    rw [Bool.true_and]
    go_enter Try.func196, Try.ntmps196
    go_wp2_with fail
    go_region_held3 (fun W => W.cell? ⟨b1, 0, none⟩ = some (.func (.func 198) #[] #[]) ∧ W.cell? ⟨b2, 0, none⟩ = some (.int .u8 (o : Int)) ∧ W.cell? ⟨b3, 0, none⟩ = some (.pointer p)) (first | exact C.out _ z | exact C.out _ (Ext.drew z))
      (first
        | (go_at_call 198; refine (MY.out _ (by first | exact z | exact Ext.drew z)).mono ?_; rintro e wq ⟨rfl, xq⟩; have z := (by first | exact Ext.trans z xq | exact (Ext.drew z).trans xq))
        | (go_at_call 112; refine (KY.out _ (by first | exact z | exact Ext.drew z)).mono ?_; rintro e wq ⟨rfl, xq⟩; have z := (by first | exact Ext.trans z xq | exact (Ext.drew z).trans xq))
        | (go_at_call 97; refine (CP.out _).mono ?_; rintro e wq ⟨rfl, xq⟩; have z := (by first | exact Ext.trans z xq | exact (Ext.drew z).trans xq))
        | fail)
    go_wp2_with fail
    go_ret
    exact ⟨rfl, z⟩
set_option maxRecDepth 100000 in
set_option maxHeartbeats 4000000 in
theorem may_left1 {d1 d2 d3 : Nat} {q : Bool} {key cc : Int} (MY : Hid (∀ W' : World, Ext W W' → Calls Try.prog 196 #[.int .i64 a, .pointer (some ⟨d1, 0, none⟩), .pointer (some ⟨d2, 0, none⟩), .pointer (some ⟨d3, 0, none⟩)] W' fun e w' => e = .returned (.bool q) ∧ Ext W' w'))
    (C : Hid (∀ W' : World, Ext W W' → W'.cell? ⟨b1, 0, none⟩ = some (.func (.func 196) #[] #[.pointer (some ⟨d1, 0, none⟩), .pointer (some ⟨d2, 0, none⟩), .pointer (some ⟨d3, 0, none⟩)]) ∧ W'.cell? ⟨b2, 0, none⟩ = some (.int .u8 (o : Int)) ∧ W'.cell? ⟨b3, 0, none⟩ = some (.pointer p)))
    (KY : Hid (∀ W' : World, Ext W W' → Calls Try.prog 112 #[.pointer p] W' fun e w' => e = .returned (.int .i64 key) ∧ Ext W' w'))
    (CP : Hid (∀ W' : World, Calls Try.prog 97 #[.int .u8 (o : Int), .int .i64 a, .int .i64 key] W' fun e w' => e = .returned (.int .i64 cc) ∧ Ext W' w')) :
    Calls Try.prog 196 #[.int .i64 a, .pointer (some ⟨b1, 0, none⟩), .pointer (some ⟨b2, 0, none⟩), .pointer (some ⟨b3, 0, none⟩)] W fun e w' => e = .returned (.bool (q && decide (cc < 0))) ∧ Ext W w' := by
  have z := Ext.refl W
  cases q with
  | false =>
    rw [Bool.false_and]
    have c := C.out _ (Ext.drew z)
    obtain ⟨c1, c2, c3⟩ := c
    have MY1 := Lib.hid (MY.out _ (Ext.drew z))
    have Z := Lib.hid (Ext.drew z)
    clear MY z CP KY
    go_enter Try.func196, Try.ntmps196
    go_wp2_with fail
    first
      | (go_region_with (go_at_call 196; refine MY1.out.mono ?_; rintro e wq ⟨rfl, xq⟩))
      | fail
    all_goals
      go_wp2_with fail
      go_ret
      exact ⟨rfl, Z.out.trans xq⟩
  | true =>
    rw [Bool.true_and]
    go_enter Try.func196, Try.ntmps196
    go_wp2_with fail
    go_region_held3 (fun W => W.cell? ⟨b1, 0, none⟩ = some (.func (.func 196) #[] #[.pointer (some ⟨d1, 0, none⟩), .pointer (some ⟨d2, 0, none⟩), .pointer (some ⟨d3, 0, none⟩)]) ∧ W.cell? ⟨b2, 0, none⟩ = some (.int .u8 (o : Int)) ∧ W.cell? ⟨b3, 0, none⟩ = some (.pointer p)) (first | exact C.out _ z | exact C.out _ (Ext.drew z))
      (first
        | (go_at_call 196; refine (MY.out _ (by first | exact z | exact Ext.drew z)).mono ?_; rintro e wq ⟨rfl, xq⟩; have z := (by first | exact Ext.trans z xq | exact (Ext.drew z).trans xq))
        | (go_at_call 112; refine (KY.out _ (by first | exact z | exact Ext.drew z)).mono ?_; rintro e wq ⟨rfl, xq⟩; have z := (by first | exact Ext.trans z xq | exact (Ext.drew z).trans xq))
        | (go_at_call 97; refine (CP.out _).mono ?_; rintro e wq ⟨rfl, xq⟩; have z := (by first | exact Ext.trans z xq | exact (Ext.drew z).trans xq))
        | fail)
    go_wp2_with fail
    go_ret
    exact ⟨rfl, z⟩
set_option maxRecDepth 100000 in
set_option maxHeartbeats 4000000 in
theorem may_left2 {d1 d2 d3 : Nat} {q : Bool} {key cc : Int} (MY : Hid (∀ W' : World, Ext W W' → Calls Try.prog 197 #[.int .i64 a, .pointer (some ⟨d1, 0, none⟩), .pointer (some ⟨d2, 0, none⟩), .pointer (some ⟨d3, 0, none⟩)] W' fun e w' => e = .returned (.bool q) ∧ Ext W' w'))
    (C : Hid (∀ W' : World, Ext W W' → W'.cell? ⟨b1, 0, none⟩ = some (.func (.func 197) #[] #[.pointer (some ⟨d1, 0, none⟩), .pointer (some ⟨d2, 0, none⟩), .pointer (some ⟨d3, 0, none⟩)]) ∧ W'.cell? ⟨b2, 0, none⟩ = some (.int .u8 (o : Int)) ∧ W'.cell? ⟨b3, 0, none⟩ = some (.pointer p)))
    (KY : Hid (∀ W' : World, Ext W W' → Calls Try.prog 112 #[.pointer p] W' fun e w' => e = .returned (.int .i64 key) ∧ Ext W' w'))
    (CP : Hid (∀ W' : World, Calls Try.prog 97 #[.int .u8 (o : Int), .int .i64 a, .int .i64 key] W' fun e w' => e = .returned (.int .i64 cc) ∧ Ext W' w')) :
    Calls Try.prog 196 #[.int .i64 a, .pointer (some ⟨b1, 0, none⟩), .pointer (some ⟨b2, 0, none⟩), .pointer (some ⟨b3, 0, none⟩)] W fun e w' => e = .returned (.bool (q && decide (cc < 0))) ∧ Ext W w' := by
  have z := Ext.refl W
  cases q with
  | false =>
    rw [Bool.false_and]
    have c := C.out _ (Ext.drew z)
    obtain ⟨c1, c2, c3⟩ := c
    have MY1 := Lib.hid (MY.out _ (Ext.drew z))
    have Z := Lib.hid (Ext.drew z)
    clear MY z CP KY
    go_enter Try.func196, Try.ntmps196
    go_wp2_with fail
    first
      | (go_region_with (go_at_call 197; refine MY1.out.mono ?_; rintro e wq ⟨rfl, xq⟩))
      | fail
    all_goals
      go_wp2_with fail
      go_ret
      exact ⟨rfl, Z.out.trans xq⟩
  | true =>
    rw [Bool.true_and]
    go_enter Try.func196, Try.ntmps196
    go_wp2_with fail
    go_region_held3 (fun W => W.cell? ⟨b1, 0, none⟩ = some (.func (.func 197) #[] #[.pointer (some ⟨d1, 0, none⟩), .pointer (some ⟨d2, 0, none⟩), .pointer (some ⟨d3, 0, none⟩)]) ∧ W.cell? ⟨b2, 0, none⟩ = some (.int .u8 (o : Int)) ∧ W.cell? ⟨b3, 0, none⟩ = some (.pointer p)) (first | exact C.out _ z | exact C.out _ (Ext.drew z))
      (first
        | (go_at_call 197; refine (MY.out _ (by first | exact z | exact Ext.drew z)).mono ?_; rintro e wq ⟨rfl, xq⟩; have z := (by first | exact Ext.trans z xq | exact (Ext.drew z).trans xq))
        | (go_at_call 112; refine (KY.out _ (by first | exact z | exact Ext.drew z)).mono ?_; rintro e wq ⟨rfl, xq⟩; have z := (by first | exact Ext.trans z xq | exact (Ext.drew z).trans xq))
        | (go_at_call 97; refine (CP.out _).mono ?_; rintro e wq ⟨rfl, xq⟩; have z := (by first | exact Ext.trans z xq | exact (Ext.drew z).trans xq))
        | fail)
    go_wp2_with fail
    go_ret
    exact ⟨rfl, z⟩
theorem mayV_left {w0 : World} {v vn : Value} {B : List (Int × Bool)} (h1 : 1 ≤ o) (h2 : o ≤ 7) (h : MayV w0.heap.size o w v B) (hw : KC w0.heap.size w0 w) (hb1 : Blk w b1 219 #[v]) (hb2 : Blk w b2 5 #[.int .u8 (o : Int)]) (hb3 : Blk w b3 26 #[vn])
    (g1 : w0.heap.size + 2 ≤ b1) (g2 : w0.heap.size + 2 ≤ b2) (g3 : w0.heap.size + 2 ≤ b3) (ht : Tr w0 vn t) (hk : InR t.key) :
    MayV w0.heap.size o w (.func (.func 196) #[] #[.pointer (some ⟨b1, 0, none⟩), .pointer (some ⟨b2, 0, none⟩), .pointer (some ⟨b3, 0, none⟩)]) ((t.key, false) :: B) := by
  refine ⟨_, _, rfl, .inr ⟨by simp, _, _, _, rfl⟩, fun W X a ha => ?_⟩
  obtain ⟨p, rfl⟩ := ht.ptr
  obtain ⟨fn, cap, rfl, hfc, hm⟩ := h
  have hr : okB o ((t.key, false) :: B) a = (okB o B a && decide (cmpK o a t.key < 0)) := rfl
  rw [hr]
  rcases hfc with ⟨rfl, rfl⟩ | ⟨rfl | rfl, d1, d2, d3, rfl⟩
  · exact may_left0 (Lib.hid fun W' Y => hm W' (X.trans (Y.kc _)) a ha) (Lib.hid fun W' Y => ⟨(hb1.kc (X.trans (Y.kc _)) (by omega)).cell 0, (hb2.kc (X.trans (Y.kc _)) (by omega)).cell 0, (hb3.kc (X.trans (Y.kc _)) (by omega)).cell 0⟩) (Lib.hid fun W' Y => key_any (ht.kc ((hw.trans X).trans (Y.kc _)))) (Lib.hid fun W' => compareK h1 h2 ha hk W')
  · exact may_left1 (Lib.hid fun W' Y => hm W' (X.trans (Y.kc _)) a ha) (Lib.hid fun W' Y => ⟨(hb1.kc (X.trans (Y.kc _)) (by omega)).cell 0, (hb2.kc (X.trans (Y.kc _)) (by omega)).cell 0, (hb3.kc (X.trans (Y.kc _)) (by omega)).cell 0⟩) (Lib.hid fun W' Y => key_any (ht.kc ((hw.trans X).trans (Y.kc _)))) (Lib.hid fun W' => compareK h1 h2 ha hk W')
  · exact may_left2 (Lib.hid fun W' Y => hm W' (X.trans (Y.kc _)) a ha) (Lib.hid fun W' Y => ⟨(hb1.kc (X.trans (Y.kc _)) (by omega)).cell 0, (hb2.kc (X.trans (Y.kc _)) (by omega)).cell 0, (hb3.kc (X.trans (Y.kc _)) (by omega)).cell 0⟩) (Lib.hid fun W' Y => key_any (ht.kc ((hw.trans X).trans (Y.kc _)))) (Lib.hid fun W' => compareK h1 h2 ha hk W')
set_option maxRecDepth 100000 in
set_option maxHeartbeats 4000000 in
theorem may_right0 {q : Bool} {key cc : Int} (MY : Hid (∀ W' : World, Ext W W' → Calls Try.prog 198 #[.int .i64 a] W' fun e w' => e = .returned (.bool q) ∧ Ext W' w'))
    (C : Hid (∀ W' : World, Ext W W' → W'.cell? ⟨b1, 0, none⟩ = some (.func (.func 198) #[] #[]) ∧ W'.cell? ⟨b2, 0, none⟩ = some (.int .u8 (o : Int)) ∧ W'.cell? ⟨b3, 0, none⟩ = some (.pointer p)))
    (KY : Hid (∀ W' : World, Ext W W' → Calls Try.prog 112 #[.pointer p] W' fun e w' => e = .returned (.int .i64 key) ∧ Ext W' w'))
    (CP : Hid (∀ W' : World, Calls Try.prog 97 #[.int .u8 (o : Int), .int .i64 a, .int .i64 key] W' fun e w' => e = .returned (.int .i64 cc) ∧ Ext W' w')) :
    Calls Try.prog 197 #[.int .i64 a, .pointer (some ⟨b1, 0, none⟩), .pointer (some ⟨b2, 0, none⟩), .pointer (some ⟨b3, 0, none⟩)] W fun e w' => e = .returned (.bool (q && decide (0 < cc))) ∧ Ext W w' := by
  have z := Ext.refl W
  cases q with
  | false =>
    rw [Bool.false_and]
    have c := C.out _ (Ext.drew z)
    obtain ⟨c1, c2, c3⟩ := c
    have MY1 := Lib.hid (MY.out _ (Ext.drew z))
    have Z := Lib.hid (Ext.drew z)
    clear MY z CP KY
    go_enter Try.func197, Try.ntmps197
    go_wp2_with fail
    first
      | (go_region_with (go_at_call 198; refine MY1.out.mono ?_; rintro e wq ⟨rfl, xq⟩))
      | fail
    all_goals
      go_wp2_with fail
      go_ret
      exact ⟨rfl, Z.out.trans xq⟩
  | true =>
    rw [Bool.true_and]
    go_enter Try.func197, Try.ntmps197
    go_wp2_with fail
    go_region_held3 (fun W => W.cell? ⟨b1, 0, none⟩ = some (.func (.func 198) #[] #[]) ∧ W.cell? ⟨b2, 0, none⟩ = some (.int .u8 (o : Int)) ∧ W.cell? ⟨b3, 0, none⟩ = some (.pointer p)) (first | exact C.out _ z | exact C.out _ (Ext.drew z))
      (first
        | (go_at_call 198; refine (MY.out _ (by first | exact z | exact Ext.drew z)).mono ?_; rintro e wq ⟨rfl, xq⟩; have z := (by first | exact Ext.trans z xq | exact (Ext.drew z).trans xq))
        | (go_at_call 112; refine (KY.out _ (by first | exact z | exact Ext.drew z)).mono ?_; rintro e wq ⟨rfl, xq⟩; have z := (by first | exact Ext.trans z xq | exact (Ext.drew z).trans xq))
        | (go_at_call 97; refine (CP.out _).mono ?_; rintro e wq ⟨rfl, xq⟩; have z := (by first | exact Ext.trans z xq | exact (Ext.drew z).trans xq))
        | fail)
    go_wp2_with fail
    go_ret
    exact ⟨rfl, z⟩
set_option maxRecDepth 100000 in
set_option maxHeartbeats 4000000 in
theorem may_right1 {d1 d2 d3 : Nat} {q : Bool} {key cc : Int} (MY : Hid (∀ W' : World, Ext W W' → Calls Try.prog 196 #[.int .i64 a, .pointer (some ⟨d1, 0, none⟩), .pointer (some ⟨d2, 0, none⟩), .pointer (some ⟨d3, 0, none⟩)] W' fun e w' => e = .returned (.bool q) ∧ Ext W' w'))
    (C : Hid (∀ W' : World, Ext W W' → W'.cell? ⟨b1, 0, none⟩ = some (.func (.func 196) #[] #[.pointer (some ⟨d1, 0, none⟩), .pointer (some ⟨d2, 0, none⟩), .pointer (some ⟨d3, 0, none⟩)]) ∧ W'.cell? ⟨b2, 0, none⟩ = some (.int .u8 (o : Int)) ∧ W'.cell? ⟨b3, 0, none⟩ = some (.pointer p)))
    (KY : Hid (∀ W' : World, Ext W W' → Calls Try.prog 112 #[.pointer p] W' fun e w' => e = .returned (.int .i64 key) ∧ Ext W' w'))
    (CP : Hid (∀ W' : World, Calls Try.prog 97 #[.int .u8 (o : Int), .int .i64 a, .int .i64 key] W' fun e w' => e = .returned (.int .i64 cc) ∧ Ext W' w')) :
    Calls Try.prog 197 #[.int .i64 a, .pointer (some ⟨b1, 0, none⟩), .pointer (some ⟨b2, 0, none⟩), .pointer (some ⟨b3, 0, none⟩)] W fun e w' => e = .returned (.bool (q && decide (0 < cc))) ∧ Ext W w' := by
  have z := Ext.refl W
  cases q with
  | false =>
    rw [Bool.false_and]
    have c := C.out _ (Ext.drew z)
    obtain ⟨c1, c2, c3⟩ := c
    have MY1 := Lib.hid (MY.out _ (Ext.drew z))
    have Z := Lib.hid (Ext.drew z)
    clear MY z CP KY
    go_enter Try.func197, Try.ntmps197
    go_wp2_with fail
    first
      | (go_region_with (go_at_call 196; refine MY1.out.mono ?_; rintro e wq ⟨rfl, xq⟩))
      | fail
    all_goals
      go_wp2_with fail
      go_ret
      exact ⟨rfl, Z.out.trans xq⟩
  | true =>
    rw [Bool.true_and]
    go_enter Try.func197, Try.ntmps197
    go_wp2_with fail
    go_region_held3 (fun W => W.cell? ⟨b1, 0, none⟩ = some (.func (.func 196) #[] #[.pointer (some ⟨d1, 0, none⟩), .pointer (some ⟨d2, 0, none⟩), .pointer (some ⟨d3, 0, none⟩)]) ∧ W.cell? ⟨b2, 0, none⟩ = some (.int .u8 (o : Int)) ∧ W.cell? ⟨b3, 0, none⟩ = some (.pointer p)) (first | exact C.out _ z | exact C.out _ (Ext.drew z))
      (first
        | (go_at_call 196; refine (MY.out _ (by first | exact z | exact Ext.drew z)).mono ?_; rintro e wq ⟨rfl, xq⟩; have z := (by first | exact Ext.trans z xq | exact (Ext.drew z).trans xq))
        | (go_at_call 112; refine (KY.out _ (by first | exact z | exact Ext.drew z)).mono ?_; rintro e wq ⟨rfl, xq⟩; have z := (by first | exact Ext.trans z xq | exact (Ext.drew z).trans xq))
        | (go_at_call 97; refine (CP.out _).mono ?_; rintro e wq ⟨rfl, xq⟩; have z := (by first | exact Ext.trans z xq | exact (Ext.drew z).trans xq))
        | fail)
    go_wp2_with fail
    go_ret
    exact ⟨rfl, z⟩
set_option maxRecDepth 100000 in
set_option maxHeartbeats 4000000 in
theorem may_right2 {d1 d2 d3 : Nat} {q : Bool} {key cc : Int} (MY : Hid (∀ W' : World, Ext W W' → Calls Try.prog 197 #[.int .i64 a, .pointer (some ⟨d1, 0, none⟩), .pointer (some ⟨d2, 0, none⟩), .pointer (some ⟨d3, 0, none⟩)] W' fun e w' => e = .returned (.bool q) ∧ Ext W' w'))
    (C : Hid (∀ W' : World, Ext W W' → W'.cell? ⟨b1, 0, none⟩ = some (.func (.func 197) #[] #[.pointer (some ⟨d1, 0, none⟩), .pointer (some ⟨d2, 0, none⟩), .pointer (some ⟨d3, 0, none⟩)]) ∧ W'.cell? ⟨b2, 0, none⟩ = some (.int .u8 (o : Int)) ∧ W'.cell? ⟨b3, 0, none⟩ = some (.pointer p)))
    (KY : Hid (∀ W' : World, Ext W W' → Calls Try.prog 112 #[.pointer p] W' fun e w' => e = .returned (.int .i64 key) ∧ Ext W' w'))
    (CP : Hid (∀ W' : World, Calls Try.prog 97 #[.int .u8 (o : Int), .int .i64 a, .int .i64 key] W' fun e w' => e = .returned (.int .i64 cc) ∧ Ext W' w')) :
    Calls Try.prog 197 #[.int .i64 a, .pointer (some ⟨b1, 0, none⟩), .pointer (some ⟨b2, 0, none⟩), .pointer (some ⟨b3, 0, none⟩)] W fun e w' => e = .returned (.bool (q && decide (0 < cc))) ∧ Ext W w' := by
  have z := Ext.refl W
  cases q with
  | false =>
    rw [Bool.false_and]
    have c := C.out _ (Ext.drew z)
    obtain ⟨c1, c2, c3⟩ := c
    have MY1 := Lib.hid (MY.out _ (Ext.drew z))
    have Z := Lib.hid (Ext.drew z)
    clear MY z CP KY
    go_enter Try.func197, Try.ntmps197
    go_wp2_with fail
    first
      | (go_region_with (go_at_call 197; refine MY1.out.mono ?_; rintro e wq ⟨rfl, xq⟩))
      | fail
    all_goals
      go_wp2_with fail
      go_ret
      exact ⟨rfl, Z.out.trans xq⟩
  | true =>
    rw [Bool.true_and]
    go_enter Try.func197, Try.ntmps197
    go_wp2_with fail
    go_region_held3 (fun W => W.cell? ⟨b1, 0, none⟩ = some (.func (.func 197) #[] #[.pointer (some ⟨d1, 0, none⟩), .pointer (some ⟨d2, 0, none⟩), .pointer (some ⟨d3, 0, none⟩)]) ∧ W.cell? ⟨b2, 0, none⟩ = some (.int .u8 (o : Int)) ∧ W.cell? ⟨b3, 0, none⟩ = some (.pointer p)) (first | exact C.out _ z | exact C.out _ (Ext.drew z))
      (first
        | (go_at_call 197; refine (MY.out _ (by first | exact z | exact Ext.drew z)).mono ?_; rintro e wq ⟨rfl, xq⟩; have z := (by first | exact Ext.trans z xq | exact (Ext.drew z).trans xq))
        | (go_at_call 112; refine (KY.out _ (by first | exact z | exact Ext.drew z)).mono ?_; rintro e wq ⟨rfl, xq⟩; have z := (by first | exact Ext.trans z xq | exact (Ext.drew z).trans xq))
        | (go_at_call 97; refine (CP.out _).mono ?_; rintro e wq ⟨rfl, xq⟩; have z := (by first | exact Ext.trans z xq | exact (Ext.drew z).trans xq))
        | fail)
    go_wp2_with fail
    go_ret
    exact ⟨rfl, z⟩
theorem mayV_right {w0 : World} {v vn : Value} {B : List (Int × Bool)} (h1 : 1 ≤ o) (h2 : o ≤ 7) (h : MayV w0.heap.size o w v B) (hw : KC w0.heap.size w0 w) (hb1 : Blk w b1 219 #[v]) (hb2 : Blk w b2 5 #[.int .u8 (o : Int)]) (hb3 : Blk w b3 26 #[vn])
    (g1 : w0.heap.size + 2 ≤ b1) (g2 : w0.heap.size + 2 ≤ b2) (g3 : w0.heap.size + 2 ≤ b3) (ht : Tr w0 vn t) (hk : InR t.key) :
    MayV w0.heap.size o w (.func (.func 197) #[] #[.pointer (some ⟨b1, 0, none⟩), .pointer (some ⟨b2, 0, none⟩), .pointer (some ⟨b3, 0, none⟩)]) ((t.key, true) :: B) := by
  refine ⟨_, _, rfl, .inr ⟨by simp, _, _, _, rfl⟩, fun W X a ha => ?_⟩
  obtain ⟨p, rfl⟩ := ht.ptr
  obtain ⟨fn, cap, rfl, hfc, hm⟩ := h
  have hr : okB o ((t.key, true) :: B) a = (okB o B a && decide (0 < cmpK o a t.key)) := rfl
  rw [hr]
  rcases hfc with ⟨rfl, rfl⟩ | ⟨rfl | rfl, d1, d2, d3, rfl⟩
  · exact may_right0 (Lib.hid fun W' Y => hm W' (X.trans (Y.kc _)) a ha) (Lib.hid fun W' Y => ⟨(hb1.kc (X.trans (Y.kc _)) (by omega)).cell 0, (hb2.kc (X.trans (Y.kc _)) (by omega)).cell 0, (hb3.kc (X.trans (Y.kc _)) (by omega)).cell 0⟩) (Lib.hid fun W' Y => key_any (ht.kc ((hw.trans X).trans (Y.kc _)))) (Lib.hid fun W' => compareK h1 h2 ha hk W')
  · exact may_right1 (Lib.hid fun W' Y => hm W' (X.trans (Y.kc _)) a ha) (Lib.hid fun W' Y => ⟨(hb1.kc (X.trans (Y.kc _)) (by omega)).cell 0, (hb2.kc (X.trans (Y.kc _)) (by omega)).cell 0, (hb3.kc (X.trans (Y.kc _)) (by omega)).cell 0⟩) (Lib.hid fun W' Y => key_any (ht.kc ((hw.trans X).trans (Y.kc _)))) (Lib.hid fun W' => compareK h1 h2 ha hk W')
  · exact may_right2 (Lib.hid fun W' Y => hm W' (X.trans (Y.kc _)) a ha) (Lib.hid fun W' Y => ⟨(hb1.kc (X.trans (Y.kc _)) (by omega)).cell 0, (hb2.kc (X.trans (Y.kc _)) (by omega)).cell 0, (hb3.kc (X.trans (Y.kc _)) (by omega)).cell 0⟩) (Lib.hid fun W' Y => key_any (ht.kc ((hw.trans X).trans (Y.kc _)))) (Lib.hid fun W' => compareK h1 h2 ha hk W')
end Go.Proofs.Ytlehcagpddgamaa
