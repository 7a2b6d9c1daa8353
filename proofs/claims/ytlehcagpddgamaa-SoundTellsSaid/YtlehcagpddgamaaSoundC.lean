/- Package sound: Check. -/
import Derived.Test.YtlehcagpddgamaaSoundL
import Derived.Test.YtlehcagpddgamaaMixF
import Derived.Test.YtlehcagpddgamaaScope
import Derived.Test.YtlehcagpddgamaaDraw
import Derived.Test.YtlehcagpddgamaaExact
namespace Go.Proofs.Ytlehcagpddgamaa
open Go.RowKit Go.Shelf
attribute [local go_sem] Oper.semAt_some

theorem ext_put {a w : World} {r : Nat} (h : Ext a w) (o : Obj) (hr : a.heap.size ≤ r) (hw : r < w.heap.size) : Ext a (w.putObj r o) := Below.grown h (grownBy_putObj' w r o) (by omega) (fun k e => by cases e; exact hr)
theorem roundIn_any {F : Fence} (hd : F.depth = none) {m m' : Nat} {P : Program} {l : Nat} {f : FuncId} {tmps : Array Value} {assign body : Code} {w : World} {R : Ending → World → Prop}
    (h : RoundIn F m P l f tmps assign body w R) : RoundIn F m' P l f tmps assign body w R := ⟨h.1, fun c cs _ => h.2 c cs (fun d h => by rw [hd] at h; cases h)⟩
theorem yieldAt_any {F : Fence} (hd : F.depth = none) {m : Nat} (m' : Nat) {P : Program} {l : Nat} {args : Array Value} {W : World} {R : Ending → World → Prop} (h : YieldAt F m P l args W R) : YieldAt F m' P l args W R := by
  obtain ⟨fn, tmps, assign, body, hy, hR⟩ := h
  exact ⟨fn, tmps, assign, body, hy, roundIn_any hd hR⟩
theorem beads12_any (o : Int) (p : Option Addr) (w : World) : Calls Try.prog 163 #[.int .u8 o, .pointer p] w fun e w' => e = .returned (.func (.func 194) #[] #[.pointer (some ⟨w.heap.size, 0, none⟩), .pointer (some ⟨w.heap.size + 1, 0, none⟩)]) ∧ Ext w w' ∧
    Blk w' w.heap.size 5 #[.int .u8 o] ∧ Blk w' (w.heap.size + 1) 26 #[.pointer p] := by
  go_enter Try.func163, Try.ntmps163
  go_wp2_with fail
  go_ret
  have h1 := Blk.new w 5 #[.int .u8 o]
  have h2 := Blk.new (w.alloc (.cells #[.int .u8 o] 5)) 26 #[.pointer p]
  rw [alloc_size] at h2
  exact ⟨rfl, ((Ext.refl w).alloc _).alloc _, h1.alloc _, h2⟩
set_option maxRecDepth 100000 in
set_option maxHeartbeats 4000000 in
theorem beads1_in {o : Nat} (h1 : 1 ≤ o) (h2 : o ≤ 7) {w0 W : World} {ob tb l : Nat} {p : Option Addr} {t : T} {J Jx : List (Value × Bool) → World → Prop} (n : Nat) (hJ : ∀ p A B, J p A → Ext A B → J p B)
    (hY : ∀ (m : Nat) (pre : List (Value × Bool)) (x : Value × Bool) (W : World), J pre W → pre.length < t.size → YieldAt Fence.wide m Try.prog l #[x.1, .bool x.2] W fun e W' => (e = .returned (.bool true) ∧ J (pre ++ [x]) W' ∧ KC w0.heap.size W W') ∨ (e = .returned (.bool false) ∧ Jx (pre ++ [x]) W'))
    (hK : KC w0.heap.size w0 W) (hz : w0.heap.size + 2 ≤ W.heap.size) (ht : Tr w0 (.pointer p) t) (hkeys : KeysR t) (bo : Blk W ob 5 #[.int .u8 (o : Int)]) (bt : Blk W tb 26 #[.pointer p]) (go : w0.heap.size + 2 ≤ ob) (h0 : J [] W) :
    CallsIn Fence.wide n Try.prog 194 #[.func (.yield l) #[] #[], .pointer (some ⟨ob, 0, none⟩), .pointer (some ⟨tb, 0, none⟩)] W fun e W' => (∃ v, e = .returned v) ∧
      ((∃ xs, xs.map Prod.snd = seqW o t [] ∧ J xs W') ∨ (∃ xs, xs.map Prod.snd <+: seqW o t [] ∧ Jx xs W')) := by
  have x1 := ((Ext.refl W).alloc (.cells #[.func (.yield l) #[] #[]] 217)).alloc (.cells #[.func (.func 195) #[] #[.pointer (some ⟨ob, 0, none⟩), .pointer (some ⟨W.heap.size, 0, none⟩), .pointer (some ⟨W.heap.size + 1, 0, none⟩)]] 218)
  have by1 := (Blk.new W 217 #[.func (.yield l) #[] #[]]).alloc (.cells #[.func (.func 195) #[] #[.pointer (some ⟨ob, 0, none⟩), .pointer (some ⟨W.heap.size, 0, none⟩), .pointer (some ⟨W.heap.size + 1, 0, none⟩)]] 218)
  have bo1 := Blk.new (W.alloc (.cells #[.func (.yield l) #[] #[]] 217)) 218 #[.func (.func 195) #[] #[.pointer (some ⟨ob, 0, none⟩), .pointer (some ⟨W.heap.size, 0, none⟩), .pointer (some ⟨W.heap.size + 1, 0, none⟩)]]
  rw [alloc_size] at bo1
  have ct := (bt.ext x1).cell 0
  have B1 : BoxB w0.heap.size o l ob W.heap.size (W.heap.size + 1) _ := ⟨bo.ext x1, by1, bo1, go, hz, by omega⟩
  have ON := fun q => on12 h1 h2 (N := t.size) hJ hY t q _ (.pointer p) _ [] [] (hK.trans (x1.kc _)) (Nat.le_trans hz x1.size) ht hkeys (mayV_nil w0.heap.size o _) B1 (hJ _ _ _ h0 x1) (by simp)
  clear x1 by1 bo1 B1 hY hK hz ht hkeys bo bt go h0 hJ h1 h2
  refine callsIn_of_wp Try.func194 rfl trivial ?_ rfl
  simp only [Try.ntmps194, List.size_toArray, List.length_cons, List.length_nil, Nat.reduceAdd, Nat.reduceSub, Array.replicate_succ, Array.replicate_zero, List.push_toArray, List.append_toArray, List.nil_append, List.cons_append]
  gi_wp2_with (refine ⟨trivial, (fun h => absurd h (by decide)), ?_⟩; gi_at_call 195; refine (ON _).mono ?_; rintro e W3 (⟨rfl, xs, e1, e2, _⟩ | ⟨rfl, xs, e1, e2⟩))
  · go_end0
    exact ⟨⟨_, rfl⟩, .inl ⟨xs, e1, by simpa using e2⟩⟩
  · go_end0
    exact ⟨⟨_, rfl⟩, .inr ⟨xs, e1, by simpa using e2⟩⟩
theorem ext_grown {A B : World} (x : Ext A B) : A.grownBy B none := ⟨x.os, x.tape, x.output, x.size, fun _ hk _ => x.blk hk⟩
theorem beads_stops {o : Nat} (h1 : 1 ≤ o) (h2 : o ≤ 7) {w0 w : World} {ob tb : Nat} {p : Option Addr} {t : T} (n : Nat) (hK : KC w0.heap.size w0 w) (hz : w0.heap.size + 2 ≤ w.heap.size) (ht : Tr w0 (.pointer p) t) (hk : KeysR t) (bo : Blk w ob 5 #[.int .u8 (o : Int)]) (bt : Blk w tb 26 #[.pointer p]) (go : w0.heap.size + 2 ≤ ob) :
    SeqStopsK Fence.wide n Try.prog 194 #[.pointer (some ⟨ob, 0, none⟩), .pointer (some ⟨tb, 0, none⟩)] (fun x : Value × Bool => #[x.1, .bool x.2]) (KC w0.heap.size) (fun xs => xs.map Prod.snd = seqW o t []) (fun pre => pre.map Prod.snd <+: seqW o t []) t.size w :=
  fun l J Jx W hW hJ _ hY h0 => beads1_in h1 h2 n (fun p A B h x => hJ p A B none h (ext_grown x) (fun r e => by cases e)) (fun m pre x W1 hj hl => yieldAt_any rfl m (hY pre x W1 hj hl)) (hK.trans (Ext.kc hW _)) (Nat.le_trans hz (Ext.size hW)) ht hk (bo.ext hW) (bt.ext hW) go h0
set_option maxRecDepth 100000 in
set_option maxHeartbeats 4000000 in
theorem check_bad {o : Int} {v : Value} {w : World} (h : ¬ (1 ≤ o ∧ o ≤ 7)) : Calls Try.prog 106 #[.int .u8 o, v] w fun e w' => e = .returned (.tuple #[.int .i64 0, .int .i64 2]) ∧ Ext w w' := by
  by_cases h1 : o < 1
  · have d1 : decide (o < 1) = true := by simpa using h1
    clear h
    go_enter Try.func106, Try.ntmps106
    go_wp2_with fail
    go_step3
    go_wp2_with fail
    try rw [Exit.noGoto_ret]
    refine bodyPost_ret (v := .tuple #[.int .i64 0, .int .i64 2]) (by simp [results, Try.results106, go_sem]) rfl ?_
    exact ⟨rfl, ((Ext.refl w).alloc _).alloc _⟩
  · have d1 : decide (o < 1) = false := by simpa using h1
    have d2 : decide (7 < o) = true := by simp; omega
    clear h h1
    go_enter Try.func106, Try.ntmps106
    go_wp2_with fail
    go_step3
    go_wp2_with fail
    try rw [Exit.noGoto_ret]
    refine bodyPost_ret (v := .tuple #[.int .i64 0, .int .i64 2]) (by simp [results, Try.results106, go_sem]) rfl ?_
    exact ⟨rfl, ((Ext.refl w).alloc _).alloc _⟩
set_option maxRecDepth 100000 in
set_option maxHeartbeats 4000000 in
theorem check_any {o : Nat} (h1 : 1 ≤ o) (h2 : o ≤ 7) {t : T} {v : Value} {w : World} (ht : Tr w v t) (hk : KeysR t) (hs : t.size ≤ 1000000) :
    Calls Try.prog 106 #[.int .u8 (o : Int), v] w fun e w' => e = .returned (.tuple #[.int .i64 (chkA o t : Int), .int .i64 (chkE o t)]) ∧ Ext w w' := by
  obtain ⟨p, rfl⟩ := ht.ptr
  have d1 : ¬ ((o : Int) < 1) := by omega
  have d2 : ¬ ((7 : Int) < (o : Int)) := by omega
  have x0 := ((Ext.refl w).alloc (.cells #[.int .i64 0] 3)).alloc (.cells #[.int .i64 0] 81)
  have b1 := (Blk.new w 3 #[.int .i64 0]).alloc (.cells #[.int .i64 0] 81)
  have b2 := Blk.new (w.alloc (.cells #[.int .i64 0] 3)) 81 #[.int .i64 0]
  rw [alloc_size] at b2
  have s0 : ((w.alloc (.cells #[.int .i64 0] 3)).alloc (.cells #[.int .i64 0] 81)).heap.size = w.heap.size + 2 := by simp
  refine (callsIn_wide (n := 8)).1 ?_
  refine callsIn_of_wp_marks Try.func106 rfl trivial ?_ rfl
  simp only [Try.ntmps106, List.size_toArray, List.length_cons, List.length_nil, Nat.reduceAdd, Nat.reduceSub, Array.replicate_succ, Array.replicate_zero, List.push_toArray, List.append_toArray, List.nil_append, List.cons_append]
  gi_wp2
  generalize (w.alloc (.cells #[.int .i64 0] 3)).alloc (.cells #[.int .i64 0] 81) = w0 at *
  have BD := beads12_any (o : Int) p w0
  have S0 := Lib.hid s0
  clear s0
  refine wpIn_scope_straight ?_
  gi_wp2
  refine wpIn_label ?_
  gi_wp2_with (refine ⟨trivial, ?_⟩; gi_at_call 163; refine (callsIn_wide.2 BD).mono ?_; rintro e w1 ⟨rfl, x1, bo, bt⟩)
  have hx1 := x0.trans x1
  have z1 : w.heap.size + 2 ≤ w1.heap.size := by have := S0.out; have := x1.size; omega
  have z2 : w.heap.size + 2 ≤ w0.heap.size := by have := S0.out; omega
  refine wpIn_rangeFunc_ownH (F := Fence.wide) rfl (by omega) (gf := 194) (lb := #[.pointer (some ⟨w0.heap.size, 0, none⟩), .pointer (some ⟨w0.heap.size + 1, 0, none⟩)]) rfl trivial (enters_of Try.func194 (by kernel_rfl) rfl)
    (beads_stops h1 h2 (w0 := w) 7 (hx1.kc _) z1 ht hk bo bt z2) (fun h k => h.trans k) (fun W l o o' hl hlo hc _ => ⟨by simp [World.putObj], fun b hb o2 ho2 hc2 => by
      have hne : b ≠ l := by rintro rfl; rw [hlo] at ho2; cases ho2; rw [hc] at hc2; cases hc2
      rw [World.putObj_heap_other hne]; exact ho2⟩) (Below.refl _ _) (fun _ => rfl)
    (fun (pre : List (Value × Bool)) W => (Below w.heap.size w W ∧ w1.heap.size ≤ W.heap.size) ∧ (Boxed W w.heap.size 3 (.int .i64 (pre.length : Int)) ∧ Boxed W (w.heap.size + 1) 81 (.int .i64 0)) ∧ ∀ x ∈ pre, x.2 = false)
    (fun c (pre : List (Value × Bool)) W => c = .exit 0 ∧ (Below w.heap.size w W ∧ w1.heap.size ≤ W.heap.size) ∧ ∃ q z, pre = q ++ [z] ∧ z.2 = true ∧ (∀ x ∈ q, x.2 = false) ∧ Boxed W w.heap.size 3 (.int .i64 (q.length : Int)) ∧ Boxed W (w.heap.size + 1) 81 (.int .i64 120))
    (OwnFrom.and (OwnFrom.and (ownFrom_below (Nat.le_refl _) (by omega)) (fun _ _ _ _ hs hg _ => Nat.le_trans hs hg.size)) (OwnFrom.and (OwnFrom.and (Own.from (boxed_own _ _ _) _) (Own.from (boxed_own _ _ _) _)) (fun _ _ _ _ hs _ _ => hs)))
    (fun c s X Y row hs hg hr => by
      obtain ⟨e1, ⟨e2, e3⟩, q, z, e4, e5, e6, e7, e8⟩ := hs
      exact ⟨e1, ⟨ownFrom_below (β := Unit) (Nat.le_refl _) (by omega) () X Y row e2 hg hr, Nat.le_trans e3 hg.size⟩, q, z, e4, e5, e6,
        Own.from (boxed_own (β := Unit) _ _ (fun _ => .int .i64 (q.length : Int))) w1.heap.size () X Y row e7 hg hr, Own.from (boxed_own (β := Unit) _ _ (fun _ => .int .i64 120)) w1.heap.size () X Y row e8 hg hr⟩)
    ⟨⟨hx1, Nat.le_refl _⟩, ⟨b1.ext x1, b2.ext x1⟩, fun _ h => by simp at h⟩
    (fun x a' _ => a' = { tmps := #[.int .u8 (o : Int), .pointer p, undef, undef, .pointer (some ⟨w.heap.size, 0, none⟩), .pointer (some ⟨w.heap.size + 1, 0, none⟩), undef, .bool x.2, .int .u8 (o : Int), .bool (decide ((o : Int) < 1)), .bool (decide ((o : Int) < 1)), .int .u8 (o : Int), .bool (decide (7 < (o : Int))), .bool (decide ((o : Int) < 1) || decide (7 < (o : Int))), .int .u8 (o : Int), .pointer p, .func (.func 194) #[] #[.pointer (some ⟨w0.heap.size, 0, none⟩), .pointer (some ⟨w0.heap.size + 1, 0, none⟩)], x.1, .bool x.2, undef, undef, undef, undef, undef], defers := [] })
    (fun _ _ _ _ _ _ hs _ _ => hs)
    ?assign ?body ?done ?stop
  case assign =>
    intro l' pre x W K hi hK
    gi_wp2
    exact hK _ _ (KeepsFrom.refl _ _) (KC.refl _ _) hi rfl
  case body =>
    rintro l' pre ⟨xv, xb⟩ a' W hl' _ ⟨hB, ⟨k1, k2⟩, hall⟩ rfl hlen
    have c1 := k1.cell
    have c2 := k2.cell
    have f1 := k1.frozen
    have f2 := k2.frozen
    have hlen2 : pre.length ≤ 1000000 := by omega
    have HALL := Lib.hid hall
    have HB := Lib.hid hB
    have K1 := Lib.hid k1
    have K2 := Lib.hid k2
    clear hall hB k1 k2 hlen
    cases xb with
    | true =>
      gi_wp2
      refine ⟨(KeepsOthers.setCell _ _ _).from _, rfl, ⟨HB.out.1.setCell (by simp) _, Nat.le_trans HB.out.2 (by simp)⟩, pre, (xv, true), rfl, rfl, HALL.out, K1.out.other (by omega) _, K2.out.set _⟩
    | false =>
      gi_wp2
      refine ⟨(KeepsOthers.setCell _ _ _).from _, ⟨by simp, fun b hb o2 ho2 _ => (Below.heap_setCell _ _ _ b (by simp; omega)).trans ho2⟩, ⟨HB.out.1.setCell (by simp) _, Nat.le_trans HB.out.2 (by simp)⟩, ⟨?_, K2.out.other (by omega) _⟩, fun y hy => ?_⟩
      · have := K1.out.set (.int .i64 ((pre.length : Int) + 1))
        simpa using this
      · rcases List.mem_append.1 hy with hy | hy
        · exact HALL.out y hy
        · simp at hy; subst hy; rfl
  case done =>
    rintro D xs W hD hS ⟨⟨hB, hsz⟩, ⟨k1, k2⟩, hall⟩ hDk
    have c1 := k1.cell
    have c2 := k2.cell
    have f1 := k1.frozen
    have f2 := k2.frozen
    have hl : xs.length = t.size := by have := congrArg List.length hS; rwa [List.length_map, seqW_length] at this
    have hr : Rise o t.keys := ((seq_ok o t []).1 (fun y hy => by
      rw [← hS] at hy
      obtain ⟨z, hz, rfl⟩ := List.mem_map.1 hy
      exact hall z hz)).1
    have e1 : chkA o t = xs.length := by rw [hl]; exact (chk_ok o t).2 hr
    have e2 : chkE o t = 0 := by unfold chkE; rw [if_pos hr]
    have HE := Lib.hid (And.intro e1 e2)
    have HB := Lib.hid hB
    have K1 := Lib.hid k1
    have K2 := Lib.hid k2
    have HD := Lib.hid hDk
    clear e1 e2 hl hr hS hall hB k1 k2 hDk
    gi_wp2
    gi_region
    gi_wp2
    have q1 : Boxed (((W.setCell ⟨w.heap.size, 0, none⟩ (.int .i64 (xs.length : Int))).setCell ⟨w.heap.size + 1, 0, none⟩ (.int .i64 0)).drew) w.heap.size 3 (.int .i64 (xs.length : Int)) := (K1.out.set _).other (by omega) _
    have q2 : Boxed (((W.setCell ⟨w.heap.size, 0, none⟩ (.int .i64 (xs.length : Int))).setCell ⟨w.heap.size + 1, 0, none⟩ (.int .i64 0)).drew) (w.heap.size + 1) 81 (.int .i64 0) := (K2.out.other (by omega) _).set _
    have qd : (((W.setCell ⟨w.heap.size, 0, none⟩ (.int .i64 (xs.length : Int))).setCell ⟨w.heap.size + 1, 0, none⟩ (.int .i64 0)).drew).heap[D]? = some (.deferred (some [])) := ((Below.heap_setCell _ _ _ D (by simp; omega)).trans (Below.heap_setCell _ _ _ D (by simp; omega))).trans HD.out
    have qb : Below w.heap.size w (((W.setCell ⟨w.heap.size, 0, none⟩ (.int .i64 (xs.length : Int))).setCell ⟨w.heap.size + 1, 0, none⟩ (.int .i64 0)).drew) := ((HB.out.setCell (p := ⟨w.heap.size, 0, none⟩) (by simp) _).setCell (p := ⟨w.heap.size + 1, 0, none⟩) (by simp) _).drew
    have hDs := (Array.getElem?_eq_some_iff.1 qd).1
    generalize ((W.setCell ⟨w.heap.size, 0, none⟩ (.int .i64 (xs.length : Int))).setCell ⟨w.heap.size + 1, 0, none⟩ (.int .i64 0)).drew = W5 at *
    have r1 : Boxed (W5.putObj D (.deferred none)) w.heap.size 3 (.int .i64 (xs.length : Int)) := (World.putObj_heap_other (by omega)).trans q1
    have r2 : Boxed (W5.putObj D (.deferred none)) (w.heap.size + 1) 81 (.int .i64 0) := (World.putObj_heap_other (by omega)).trans q2
    have s1 := r1.cell
    have s2 := r2.cell
    rw [Exit.noGoto_ret]
    refine ⟨by simp, .inl ⟨_, _, rfl, run_takeDeferred qd, ?_⟩⟩
    refine ⟨.tuple #[.int .i64 (xs.length : Int), .int .i64 0], by simp [results, Try.results106, go_sem, s1, s2], by rw [HE.out.1, HE.out.2], ext_put (a := w) qb _ (by omega) hDs⟩
  case stop =>
    rintro D c pre W hD hS ⟨rfl, ⟨hB, hsz⟩, q, z, rfl, hz, hall, k1, k2⟩ hDk
    have c1 := k1.cell
    have c2 := k2.cell
    have f1 := k1.frozen
    have f2 := k2.frozen
    have e1 : chkA o t = q.length := by
      obtain ⟨r, hr⟩ := hS
      unfold chkA
      rw [← hr, List.map_append, List.map_singleton, hz, List.append_assoc, List.singleton_append, lead_at _ _ (fun y hy => by
        obtain ⟨a, ha, rfl⟩ := List.mem_map.1 hy
        exact hall a ha), List.length_map]
    have e2 : chkE o t = 120 := by
      unfold chkE
      rw [if_neg]
      intro hr
      have h3 := (seq_ok o t []).2 ⟨hr, fun a _ => rfl⟩ true (by
        obtain ⟨r, hr⟩ := hS
        rw [← hr]
        simp [hz])
      cases h3
    have HE := Lib.hid (And.intro e1 e2)
    have HB := Lib.hid hB
    have K1 := Lib.hid k1
    have K2 := Lib.hid k2
    have HD := Lib.hid hDk
    clear e1 e2 hS hall hB k1 k2 hDk hz
    gi_wp2
    gi_region
    gi_wp2
    have q1 : Boxed (((W.setCell ⟨w.heap.size, 0, none⟩ (.int .i64 (q.length : Int))).setCell ⟨w.heap.size + 1, 0, none⟩ (.int .i64 120)).drew) w.heap.size 3 (.int .i64 (q.length : Int)) := (K1.out.set _).other (by omega) _
    have q2 : Boxed (((W.setCell ⟨w.heap.size, 0, none⟩ (.int .i64 (q.length : Int))).setCell ⟨w.heap.size + 1, 0, none⟩ (.int .i64 120)).drew) (w.heap.size + 1) 81 (.int .i64 120) := (K2.out.other (by omega) _).set _
    have qd : (((W.setCell ⟨w.heap.size, 0, none⟩ (.int .i64 (q.length : Int))).setCell ⟨w.heap.size + 1, 0, none⟩ (.int .i64 120)).drew).heap[D]? = some (.deferred (some [])) := ((Below.heap_setCell _ _ _ D (by simp; omega)).trans (Below.heap_setCell _ _ _ D (by simp; omega))).trans HD.out
    have qb : Below w.heap.size w (((W.setCell ⟨w.heap.size, 0, none⟩ (.int .i64 (q.length : Int))).setCell ⟨w.heap.size + 1, 0, none⟩ (.int .i64 120)).drew) := ((HB.out.setCell (p := ⟨w.heap.size, 0, none⟩) (by simp) _).setCell (p := ⟨w.heap.size + 1, 0, none⟩) (by simp) _).drew
    have hDs := (Array.getElem?_eq_some_iff.1 qd).1
    generalize ((W.setCell ⟨w.heap.size, 0, none⟩ (.int .i64 (q.length : Int))).setCell ⟨w.heap.size + 1, 0, none⟩ (.int .i64 120)).drew = W5 at *
    have r1 : Boxed (W5.putObj D (.deferred none)) w.heap.size 3 (.int .i64 (q.length : Int)) := (World.putObj_heap_other (by omega)).trans q1
    have r2 : Boxed (W5.putObj D (.deferred none)) (w.heap.size + 1) 81 (.int .i64 120) := (World.putObj_heap_other (by omega)).trans q2
    have s1 := r1.cell
    have s2 := r2.cell
    rw [Exit.noGoto_ret]
    refine ⟨by simp, .inl ⟨_, _, rfl, run_takeDeferred qd, ?_⟩⟩
    refine ⟨.tuple #[.int .i64 (q.length : Int), .int .i64 120], by simp [results, Try.results106, go_sem, s1, s2], by rw [HE.out.1, HE.out.2], ext_put (a := w) qb _ (by omega) hDs⟩
end Go.Proofs.Ytlehcagpddgamaa
