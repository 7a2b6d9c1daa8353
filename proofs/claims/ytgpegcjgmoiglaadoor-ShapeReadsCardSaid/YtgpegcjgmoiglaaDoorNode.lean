/- NODES IN MEMORY, and the contracts of package node. -/
import Derived.Test.YtgpegcjgmoiglaaDoorProg
import Derived.Test.YtgpegcjgmoiglaaDoorBase
import Derived.Test.YtgpegcjgmoiglaaDoorBeadLaw
namespace Go.Proofs.YtgpegcjgmoiglaaDoor
open Go.RowKit

/-- The cells of a node. -/
def cellsOf (k x g : Int) (l r : T) (vl vr : Value) : Array Value :=
  #[.int .i64 k, .int .i64 x, .int .i64 (wrap64 (T.sum (.node k x g l r))), .int .u64 g, .int .i64 (wrap64 (T.size (.node k x g l r))), vl, vr]
/-- Block b is a node of these sides. -/
def At (w : World) (b : Nat) (k x g : Int) (l r : T) (vl vr : Value) : Prop := Blk w b 85 (cellsOf k x g l r vl vr)
/-- A pointer to a tree. -/
def Tr (w : World) : Value → T → Prop
  | v, .nil => v = .pointer none
  | v, .node k x g l r => ∃ b vl vr, v = .pointer (some ⟨b, 0, none⟩) ∧ At w b k x g l r vl vr ∧ Tr w vl l ∧ Tr w vr r

theorem At.ext {w w' : World} {b : Nat} {k x g : Int} {l r : T} {vl vr : Value} (h : At w b k x g l r vl vr) (e : Ext w w') : At w' b k x g l r vl vr := Blk.ext h e
theorem Tr.ext {w w' : World} (e : Ext w w') : ∀ {t : T} {v : Value}, Tr w v t → Tr w' v t
  | .nil, _, h => h
  | .node _ _ _ _ _, _, ⟨b, vl, vr, hv, ha, hl, hr⟩ => ⟨b, vl, vr, hv, ha.ext e, hl.ext e, hr.ext e⟩
theorem Tr.ptr {w : World} {t : T} {v : Value} (h : Tr w v t) : ∃ a, v = .pointer a := by
  cases t with
  | nil => exact ⟨none, h⟩
  | node k x g l r => obtain ⟨b, vl, vr, rfl, _⟩ := h; exact ⟨_, rfl⟩

/-- The cells, one by one, for a walk. -/
theorem At.cells {w : World} {b : Nat} {k x g : Int} {l r : T} {vl vr : Value} (h : At w b k x g l r vl vr) :
    b < w.heap.size ∧ w.cell? ⟨b, 0, none⟩ = some (.int .i64 k) ∧ w.cell? ⟨b, 1, none⟩ = some (.int .i64 x) ∧ w.cell? ⟨b, 2, none⟩ = some (.int .i64 (wrap64 (T.sum (.node k x g l r)))) ∧
      w.cell? ⟨b, 3, none⟩ = some (.int .u64 g) ∧ w.cell? ⟨b, 4, none⟩ = some (.int .i64 (wrap64 (T.size (.node k x g l r)))) ∧ w.cell? ⟨b, 5, none⟩ = some vl ∧ w.cell? ⟨b, 6, none⟩ = some vr :=
  ⟨Blk.lt h, by simp [Blk.cell h, cellsOf], by simp [Blk.cell h, cellsOf], by simp [Blk.cell h, cellsOf], by simp [Blk.cell h, cellsOf], by simp [Blk.cell h, cellsOf], by simp [Blk.cell h, cellsOf], by simp [Blk.cell h, cellsOf]⟩

set_option maxHeartbeats 400000 in
theorem of_some (b : Nat) (k x s g z : Int) (w : World) (hlt : b < w.heap.size)
    (h0 : w.cell? ⟨b, 0, none⟩ = some (.int .i64 k)) (h1 : w.cell? ⟨b, 1, none⟩ = some (.int .i64 x)) (h2 : w.cell? ⟨b, 2, none⟩ = some (.int .i64 s))
    (h3 : w.cell? ⟨b, 3, none⟩ = some (.int .u64 g)) (h4 : w.cell? ⟨b, 4, none⟩ = some (.int .i64 z)) :
    Calls Tryd.prog 50 #[.pointer (some ⟨b, 0, none⟩)] w fun e w' => e = .returned (.agg #[.int .i64 k, .int .i64 x, .int .i64 s, .int .u64 g, .int .i64 z]) ∧ Ext w w' := by
  go_enter Tryd.func50, Tryd.ntmps50
  go_wp2
  exact bodyPost_ret (v := .agg #[.int .i64 k, .int .i64 x, .int .i64 s, .int .u64 g, .int .i64 z]) (by simp [results, Tryd.results50, go_sem]) rfl ⟨rfl, (Ext.refl _).alloc _⟩
theorem of_nil (w : World) :
    Calls Tryd.prog 50 #[.pointer none] w fun e w' => e = .returned (.agg #[.int .i64 0, .int .i64 0, .int .i64 0, .int .u64 0, .int .i64 0]) ∧ Ext w w' := by
  go_enter Tryd.func50, Tryd.ntmps50
  go_wp2
  exact bodyPost_ret (v := .agg #[.int .i64 0, .int .i64 0, .int .i64 0, .int .u64 0, .int .i64 0]) (by simp [results, Tryd.results50, go_sem]) rfl ⟨rfl, (Ext.refl _).alloc _⟩
theorem of_at {w : World} {b : Nat} {k x g : Int} {l r : T} {vl vr : Value} (h : At w b k x g l r vl vr) :
    Calls Tryd.prog 50 #[.pointer (some ⟨b, 0, none⟩)] w fun e w' => e = .returned (.agg #[.int .i64 k, .int .i64 x, .int .i64 (wrap64 (T.sum (.node k x g l r))), .int .u64 g, .int .i64 (wrap64 (T.size (.node k x g l r)))]) ∧ Ext w w' := by
  obtain ⟨hlt, h0, h1, h2, h3, h4, _, _⟩ := h.cells
  exact of_some b k x _ g _ w hlt h0 h1 h2 h3 h4

/-- A call that returns a value of which R holds, and leaves what was there. -/
def Gives (R : Value → World → Prop) (w : World) (e : Ending) (w' : World) : Prop := ∃ v, e = .returned v ∧ Ext w w' ∧ R v w'

theorem left_nil (w : World) : Calls Tryd.prog 33 #[.pointer none] w fun e w' => e = .returned (.pointer none) ∧ w = w' := by
  go_enter Tryd.func33, Tryd.ntmps33
  go_wp2
  go_ret
  exact ⟨rfl, rfl⟩
theorem left_at {w : World} {b : Nat} {k x g : Int} {l r : T} {pl pr : Option Addr} (ha : At w b k x g l r (.pointer pl) (.pointer pr)) :
    Calls Tryd.prog 33 #[.pointer (some ⟨b, 0, none⟩)] w fun e w' => e = .returned (.pointer pl) ∧ w = w' := by
  obtain ⟨hlt, h0, h1, h2, h3, h4, h5, h6⟩ := ha.cells
  clear ha
  go_enter Tryd.func33, Tryd.ntmps33
  go_wp2
  go_ret
  exact ⟨rfl, rfl⟩
theorem right_nil (w : World) : Calls Tryd.prog 34 #[.pointer none] w fun e w' => e = .returned (.pointer none) ∧ w = w' := by
  go_enter Tryd.func34, Tryd.ntmps34
  go_wp2
  go_ret
  exact ⟨rfl, rfl⟩
theorem right_at {w : World} {b : Nat} {k x g : Int} {l r : T} {pl pr : Option Addr} (ha : At w b k x g l r (.pointer pl) (.pointer pr)) :
    Calls Tryd.prog 34 #[.pointer (some ⟨b, 0, none⟩)] w fun e w' => e = .returned (.pointer pr) ∧ w = w' := by
  obtain ⟨hlt, h0, h1, h2, h3, h4, h5, h6⟩ := ha.cells
  clear ha
  go_enter Tryd.func34, Tryd.ntmps34
  go_wp2
  go_ret
  exact ⟨rfl, rfl⟩

theorem kept_key (a b c d e : Value) : ∀ w : World, (Instr.field 81 (.agg #[a, b, c, d, e]) 0).run Tryd.prog w = .ok a w := fun _ => by kernel_rfl
theorem kept_val (a b c d e : Value) : ∀ w : World, (Instr.field 81 (.agg #[a, b, c, d, e]) 1).run Tryd.prog w = .ok b w := fun _ => by kernel_rfl
theorem kept_sum (a b c d e : Value) : ∀ w : World, (Instr.field 81 (.agg #[a, b, c, d, e]) 2).run Tryd.prog w = .ok c w := fun _ => by kernel_rfl
theorem kept_tag (a b c d e : Value) : ∀ w : World, (Instr.field 81 (.agg #[a, b, c, d, e]) 3).run Tryd.prog w = .ok d w := fun _ => by kernel_rfl
theorem kept_size (a b c d e : Value) : ∀ w : World, (Instr.field 81 (.agg #[a, b, c, d, e]) 4).run Tryd.prog w = .ok e w := fun _ => by kernel_rfl
/-- A field of what is kept. -/
theorem key_any {t : T} {v : Value} {w : World} (h : Tr w v t) : Calls Tryd.prog 29 #[v] w fun e w' => e = .returned (.int .i64 t.key) ∧ Ext w w' := by
  cases t with
  | nil =>
    obtain rfl : v = .pointer none := h
    have hfd := kept_key
    go_enter Tryd.func29, Tryd.ntmps29
    go_wp2_with fail
    refine (of_nil w).mono ?_; rintro e w1 ⟨rfl, x1⟩
    go_wp2_with fail
    go_ret
    exact ⟨rfl, x1⟩
  | node k x g l r =>
    obtain ⟨b, vl, vr, rfl, ha, _, _⟩ := h
    have hfd := kept_key
    go_enter Tryd.func29, Tryd.ntmps29
    go_wp2_with fail
    refine (of_at ha).mono ?_; rintro e w1 ⟨rfl, x1⟩
    go_wp2_with fail
    go_ret
    exact ⟨rfl, x1⟩
theorem val_any {t : T} {v : Value} {w : World} (h : Tr w v t) : Calls Tryd.prog 30 #[v] w fun e w' => e = .returned (.int .i64 t.val) ∧ Ext w w' := by
  cases t with
  | nil =>
    obtain rfl : v = .pointer none := h
    have hfd := kept_val
    go_enter Tryd.func30, Tryd.ntmps30
    go_wp2_with fail
    refine (of_nil w).mono ?_; rintro e w1 ⟨rfl, x1⟩
    go_wp2_with fail
    go_ret
    exact ⟨rfl, x1⟩
  | node k x g l r =>
    obtain ⟨b, vl, vr, rfl, ha, _, _⟩ := h
    have hfd := kept_val
    go_enter Tryd.func30, Tryd.ntmps30
    go_wp2_with fail
    refine (of_at ha).mono ?_; rintro e w1 ⟨rfl, x1⟩
    go_wp2_with fail
    go_ret
    exact ⟨rfl, x1⟩
theorem tag_any {t : T} {v : Value} {w : World} (h : Tr w v t) : Calls Tryd.prog 32 #[v] w fun e w' => e = .returned (.int .u64 t.tag) ∧ Ext w w' := by
  cases t with
  | nil =>
    obtain rfl : v = .pointer none := h
    have hfd := kept_tag
    go_enter Tryd.func32, Tryd.ntmps32
    go_wp2_with fail
    refine (of_nil w).mono ?_; rintro e w1 ⟨rfl, x1⟩
    go_wp2_with fail
    go_ret
    exact ⟨rfl, x1⟩
  | node k x g l r =>
    obtain ⟨b, vl, vr, rfl, ha, _, _⟩ := h
    have hfd := kept_tag
    go_enter Tryd.func32, Tryd.ntmps32
    go_wp2_with fail
    refine (of_at ha).mono ?_; rintro e w1 ⟨rfl, x1⟩
    go_wp2_with fail
    go_ret
    exact ⟨rfl, x1⟩
theorem size_any {t : T} {v : Value} {w : World} (h : Tr w v t) : Calls Tryd.prog 23 #[v] w fun e w' => e = .returned (.int .i64 (wrap64 t.size)) ∧ Ext w w' := by
  cases t with
  | nil =>
    obtain rfl : v = .pointer none := h
    have hfd := kept_size
    go_enter Tryd.func23, Tryd.ntmps23
    go_wp2_with fail
    refine (of_nil w).mono ?_; rintro e w1 ⟨rfl, x1⟩
    go_wp2_with fail
    go_ret
    exact ⟨congrArg (fun n => Ending.returned (.int .i64 n)) (show (0 : Int) = wrap64 ((T.size .nil : Nat) : Int) from by simp [T.size, wrap64]), x1⟩
  | node k x g l r =>
    obtain ⟨b, vl, vr, rfl, ha, _, _⟩ := h
    have hfd := kept_size
    go_enter Tryd.func23, Tryd.ntmps23
    go_wp2_with fail
    refine (of_at ha).mono ?_; rintro e w1 ⟨rfl, x1⟩
    go_wp2_with fail
    go_ret
    exact ⟨rfl, x1⟩
theorem sum_any {t : T} {v : Value} {w : World} (h : Tr w v t) : Calls Tryd.prog 31 #[v] w fun e w' => e = .returned (.int .i64 (wrap64 t.sum)) ∧ Ext w w' := by
  cases t with
  | nil =>
    obtain rfl : v = .pointer none := h
    have hfd := kept_sum
    go_enter Tryd.func31, Tryd.ntmps31
    go_wp2_with fail
    refine (of_nil w).mono ?_; rintro e w1 ⟨rfl, x1⟩
    go_wp2_with fail
    go_ret
    exact ⟨congrArg (fun n => Ending.returned (.int .i64 n)) (show (0 : Int) = wrap64 (T.sum .nil) from by simp [T.sum, wrap64]), x1⟩
  | node k x g l r =>
    obtain ⟨b, vl, vr, rfl, ha, _, _⟩ := h
    have hfd := kept_sum
    go_enter Tryd.func31, Tryd.ntmps31
    go_wp2_with fail
    refine (of_at ha).mono ?_; rintro e w1 ⟨rfl, x1⟩
    go_wp2_with fail
    go_ret
    exact ⟨rfl, x1⟩

/-- The sums of wrapped numbers. -/
theorem wrap_add (a b c : Int) : wrap64 (wrap64 (wrap64 a + b) + wrap64 c) = wrap64 (a + b + c) := by
  unfold wrap64; omega
theorem wrap_add' (a b c : Int) : wrap64 (wrap64 (wrap64 a + b) + wrap64 c) = wrap64 (a + b + c) := wrap_add a b c

theorem new_any {l r : T} {vl vr : Value} (k x g : Int) {w : World} (hl : Tr w vl l) (hr : Tr w vr r) :
    Calls Tryd.prog 25 #[vl, .int .i64 k, .int .i64 x, .int .u64 g, vr] w
      (Gives (fun v w' => ∃ b, v = .pointer (some ⟨b, 0, none⟩) ∧ w.heap.size ≤ b ∧ At w' b k x g l r vl vr) w) := by
  obtain ⟨pl, rfl⟩ := hl.ptr
  obtain ⟨pr, rfl⟩ := hr.ptr
  go_enter Tryd.func25, Tryd.ntmps25
  go_wp2_with fail
  refine (size_any hl).mono ?_; rintro e w1 ⟨rfl, x1⟩
  go_wp2_with fail
  refine (size_any (hr.ext x1)).mono ?_; rintro e w2 ⟨rfl, x2⟩
  go_wp2_with fail
  refine (sum_any (hl.ext (x1.trans x2))).mono ?_; rintro e w3 ⟨rfl, x3⟩
  go_wp2_with fail
  refine (sum_any (hr.ext ((x1.trans x2).trans x3))).mono ?_; rintro e w4 ⟨rfl, x4⟩
  go_wp2_with fail
  go_ret
  exact ⟨_, rfl, ((((Ext.refl w).trans x1).trans x2).trans x3).trans x4 |>.alloc _, _, rfl, (((x1.trans x2).trans x3).trans x4).size, by
    unfold At cellsOf
    rw [wrap_add, wrap_add]
    exact Blk.new w4 _ _⟩

/-- A pointer to a tree held against nil. -/
theorem neq_nil {w0 : World} {t : T} {p : Option Addr} (h : Tr w0 (.pointer p) t) : ∀ w : World, (binOp .neq 25 (.pointer p) (.pointer none)).run Tryd.prog w = .ok (.bool t.some) w := by
  intro w
  cases t with
  | nil => obtain rfl : p = none := by simpa [Tr] using h
           go_simp; rfl
  | node => obtain ⟨b, vl, vr, hp, _⟩ := h
            obtain rfl : p = _ := by simpa using hp
            go_simp; rfl
theorem eql_nil {w0 : World} {t : T} {p : Option Addr} (h : Tr w0 (.pointer p) t) : ∀ w : World, (binOp .eql 25 (.pointer p) (.pointer none)).run Tryd.prog w = .ok (.bool (!t.some)) w := by
  intro w
  cases t with
  | nil => obtain rfl : p = none := by simpa [Tr] using h
           go_simp; rfl
  | node => obtain ⟨b, vl, vr, hp, _⟩ := h
            obtain rfl : p = _ := by simpa using hp
            go_simp; rfl
end Go.Proofs.YtgpegcjgmoiglaaDoor
