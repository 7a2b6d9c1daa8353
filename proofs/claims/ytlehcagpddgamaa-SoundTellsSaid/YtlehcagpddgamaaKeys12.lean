/- The statement SoundRises: the keys of a tree, and the walk. -/
import Derived.Test.YtlehcagpddgamaaSoundD
import Derived.Test.YtlehcagpddgamaaFrameB
import Derived.Test.YtlehcagpddgamaaWith
namespace Go.Proofs.Ytlehcagpddgamaa
open Go.RowKit

/-- A key's cell. -/
def E12 (n : Int) : List Value := [.int .i64 n]
theorem E12_len (n : Int) : (E12 n).length = 1 := rfl
theorem i64E : Elem Try.prog 45 2 1 8 E12 := by
  have h : (Try.prog.info? 2).map (fun i => (i.zero, i.size, i.bytes)) = some (some (.int .i64 0), 1, 8) := by kernel_rfl
  obtain ⟨i0, hi, hz0, hz1, hz2⟩ := info_parts h
  exact ⟨Try.underlying45, ⟨i0, _, hi, hz0, hz1, hz2, rfl⟩, by omega, E12_len, fun x u hu => by simp [E12] at hu; subst hu; rfl⟩
theorem T.keys_length : ∀ t : T, t.keys.length = t.size
  | .nil => rfl
  | .node k x g l r => by simp [T.keys, T.size, T.keys_length l, T.keys_length r]; omega
set_option maxRecDepth 100000 in
set_option maxHeartbeats 4000000 in
theorem keys_any {a : World} (t : T) : ∀ {u v : Value} {w : World} {l : List Int}, Tr a u t → Ext a w → Own E12 2 1 a.heap.size w v l → l.length + t.size ≤ 2000 →
    Calls Try.prog 111 #[u, v] w fun e w' => ∃ v', e = .returned (.tuple #[v', .bool true]) ∧ Ext a w' ∧ Own E12 2 1 a.heap.size w' v' (l ++ t.keys) := by
  induction t with
  | nil =>
    intro u v w l h hx ho hm
    obtain rfl : u = .pointer none := h
    go_enter Try.func111, Try.ntmps111
    go_wp2_with fail
    refine bodyPost_ret (v := .tuple #[v, .bool true]) (by simp [results, Try.results111, go_sem]) rfl ?_
    exact ⟨_, rfl, hx, by simpa [T.keys] using ho⟩
  | node k x g b c ihb ihc =>
    intro u v w l h hx ho hm
    have KY := Lib.hid (fun (W : World) (X : Ext a W) => key_any (h.ext X))
    obtain ⟨bn, vl, vr, rfl, hat, hl, hr⟩ := h
    obtain ⟨pl, rfl⟩ := hl.ptr
    obtain ⟨pr, rfl⟩ := hr.ptr
    have LE := Lib.hid (fun (W : World) (X : Ext a W) => left_at (hat.ext X))
    have RE := Lib.hid (fun (W : World) (X : Ext a W) => right_at (hat.ext X))
    have kb := T.keys_length b
    simp only [T.size] at hm
    have IB := Lib.hid (fun (W : World) (X : Ext a W) (O : Own E12 2 1 a.heap.size W v l) => ihb hl X O (by omega))
    have IC := Lib.hid (fun (V : Value) (W : World) (L : List Int) (X : Ext a W) (O : Own E12 2 1 a.heap.size W V L) (N : L.length = l.length + b.size + 1) => ihc hr X O (by omega))
    have hn : ¬ (2000 : Int) < (l.length : Int) + (b.keys.length : Int) := by omega
    have HM := Lib.hid hm
    have HB := Lib.hid kb
    clear hat hl hr ihb ihc hm kb
    go_enter Try.func111, Try.ntmps111
    go_wp2_with fail
    refine (LE.out _ hx).mono ?_; rintro e w' ⟨rfl, rfl⟩
    go_wp2_with fail
    refine (IB.out _ hx ho).mono ?_; rintro e w1 ⟨v1, rfl, x1, o1⟩
    clear hx ho
    obtain ⟨A, cc, hv, hc, hcs⟩ := o1.sl E12_len (by omega)
    have O1 := Lib.hid o1
    subst hv
    clear o1 hcs
    go_wp2_with fail
    refine (RE.out _ x1).mono ?_; rintro e w' ⟨rfl, rfl⟩
    go_wp2_with fail
    refine (KY.out _ x1).mono ?_; rintro e w2 ⟨rfl, x2⟩
    have OE : Own E12 2 1 a.heap.size w2 (.slice A (l.length + b.keys.length) cc) (l ++ b.keys) := by have := O1.out.ext x2; rwa [List.length_append] at this
    have x2 := x1.trans x2
    have OF := OE.ext ((Ext.refl w2).alloc (.cells #[.int .i64 k] 2))
    have x3 := x2.alloc (.cells #[.int .i64 k] 2)
    go_wp2_with (at_builtin; refine wpList_app i64E rfl (.tmp 27) (.tmp 30) rfl rfl rfl OF (lit_sl (enc := E12) k rfl) ?h1 ?h2 x3.size ?_; (case h1 => have := HM.out; have := HB.out; simp only [maxLen, List.length_append, List.length_singleton]; omega); (case h2 => have := HM.out; have := HB.out; simp only [List.length_append, List.length_singleton]; omega); intro v3 w3 o3 a3)
    have x4 := AppTo.ext a3 x3 OF
    refine (IC.out _ _ _ x4 o3 (by have := HB.out; simp; omega)).mono ?_; rintro e w5 ⟨v5, rfl, x5, o5⟩
    clear x1 x2 OE OF x3 o3 a3 O1
    go_wp2_with fail
    refine bodyPost_ret (v := .tuple #[v5, .bool true]) (by simp [results, Try.results111, go_sem]) rfl ?_
    exact ⟨_, rfl, x5, by simpa [T.keys] using o5⟩
end Go.Proofs.Ytlehcagpddgamaa
