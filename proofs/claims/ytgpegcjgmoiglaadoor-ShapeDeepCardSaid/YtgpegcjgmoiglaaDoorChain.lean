/- joinerylaw11.chain: beads of a tree in which each node stands on one side of the one above it. -/
import Derived.Test.YtgpegcjgmoiglaaDoorOf
import Derived.Test.YtgpegcjgmoiglaaDoorTakeLaw
namespace Go.Proofs.YtgpegcjgmoiglaaDoor
open Go.RowKit
set_option linter.unusedVariables false

def chainB (n : Nat) (left : Bool) (i : Nat) : Bead := { key := 0, val := 0, sum := 0, size := 0, tag := 0, left := left && decide (i + 1 < n), right := !left && decide (i + 1 < n) }
def chainL (n : Nat) (left : Bool) (k : Nat) : List Bead := (List.range k).map (chainB n left)
theorem chainL_length (n : Nat) (left : Bool) (k : Nat) : (chainL n left k).length = k := by simp [chainL]
theorem chainL_succ (n : Nat) (left : Bool) (k : Nat) : chainL n left (k + 1) = chainL n left k ++ [chainB n left k] := by simp [chainL, List.range_succ]
/-- The tree. -/
def chainT (left : Bool) : Nat → T
  | 0 => .nil
  | n + 1 => .node 0 0 0 (if left then chainT left n else .nil) (if left then .nil else chainT left n)
theorem chainT_size (left : Bool) : ∀ n, (chainT left n).size = n
  | 0 => rfl
  | n + 1 => by
    have h := chainT_size left n
    cases left
    · show 0 + 1 + (chainT false n).size = n + 1
      omega
    · show (chainT true n).size + 1 + 0 = n + 1
      omega
theorem chainT_height (left : Bool) : ∀ n, (chainT left n).height = n
  | 0 => rfl
  | n + 1 => by
    have h := chainT_height left n
    cases left
    · show 1 + max 0 (chainT false n).height = n + 1
      omega
    · show 1 + max (chainT true n).height 0 = n + 1
      omega
theorem chainT_rng (left : Bool) : ∀ n, RngT (chainT left n)
  | 0 => trivial
  | n + 1 => by cases left <;> exact ⟨by unfold I64; omega, by unfold I64; omega, by omega, by first | exact chainT_rng _ n | trivial, by first | exact chainT_rng _ n | trivial⟩
theorem chainT_some (left : Bool) (n : Nat) : (chainT left n).some = decide (0 < n) := by cases n <;> simp [chainT, T.some]
theorem chain_ser (left : Bool) : ∀ n, Ser (chainL n left n) (chainT left n) := by
  have key : ∀ (m k : Nat), Ser ((List.range m).map fun i => chainB (k + m) left (k + i)) (chainT left m) := by
    intro m
    induction m with
    | zero => intro k; rfl
    | succ m ih =>
      intro k
      have h := ih (k + 1)
      have e : (List.range (m + 1)).map (fun i => chainB (k + (m + 1)) left (k + i)) = chainB (k + (m + 1)) left k :: (List.range m).map (fun i => chainB (k + 1 + m) left (k + 1 + i)) := by
        rw [List.range_succ_eq_map, List.map_cons, List.map_map]
        congr 1
        apply List.map_congr_left
        intro i _
        simp only [Function.comp]
        rw [show k + (m + 1) = k + 1 + m from by omega, show k + Nat.succ i = k + 1 + i from by omega]
      rw [e]
      have hd : decide (k + 1 < k + (m + 1)) = decide (0 < m) := by rw [Bool.eq_iff_iff]; simp
      cases left with
      | true => exact ⟨_, _, [], by rw [List.append_nil], rfl, rfl, rfl, by simp only [chainB, if_true, chainT_some, Bool.true_and]; exact hd, by simp [chainB, T.some], h, rfl⟩
      | false => exact ⟨_, [], _, by rw [List.nil_append], rfl, rfl, rfl, by simp [chainB, T.some], by show (!false && decide (k + 1 < k + (m + 1))) = (chainT false m).some; rw [chainT_some, Bool.not_false, Bool.true_and]; exact hd, rfl, h⟩
  intro n
  have := key n 0
  simpa [chainL] using this
set_option maxRecDepth 100000 in
set_option maxHeartbeats 8000000 in
theorem chain_any {w : World} (n : Nat) {iN : Int} (left : Bool) (hn : (n : Int) = iN) (hm : n ≤ 5000) :
    Calls Tryd.prog 22 #[.int .i64 iN, .bool left] w fun e w' => ∃ v, e = .returned v ∧ Own Bead.enc 44 7 w.heap.size w' v (chainL n left n) ∧ Ext w w' := by
  have HN := Lib.hid (And.intro hn hm)
  have hi9 : iN ≤ 5000 := by omega
  clear hn hm
  go_enter Tryd.func22, Tryd.ntmps22
  go_wp2_with fail
  go_loopw [5, 6] (fun o i wr => ∃ k : Nat, k ≤ n ∧ i = .int .i64 (k : Int) ∧ Own Bead.enc 44 7 w.heap.size wr o (chainL n left k) ∧ Ext w wr) (fun _ i _ => n - (RowKit.intOf i).toNat)
  case atStart => exact ⟨0, Nat.zero_le _, rfl, Own.nil_ _ _ _, Ext.refl w⟩
  case round =>
    obtain ⟨k, hk, rfl, o1, x1⟩ := hrel
    have HO := Lib.hid (And.intro o1 x1)
    obtain ⟨AA, cc, rfl, hcc, hrr⟩ := o1.sl Bead.enc_len (by omega)
    clear hcc hrr
    have HK := Lib.hid hk
    clear o1 x1
    rw [chainL_length]
    by_cases hlt : k < n
    · have hlt2 : (k : Int) < iN := by have := HN.out.1; omega
      have hk9 : (k : Int) ≤ 5000 := by omega
      have hdd : decide ((k : Int) + 1 < iN) = decide (k + 1 < n) := by have := HN.out.1; rw [Bool.eq_iff_iff]; simp only [decide_eq_true_eq]; omega
      have HL := Lib.hid (show k + 1 ≤ n from hlt)
      clear hk hlt
      cases left with
      | true =>
        have H1 : Hid ((chainL n true k).length + ([chainB n true k] : List Bead).length ≤ maxLen) := Lib.hid (by have := HN.out; have := HK.out; simp only [maxLen, chainL_length, List.length_singleton]; omega)
        have H2 : Hid (((chainL n true k).length + ([chainB n true k] : List Bead).length) * 48 ≤ 140737488355328) := Lib.hid (by have := HN.out; have := HK.out; simp only [chainL_length, List.length_singleton]; omega)
        have O2 : Hid (Own Bead.enc 44 7 w.heap.size (wr.alloc (.cells #[.int .i64 0, .int .i64 0, .int .i64 0, .int .i64 0, .int .u64 0, .bool (decide (k + 1 < n)), .bool false] 44)) (.slice AA k cc) (chainL n true k)) := Lib.hid (by have o := HO.out.1.ext ((Ext.refl wr).alloc (.cells #[.int .i64 0, .int .i64 0, .int .i64 0, .int .i64 0, .int .u64 0, .bool (decide (k + 1 < n)), .bool false] 44)); rwa [chainL_length] at o)
        have L2 : Hid (Sl Bead.enc (wr.alloc (.cells #[.int .i64 0, .int .i64 0, .int .i64 0, .int .i64 0, .int .u64 0, .bool (decide (k + 1 < n)), .bool false] 44)) (.slice (some ⟨wr.heap.size, 0, none⟩) 1 1) [chainB n true k]) := Lib.hid (lit_sl (enc := Bead.enc) (chainB n true k) (by simp [Bead.enc, chainB]))
        have Z2 := Lib.hid (HO.out.2.alloc (.cells #[.int .i64 0, .int .i64 0, .int .i64 0, .int .i64 0, .int .u64 0, .bool (decide (k + 1 < n)), .bool false] 44))
        go_wp2_with (at_builtin; refine wpList_app beadE rfl (.tmp 12) (.tmp 29) rfl rfl rfl O2.out L2.out H1.out H2.out Z2.out.size ?_; intro v3 w3 o3 a3)
        exact ⟨⟨k + 1, HL.out, by go_num, by rw [chainL_succ]; exact o3, AppTo.ext a3 Z2.out O2.out⟩, by have := HL.out; simp only [RowKit.intOf]; omega⟩
      | false =>
        have H1 : Hid ((chainL n false k).length + ([chainB n false k] : List Bead).length ≤ maxLen) := Lib.hid (by have := HN.out; have := HK.out; simp only [maxLen, chainL_length, List.length_singleton]; omega)
        have H2 : Hid (((chainL n false k).length + ([chainB n false k] : List Bead).length) * 48 ≤ 140737488355328) := Lib.hid (by have := HN.out; have := HK.out; simp only [chainL_length, List.length_singleton]; omega)
        have O2 : Hid (Own Bead.enc 44 7 w.heap.size (wr.alloc (.cells #[.int .i64 0, .int .i64 0, .int .i64 0, .int .i64 0, .int .u64 0, .bool false, .bool (decide (k + 1 < n))] 44)) (.slice AA k cc) (chainL n false k)) := Lib.hid (by have o := HO.out.1.ext ((Ext.refl wr).alloc (.cells #[.int .i64 0, .int .i64 0, .int .i64 0, .int .i64 0, .int .u64 0, .bool false, .bool (decide (k + 1 < n))] 44)); rwa [chainL_length] at o)
        have L2 : Hid (Sl Bead.enc (wr.alloc (.cells #[.int .i64 0, .int .i64 0, .int .i64 0, .int .i64 0, .int .u64 0, .bool false, .bool (decide (k + 1 < n))] 44)) (.slice (some ⟨wr.heap.size, 0, none⟩) 1 1) [chainB n false k]) := Lib.hid (lit_sl (enc := Bead.enc) (chainB n false k) (by simp [Bead.enc, chainB]))
        have Z2 := Lib.hid (HO.out.2.alloc (.cells #[.int .i64 0, .int .i64 0, .int .i64 0, .int .i64 0, .int .u64 0, .bool false, .bool (decide (k + 1 < n))] 44))
        go_wp2_with (at_builtin; refine wpList_app beadE rfl (.tmp 12) (.tmp 29) rfl rfl rfl O2.out L2.out H1.out H2.out Z2.out.size ?_; intro v3 w3 o3 a3)
        exact ⟨⟨k + 1, HL.out, by go_num, by rw [chainL_succ]; exact o3, AppTo.ext a3 Z2.out O2.out⟩, by have := HL.out; simp only [RowKit.intOf]; omega⟩
    · have hge : ¬ (k : Int) < iN := by have := HN.out.1; omega
      obtain rfl : k = n := by omega
      clear hk hlt
      go_wp2_with fail
      go_ret
      have o := HO.out.1
      rw [chainL_length] at o
      exact ⟨_, rfl, o, HO.out.2⟩
end Go.Proofs.YtgpegcjgmoiglaaDoor
