/- Numbers as text: strconv.FormatInt, FormatUint, ParseInt, ParseUint at base 10, in whatever world in which the library's variables are laid. -/
import Derived.Test.YtgpegcjgmoiglaaDoorShelf
import Derived.Test.YtgpegcjgmoiglaaDoorBase
import Derived.Test.YtgpegcjgmoiglaaDoorNumLaw
import Derived.Lib.AppendIntMem
import Derived.Lib.SmallJoins
namespace Go.Proofs.YtgpegcjgmoiglaaDoor
open Go.RowKit Go.Lib Go.Sort
set_option linter.unusedVariables false

/-- The library's variables hold what the program's text lays. -/
structure Laid (w : World) : Prop where
  tab : TabIs Tryd.prog w "internal/strconv.uint64pow10" .u64 pow10Tab
  syn : ∃ tp p, w.var? Tryd.prog "strconv.ErrSyntax" = some #[.iface tp p]
  rng : ∃ tp p, w.var? Tryd.prog "strconv.ErrRange" = some #[.iface tp p]
theorem var_ext {w w' : World} {nm : String} {cs : Array Value} (h : w.var? Tryd.prog nm = some cs) (x : Ext w w') : w'.var? Tryd.prog nm = some cs := by
  unfold World.var? at h ⊢
  cases hg : Tryd.prog.globalNamed nm with
  | none => rw [hg] at h; cases h
  | some g =>
    rw [hg] at h
    simp only [Option.bind_some] at h ⊢
    have hlt : g < w.heap.size := by
      rcases Nat.lt_or_ge g w.heap.size with h' | h'
      · exact h'
      · rw [Array.getElem?_eq_none h'] at h; cases h
    rw [x.blk hlt]
    exact h
theorem Laid.ext {w w' : World} (h : Laid w) (x : Ext w w') : Laid w' := by
  obtain ⟨h1, ⟨_, _, h2⟩, ⟨_, _, h3⟩⟩ := h
  exact ⟨var_ext h1 x, ⟨_, _, var_ext h2 x⟩, ⟨_, _, var_ext h3 x⟩⟩
theorem grow_ext (w : World) (k : Nat) (os : Array Obj) : Ext w (grow (w.drewN k) os) := below_grow w.heap.size w (Nat.le_refl _) k os
theorem fmtI (n : Int) (h0 : -9223372036854775808 ≤ n) (h1 : n ≤ 9223372036854775807) {w : World} (h : Laid w) :
    Calls Tryd.prog 38 #[.int .i64 n, .int .i64 10] w fun e w' => e = .returned (.string ⟨(itoa n).toArray⟩) ∧ Ext w w' := by
  refine (Tryd.strconv_FormatInt_10 n h0 h1 w h.tab).mono ?_
  rintro e w' ⟨rfl, k, os, rfl⟩
  exact ⟨rfl, grow_ext w k os⟩
theorem parseI_ok (s : ByteArray) (hs : s.size ≤ 281474976710656) {n : Int} (h : parseIntB 64 s.data.toList = .ok n) {w : World} :
    Calls Tryd.prog 60 #[.string s, .int .i64 10, .int .i64 64] w fun e w' => e = .returned (.tuple #[.int .i64 n, .nilIface]) ∧ Ext w w' := by
  refine (Tryd.strconv_ParseInt_10_at64_ok s (by omega) n h w).mono ?_
  rintro e w' ⟨rfl, rfl | ⟨t, rfl⟩⟩
  · exact ⟨rfl, Ext.refl _⟩
  · exact ⟨rfl, Joins.below_bytesWorld _ _ _ _ (Nat.le_refl _)⟩
theorem parseI_err (s : ByteArray) (hs : s.size ≤ 281474976710656) (h : ∀ n, parseIntB 64 s.data.toList ≠ .ok n) {w : World} (hw : Laid w) :
    Calls Tryd.prog 60 #[.string s, .int .i64 10, .int .i64 64] w fun e w' => ∃ (n : Int) (T : TypeId) (N : Nat), (-9223372036854775808 ≤ n ∧ n ≤ 9223372036854775807) ∧ e = .returned (.tuple #[.int .i64 n, .iface T (.pointer (some ⟨N, 0, none⟩))]) ∧ Ext w w' := by
  obtain ⟨_, ⟨t1, p1, h1⟩, ⟨t2, p2, h2⟩⟩ := hw
  cases hp : parseIntB 64 s.data.toList
  · exact absurd hp (h _)
  · refine (Any.strconv_ParseInt_10_at64_syntax_var Tryd.laysC174 s hs hp t1 p1 w h1).mono ?_
    rintro e w' ⟨N, rfl, _, _, x⟩
    exact ⟨0, _, N, by omega, rfl, x⟩
  · refine (Any.strconv_ParseInt_10_at64_range_var Tryd.laysC174 s hs hp t2 p2 w h2).mono ?_
    rintro e w' ⟨N, rfl, _, _, x⟩
    exact ⟨_, _, N, intSat_bounds _, rfl, x⟩
theorem parseU_ok (s : ByteArray) (hs : s.size ≤ 281474976710656) {u : Nat} (h : parseUintB 64 s.data.toList = .ok u) {w : World} :
    Calls Tryd.prog 61 #[.string s, .int .i64 10, .int .i64 64] w fun e w' => e = .returned (.tuple #[.int .u64 (u : Int), .nilIface]) ∧ Ext w w' := by
  refine (Tryd.strconv_ParseUint_10_at64_ok s (by omega) u h w).mono ?_
  rintro e w' ⟨rfl, h⟩
  rcases h with rfl | ⟨t, rfl⟩
  · exact ⟨rfl, Ext.refl _⟩
  · exact ⟨rfl, Joins.below_bytesWorld _ _ _ _ (Nat.le_refl _)⟩
theorem parseU_err (s : ByteArray) (hs : s.size ≤ 281474976710656) (h : ∀ n, parseUintB 64 s.data.toList ≠ .ok n) {w : World} (hw : Laid w) :
    Calls Tryd.prog 61 #[.string s, .int .i64 10, .int .i64 64] w fun e w' => ∃ (n : Int) (T : TypeId) (N : Nat), (0 ≤ n ∧ n < 18446744073709551616) ∧ e = .returned (.tuple #[.int .u64 n, .iface T (.pointer (some ⟨N, 0, none⟩))]) ∧ Ext w w' := by
  obtain ⟨_, ⟨t1, p1, h1⟩, ⟨t2, p2, h2⟩⟩ := hw
  cases hp : parseUintB 64 s.data.toList
  · exact absurd hp (h _)
  · refine (Any.strconv_ParseUint_10_at64_syntax_var Tryd.laysPu14 s hs hp t1 p1 w h1).mono ?_
    rintro e w' ⟨N, rfl, _, _, x⟩
    exact ⟨0, _, N, by omega, rfl, x⟩
  · refine (Any.strconv_ParseUint_10_at64_range_var Tryd.laysPu14 s hs hp t2 p2 w h2).mono ?_
    rintro e w' ⟨N, rfl, _, _, x⟩
    exact ⟨_, _, N, by decide, rfl, x⟩
theorem fin_u (w : World) (o : Obj) (dk : Array UInt8) (k : Nat) : ∃ os, (putRow (fun (b : UInt8) => Value.int .u8 (b.toNat : Int)) (w.alloc o) w.heap.size 0 dk).drewN k = grow (w.drewN k) os := by
  rw [alloc_eq_grow]
  obtain ⟨os', _, e⟩ := putRow_grow_new (fun (b : UInt8) => Value.int .u8 (b.toNat : Int)) w #[o] w.heap.size 0 dk (Nat.le_refl _)
  exact ⟨os', by rw [e]; rfl⟩
set_option maxRecDepth 100000 in
set_option maxHeartbeats 4000000 in
theorem fmtU_in (u : Nat) (hu64 : u < 18446744073709551616) {w : World} (hl : Laid w) :
    Calls Tryd.prog 54 #[.int .u64 (u : Int), .int .i64 10] w fun e w' => e = .returned (.string ⟨(decDigits u).toArray⟩) ∧ Ext w w' := by
  by_cases h100 : u < 100
  · have h1 : (u : Int) < 100 := by omega
    have SM := Lib.hid (Tryd.internal_strconv_small u h100)
    have X := Lib.hid (Ext.refl w)
    go_enter Tryd.func54, Tryd.ntmps54
    go_wp2_with fail
    refine (SM.out _).mono ?_; rintro e w' ⟨rfl, rfl⟩
    go_wp2_with fail
    go_ret
    exact ⟨rfl, X.out⟩
  · have hu1 : 1 ≤ u := by omega
    have h1 : ¬ (u : Int) < 100 := by omega
    have hnd20 : nDigits u ≤ 20 := by have := numDigits_eq u hu1 hu64; split at this <;> omega
    have hal : Tryd.prog.arrayLen 101 = 24 := by simp [Program.arrayLen, Tryd.underlying101]
    have hsl1 : ∀ W, (Instr.sliceAt 101 (.pointer (some ⟨w.heap.size, 0, none⟩)) none (some (.int .i64 ((nDigits u : Nat) : Int))) none).run Tryd.prog W = .ok (.slice (some ⟨w.heap.size, 0, none⟩) (nDigits u) 24) W := fun W => by
      rw [run_sliceAt_array_h W 101 ⟨w.heap.size, 0, none⟩ (by simp [Program.arrayLen, Program.elem, Tryd.underlying101]) .i64 ((nDigits u : Nat) : Int) (by omega) (by rw [hal]; omega)]
      go_simp
    have hH0 := holds_zero0 w 101 (nDigits u) (by omega)
    have hfmt := Tryd.internal_strconv_formatBase10 w.heap.size 0 24 u (Array.replicate (nDigits u) 0) (w.alloc (.cells zeros24 101)) hH0 (by rw [Array.size_replicate]; exact lt_pow_nDigits u) hu64 (by rw [Array.size_replicate]; omega)
    rw [Array.size_replicate] at hfmt
    have HH0 := Lib.hid hH0
    have ND := Lib.hid (Tryd.internal_strconv_numDigits u hu1 hu64 (w.alloc (.cells zeros24 101)) (tabIs_alloc hl.tab _))
    clear hH0 hal
    go_enter Tryd.func54, Tryd.ntmps54
    go_wp2_with fail
    refine ND.out.mono ?_; rintro e w' ⟨rfl, rfl⟩
    go_wp2_with fail
    refine hfmt.mono ?_
    rintro e w' ⟨rfl, k, v', dk, rfl, hF⟩
    have hcv : (convert 58 9 (.slice (some ⟨w.heap.size, 0, none⟩) (nDigits u) 24)).run Tryd.prog ((putRow (fun (b : UInt8) => Value.int .u8 (b.toNat : Int)) (w.alloc (.cells zeros24 101)) w.heap.size 0 dk).drewN k) = .ok (.string ⟨(decDigits u).toArray⟩) ((putRow (fun (b : UInt8) => Value.int .u8 (b.toNat : Int)) (w.alloc (.cells zeros24 101)) w.heap.size 0 dk).drewN k) := by
      have h := run_convert_bytes_back (P := Tryd.prog) ((putRow (fun (b : UInt8) => Value.int .u8 (b.toNat : Int)) (w.alloc (.cells zeros24 101)) w.heap.size 0 dk).drewN k) 58 9 5 ⟨w.heap.size, 0, none⟩ 24 (decDigits u) Tryd.underlying58 Tryd.underlying5 Tryd.underlying9 (fun j hj => by
        rw [row_is_numeral hF j hj, add_plain, World.cell?_drewN]
        exact cell?_putRow (fun (b : UInt8) => Value.int .u8 (b.toNat : Int)) _ w.heap.size 0 _ dk HH0.out (by rw [hF.size, Array.size_replicate]) j (by rw [hF.size]; rw [decDigits_length] at hj; exact hj))
      rw [decDigits_length] at h
      exact h
    go_wp2_with fail
    go_ret
    obtain ⟨os, eo⟩ := fin_u w (.cells zeros24 101) dk k
    refine ⟨rfl, ?_⟩
    rw [eo]
    exact grow_ext w k os
set_option maxHeartbeats 1000000 in
theorem fmtU (u : Nat) (hu64 : u < 18446744073709551616) {w : World} (hl : Laid w) :
    Calls Tryd.prog 39 #[.int .u64 (u : Int), .int .i64 10] w fun e w' => e = .returned (.string ⟨(decDigits u).toArray⟩) ∧ Ext w w' := by
  have H := fmtU_in u hu64 hl
  go_enter Tryd.func39, Tryd.ntmps39
  go_wp2_with fail
  refine H.mono ?_; rintro e w' ⟨rfl, x⟩
  go_wp2_with fail
  go_ret
  exact ⟨rfl, x⟩
end Go.Proofs.YtgpegcjgmoiglaaDoor
