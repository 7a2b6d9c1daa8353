/- shape.Line: a tree's line. -/
import Derived.Test.YtgpegcjgmoiglaaDoorBld
import Derived.Test.YtgpegcjgmoiglaaDoorShapeLaw
import Derived.Test.YtgpegcjgmoiglaaDoorNode
import Derived.Deep.RegionHeld3
namespace Go.Proofs.YtgpegcjgmoiglaaDoor
open Go.RowKit Go.Lib
set_option linter.unusedVariables false

/-- The function that writes a node. -/
def putF (b p : Nat) : Value := .func (.func 35) #[] #[.pointer (some ⟨b, 0, none⟩), .pointer (some ⟨p, 0, none⟩)]
/-- What stands in memory while a line is written: the builder with what is written, and the function. -/
structure LS (w0 w : World) (l : List UInt8) : Prop where
  x : Ext w0 w
  b : IsBuilderF 60 5 w0.heap.size w0.heap.size (byteCells l) w
  p : Blk w (w0.heap.size + 1) 53 #[putF w0.heap.size (w0.heap.size + 1)]
section
variable {w0 w w' : World} {l : List UInt8}
theorem BuilderAtF.ext {T e : TypeId} {B b : Nat} {p : Value} {bs : List Value} (h : BuilderAtF T e B b p bs w) (x : Ext w w') : BuilderAtF T e B b p bs w' := by
  obtain ⟨hB, v, hb, hown, hne⟩ := h
  have hlt : b < w.heap.size := (Array.getElem?_eq_some_iff.1 hb).1
  refine ⟨hB, v, (x.blk hlt).trans hb, World.ownsRowF.kept (row := none) hown ⟨x.os, x.tape, x.output, x.size, fun i hi _ => x.blk hi⟩ ?_, hne⟩
  cases v.ownBlock with
  | none => exact .inl rfl
  | some k => exact .inr (by simp)
theorem IsBuilderF.ext {T e : TypeId} {B b : Nat} {bs : List Value} (h : IsBuilderF T e B b bs w) (x : Ext w w') : IsBuilderF T e B b bs w' := by
  rcases h with h | h
  · exact .inl (BuilderAtF.ext h x)
  · exact .inr (BuilderAtF.ext h x)
theorem LS.ext (h : LS w0 w l) (x : Ext w w') : LS w0 w' l := ⟨h.x.trans x, IsBuilderF.ext h.b x, h.p.ext x⟩
theorem LS.drew (h : LS w0 w l) : LS w0 w.drew l := h.ext ((Ext.refl w).drew)
theorem LS.drewN (h : LS w0 w l) (n : Nat) : LS w0 (w.drewN n) l := h.ext ((Ext.refl w).drewN n)
theorem LS.cell (h : LS w0 w l) : w.cell? ⟨w0.heap.size + 1, 0, none⟩ = some (putF w0.heap.size (w0.heap.size + 1)) := h.p.cell 0
theorem LS.wb (h : LS w0 w l) (c : UInt8) {n : Int} (hn : (c.toNat : Int) = n) (hl : l.length ≤ 1000000000000) :
    Calls Tryd.prog 36 #[.pointer (some ⟨w0.heap.size, 0, none⟩), .int .u8 n] w fun e w' => e = .returned .nilIface ∧ LS w0 w' (l ++ [c]) := by
  subst hn
  refine (writeByte_k w0.heap.size w0.heap.size _ (c.toNat : Int) w h.b (by rw [byteCells_length]; omega) h.x.size).mono ?_
  rintro e w' ⟨rfl, h1, h2, h3⟩
  refine ⟨rfl, Below.trans h.x h2, .inr (by rw [byteCells_append]; exact h1), h3 _ _ h.p (by simp) (by intro c fz e; simp at e)⟩
theorem LS.ws (h : LS w0 w l) {s : ByteArray} {m : List UInt8} (hs : s.data.toList = m) (hl : l.length + m.length ≤ 1000000000000) :
    Calls Tryd.prog 37 #[.pointer (some ⟨w0.heap.size, 0, none⟩), .string s] w fun e w' => ∃ n : Int, e = .returned (.tuple #[.int .i64 n, .nilIface]) ∧ LS w0 w' (l ++ m) := by
  subst hs
  have e : s.size = s.data.toList.length := (Array.length_toList).symm
  refine (writeString_k w0.heap.size w0.heap.size _ s w h.b (by rw [byteCells_length]; omega) h.x.size).mono ?_
  rintro e w' ⟨rfl, h1, h2, h3⟩
  refine ⟨_, rfl, Below.trans h.x h2, .inr (by rw [byteCells_append]; exact h1), h3 _ _ h.p (by simp) (by intro c fz e; simp at e)⟩
end
theorem itoa_len (n : Int) (h : I64 n) : (itoa n).length ≤ 21 := itoa_length_le n h.1 h.2
theorem dec_len (u : Nat) (h : u < 18446744073709551616) : (decDigits u).length ≤ 20 := by
  rw [decDigits_length]
  by_cases h1 : 1 ≤ u
  · have := numDigits_eq u h1 h; split at this <;> omega
  · obtain rfl : u = 0 := by omega
    rw [nDigits_small (by omega)]; omega
theorem tagL_len (g : Int) (h : g < 18446744073709551616) : (tagL g).length ≤ 21 := by
  unfold tagL
  split
  · simp
  · have := dec_len g.toNat (by omega)
    simp; omega
theorem lineT_len : ∀ {t : T}, RngT t → (lineT t).length ≤ 80 * t.size + 1
  | .nil, _ => Nat.le_refl _
  | .node k x g a b, ⟨hk, hx, hg, ha, hb⟩ => by
    have h1 := lineT_len ha
    have h2 := lineT_len hb
    have h3 := itoa_len k hk
    have h4 := itoa_len x hx
    have h5 := tagL_len g hg.2
    simp only [lineT, midL, T.size, List.length_cons, List.length_append, List.length_nil]
    omega
set_option maxRecDepth 100000 in
set_option maxHeartbeats 8000000 in
theorem put_any (w0 : World) (hl0 : Laid w0) (t : T) : ∀ {v : Value} {w : World} {l : List UInt8}, Tr w0 v t → RngT t → LS w0 w l → l.length + t.size * 100 ≤ 900000000000 →
    Calls Tryd.prog 35 #[v, .pointer (some ⟨w0.heap.size, 0, none⟩), .pointer (some ⟨w0.heap.size + 1, 0, none⟩)] w fun e w' => e = .returned (.tuple #[]) ∧ LS w0 w' (l ++ lineT t) := by
  induction t with
  | nil =>
    intro v w l hv _ hs hm
    obtain rfl : v = .pointer none := hv
    have W := hs.wb 46 (n := 46) rfl (by omega)
    go_enter Tryd.func35, Tryd.ntmps35
    go_wp2_with fail
    refine W.mono ?_; rintro e w1 ⟨rfl, h1⟩
    go_wp2_with fail
    refine bodyPost_ret (results_none rfl _ _ _) rfl ?_
    exact ⟨rfl, h1⟩
  | node k x g a b iha ihb =>
    intro v w l hv hr hs hm
    obtain ⟨hk, hx, hg, hra, hrb⟩ := hr
    obtain ⟨u, rfl⟩ : ∃ u : Nat, (u : Int) = g := ⟨g.toNat, by omega⟩
    have hu : u < 18446744073709551616 := by omega
    have n1 : ¬ 9223372036854775807 < 1 + (itoa k).length := by have := itoa_len k hk; omega
    have n2 : ¬ 9223372036854775807 < 1 + (itoa k).length + 1 := by have := itoa_len k hk; omega
    have n3 : ¬ 9223372036854775807 < 1 + (itoa k).length + 1 + (itoa x).length := by have := itoa_len k hk; have := itoa_len x hx; omega
    have n4 : ¬ 9223372036854775807 < 1 + (decDigits u).length := by have := dec_len u hu; omega
    have LK := Lib.hid (And.intro (itoa_len k hk) (And.intro (itoa_len x hx) (dec_len u hu)))
    obtain ⟨bn, va, vb, rfl, hat, ta, tb⟩ := hv
    obtain ⟨pa, rfl⟩ := ta.ptr
    obtain ⟨pb, rfl⟩ := tb.ptr
    simp only [T.size] at hm
    have SK := hs.wb 40 (n := 40) rfl (by omega)
    have HM := Lib.hid (And.intro hm (And.intro (lineT_len hra) (lineT_len hrb)))
    have HK := Lib.hid hk
    have HX := Lib.hid hx
    have HG := Lib.hid hu
    clear hm hk hx hg hu
    have T0 := Lib.hid (show Tr w0 (.pointer (some ⟨bn, 0, none⟩)) (.node k x (u : Int) a b) from ⟨bn, _, _, rfl, hat, ta, tb⟩)
    go_enter Tryd.func35, Tryd.ntmps35
    go_wp2_with fail
    refine SK.mono ?_; rintro e w1 ⟨rfl, s1⟩
    have c1 := s1.cell
    unfold putF at c1
    go_wp2_with fail
    go_region_held3 (fun w' => w'.cell? ⟨w0.heap.size + 1, 0, none⟩ = some (.func (.func 35) #[] #[.pointer (some ⟨w0.heap.size, 0, none⟩), .pointer (some ⟨w0.heap.size + 1, 0, none⟩)])) (go_keep)
      (first
        | (go_at_call 33; refine (left_at (by first | exact hat.ext s1.x | exact hat.ext s1.drew.x)).mono ?_; rintro e w' ⟨rfl, rfl⟩)
        | (go_at_call 35; refine (iha ta hra (by first | exact s1 | exact s1.drew) (by have := HM.out; simp; omega)).mono ?_; rintro e w2 ⟨rfl, s2⟩; have c2 : w2.cell? ⟨w0.heap.size + 1, 0, none⟩ = some (.func (.func 35) #[] #[.pointer (some ⟨w0.heap.size, 0, none⟩), .pointer (some ⟨w0.heap.size + 1, 0, none⟩)]) := s2.cell))
    go_wp2_with fail
    refine (key_any (T0.out.ext s2.x)).mono ?_; rintro e w3 ⟨rfl, x3⟩
    have s3 := s2.ext x3
    go_wp2_with fail
    refine (fmtI k HK.out.1 HK.out.2 (hl0.ext s3.x)).mono ?_; rintro e w4 ⟨rfl, x4⟩
    have s4 := s3.ext x4
    go_wp2_with fail
    refine (val_any (T0.out.ext s4.x)).mono ?_; rintro e w5 ⟨rfl, x5⟩
    have s5 := s4.ext x5
    go_wp2_with fail
    refine (fmtI x HX.out.1 HX.out.2 (hl0.ext s5.x)).mono ?_; rintro e w6 ⟨rfl, x6⟩
    have s6 := s5.ext x6
    go_wp2_with fail
    refine (s6.ws (m := 32 :: (itoa k ++ 58 :: itoa x)) (by simp) (by have := HM.out; have := LK.out; simp; omega)).mono ?_; rintro e w7 ⟨q7, rfl, s7⟩
    clear n1 n2 n3
    go_wp2_with fail
    have TG : ∀ W : World, Ext w0 W → Calls Tryd.prog 32 #[.pointer (some ⟨bn, 0, none⟩)] W fun e w' => e = .returned (.int .u64 (u : Int)) ∧ Ext W w' := fun W X => tag_any (T0.out.ext X)
    have TG := Lib.hid TG
    refine (TG.out _ s7.x).mono ?_; rintro e w8 ⟨rfl, x8⟩
    have s8 := s7.ext x8
    by_cases hu0 : (u : Int) = 0
    · have eT : tagL (u : Int) = [] := by unfold tagL; rw [if_pos hu0]
      have ET := Lib.hid eT
      clear eT
      go_wp2_with fail
      refine (s8.wb 32 (n := 32) rfl (by have := HM.out; have := LK.out; simp; omega)).mono ?_; rintro e w9 ⟨rfl, s9⟩
      have c9 := s9.cell
      unfold putF at c9
      go_wp2_with fail
      go_region_held3 (fun w' => w'.cell? ⟨w0.heap.size + 1, 0, none⟩ = some (.func (.func 35) #[] #[.pointer (some ⟨w0.heap.size, 0, none⟩), .pointer (some ⟨w0.heap.size + 1, 0, none⟩)])) (go_keep)
        (first
          | (go_at_call 34; refine (right_at (by first | exact hat.ext s9.x | exact hat.ext s9.drew.x)).mono ?_; rintro e w' ⟨rfl, rfl⟩)
          | (go_at_call 35; refine (ihb tb hrb (by first | exact s9 | exact s9.drew) (by have := HM.out; have := LK.out; simp; omega)).mono ?_; rintro e w10 ⟨rfl, s10⟩; have c10 : w10.cell? ⟨w0.heap.size + 1, 0, none⟩ = some (.func (.func 35) #[] #[.pointer (some ⟨w0.heap.size, 0, none⟩), .pointer (some ⟨w0.heap.size + 1, 0, none⟩)]) := s10.cell))
      go_wp2_with fail
      refine (s10.wb 41 (n := 41) rfl (by have := HM.out; have := LK.out; simp; omega)).mono ?_; rintro e w11 ⟨rfl, s11⟩
      go_wp2_with fail
      go_end0
      refine ⟨rfl, ?_⟩
      have e : l ++ lineT (.node k x (u : Int) a b) = l ++ [40] ++ lineT a ++ 32 :: (itoa k ++ 58 :: itoa x) ++ [32] ++ lineT b ++ [41] := by simp [lineT, midL, ET.out]
      rw [e]
      exact s11
    · have eT : tagL (u : Int) = 35 :: decDigits u := by unfold tagL; rw [if_neg hu0, Int.toNat_natCast]
      have ET := Lib.hid eT
      clear eT
      go_wp2_with fail
      refine (TG.out _ s8.x).mono ?_; rintro e w8a ⟨rfl, x8a⟩
      have s8a := s8.ext x8a
      go_wp2_with fail
      refine (fmtU u HG.out (hl0.ext s8a.x)).mono ?_; rintro e w8b ⟨rfl, x8b⟩
      have s8b := s8a.ext x8b
      go_wp2_with fail
      refine (s8b.ws (m := 35 :: decDigits u) (by simp) (by have := HM.out; have := LK.out; simp; omega)).mono ?_; rintro e w8c ⟨q8, rfl, s8c⟩
      clear n4
      go_wp2_with fail
      refine (s8c.wb 32 (n := 32) rfl (by have := HM.out; have := LK.out; simp; omega)).mono ?_; rintro e w9 ⟨rfl, s9⟩
      have c9 := s9.cell
      unfold putF at c9
      go_wp2_with fail
      go_region_held3 (fun w' => w'.cell? ⟨w0.heap.size + 1, 0, none⟩ = some (.func (.func 35) #[] #[.pointer (some ⟨w0.heap.size, 0, none⟩), .pointer (some ⟨w0.heap.size + 1, 0, none⟩)])) (go_keep)
        (first
          | (go_at_call 34; refine (right_at (by first | exact hat.ext s9.x | exact hat.ext s9.drew.x)).mono ?_; rintro e w' ⟨rfl, rfl⟩)
          | (go_at_call 35; refine (ihb tb hrb (by first | exact s9 | exact s9.drew) (by have := HM.out; have := LK.out; simp; omega)).mono ?_; rintro e w10 ⟨rfl, s10⟩; have c10 : w10.cell? ⟨w0.heap.size + 1, 0, none⟩ = some (.func (.func 35) #[] #[.pointer (some ⟨w0.heap.size, 0, none⟩), .pointer (some ⟨w0.heap.size + 1, 0, none⟩)]) := s10.cell))
      go_wp2_with fail
      refine (s10.wb 41 (n := 41) rfl (by have := HM.out; have := LK.out; simp; omega)).mono ?_; rintro e w11 ⟨rfl, s11⟩
      go_wp2_with fail
      go_end0
      refine ⟨rfl, ?_⟩
      have e : l ++ lineT (.node k x (u : Int) a b) = l ++ [40] ++ lineT a ++ 32 :: (itoa k ++ 58 :: itoa x) ++ 35 :: decDigits u ++ [32] ++ lineT b ++ [41] := by simp [lineT, midL, ET.out]
      rw [e]
      exact s11
end Go.Proofs.YtgpegcjgmoiglaaDoor
