/- Package share: all, Nodes, New, In, Same. -/
import Derived.Test.YtlehcagpddgamaaShare
namespace Go.Proofs.Ytlehcagpddgamaa
open Go.RowKit Go.Shelf G
attribute [local go_sem] Oper.semAt_some

/-- Pointers to trees of nodes, in a row. -/
def EG (p : Option Addr × G) : List Value := [.pointer p.1]
theorem EG_len (p : Option Addr × G) : (EG p).length = 1 := rfl
/-- The trees that are handed in. -/
def Trees (f : Nat → G) (w : World) (l : List (Option Addr × G)) : Prop := ∀ p ∈ l, GrS w (.pointer p.1) p.2 ∧ byF f p.2
theorem Trees.ext {f : Nat → G} {w w' : World} {l : List (Option Addr × G)} (h : Trees f w l) (x : Ext w w') : Trees f w' l := fun p hp => ⟨(h p hp).1.ext x, (h p hp).2⟩

section
variable {w w' : World} {m r : Nat} {S : List Nat}
/-- A set stays where no block of it is touched. -/
theorem SetI.kept (h : SetI w m S) (hm : w'.heap[m]? = w.heap[m]?) (hb : ∀ b ∈ S, w'.heap[b]? = w.heap[b]?) : SetI w' m S :=
  ⟨hm.trans h.set, fun b q => by obtain ⟨cs, t, e⟩ := h.isB b q; exact ⟨cs, t, (hb b q).trans e⟩⟩
theorem SetI.putObj (h : SetI w m S) (o : Obj) (hm : m ≠ r) (hb : ∀ b ∈ S, b ≠ r) : SetI (w.putObj r o) m S := h.kept (World.putObj_heap_other hm) fun b q => World.putObj_heap_other (hb b q)
theorem Ext.putObj {a : World} (h : Ext a w) (o : Obj) (hr : a.heap.size ≤ r) (hw : r < w.heap.size) : Ext a (w.putObj r o) := Below.grown h (grownBy_putObj' w r o) (by omega) (fun k e => by cases e; exact hr)
theorem SetI.notMark (h : SetI w m S) {rs : List Nat} (hM : Marked w rs) : m ∉ rs := fun q => by
  have e := hM.2 m q
  rw [h.set] at e; cases e
end
theorem make_set (w : World) : (Instr.makeMap 161 none).run Try.prog w = .ok (.map (some w.heap.size)) (w.alloc (.map #[] 0)) := by
  simp [Instr.makeMap, Result.andThen]
set_option maxRecDepth 100000 in
set_option maxHeartbeats 4000000 in
theorem allS_any {f : Nat → G} {l : List (Option Addr × G)} {v : Value} {w : World} (h : Sl EG w v l) (ht : Trees f w l) (hm : l.length ≤ 1000000000) :
    Calls Try.prog 145 #[v] w fun e w' => ∃ m, e = .returned (.map (some m)) ∧ w.heap.size ≤ m ∧ Ext w w' ∧ SetI w' m (allG (l.map Prod.snd)) := by
  obtain ⟨A, c, rfl, hc, hr⟩ := h
  have mk := make_set w
  refine (callsIn_wide (n := 8)).1 ?_
  refine callsIn_of_wp_marks Try.func145 rfl trivial ?_ rfl
  simp only [Try.ntmps145, List.size_toArray, List.length_cons, List.length_nil, Nat.reduceAdd, Nat.reduceSub, Array.replicate_succ, Array.replicate_zero, List.push_toArray, List.append_toArray, List.nil_append, List.cons_append]
  gi_wp2
  have x0 := (Ext.refl w).alloc (.map #[] 0)
  have s0 := SetI.nil (w := w)
  generalize w.alloc (.map #[] 0) = w0 at *
  refine wpIn_loop (fun a wr => ∃ (k : Nat) (rs : List Nat) (u5 u10 u11 u12 u13 u14 u15 u17 : Value), k ≤ l.length ∧
      a = { tmps := #[.slice A l.length c, undef, .map none, .map (some w.heap.size), undef, u5, .map (some w.heap.size), .slice A l.length c, .int .i64 (l.length : Int), .int .i64 (k : Int), u10, u11, u12, u13, u14, u15, undef, u17, undef], defers := rs.map mark } ∧
      Marked wr rs ∧ (∀ r ∈ rs, w.heap.size ≤ r) ∧ Ext w wr ∧ SetI wr w.heap.size (allG ((l.take k).map Prod.snd))) (fun a _ => l.length - (intOf (a.tmps.getD 9 undef)).toNat) ?start ?round
  case start => exact ⟨0, [], undef, undef, undef, undef, undef, undef, undef, undef, Nat.zero_le _, rfl, Marked.nil _, fun _ h => by simp at h, x0, s0⟩
  case round =>
    rintro a wr ⟨k, rs, u5, u10, u11, u12, u13, u14, u15, u17, hk, rfl, hM, hrs, hx, hS⟩
    have spec := allG_spec (f := f) (l := (l.take k).map Prod.snd) (fun t h => by
      obtain ⟨p, hp, rfl⟩ := List.mem_map.1 h
      exact (ht p (List.mem_of_mem_take hp)).2)
    have hlow : ∀ b ∈ allG ((l.take k).map Prod.snd), b < w.heap.size := fun b hb => by
      obtain ⟨t, h, hb⟩ := (spec.2.2 b).1 hb
      obtain ⟨p, hp, rfl⟩ := List.mem_map.1 h
      exact (ht p (List.mem_of_mem_take hp)).1.lt b hb
    by_cases hlt : k < l.length
    · obtain ⟨b, off, rfl, hb, hcs⟩ := hr (by intro h; rw [h] at hlt; simp at hlt)
      have hxk : l[k]? = some l[k] := List.getElem?_eq_getElem hlt
      have htp := ht l[k] (List.getElem_mem hlt)
      generalize l[k] = p at hxk htp
      have cx := Cells.elem EG_len (hcs.ext hx hb) hxk 0 _ rfl
      rw [Nat.mul_one, Nat.add_zero] at cx
      have hlt2 : (k : Int) < (l.length : Int) := by omega
      have hsh : Shut f p.2 (allG ((l.take k).map Prod.snd)) := spec.1.shut _
      have e1 : allG ((l.take (k + 1)).map Prod.snd) = fr p.2 (allG ((l.take k).map Prod.snd)) := by
        rw [List.take_add_one, hxk]
        simp [allG_snoc]
      have hlow1 : ∀ b ∈ fr p.2 (allG ((l.take k).map Prod.snd)), b < w.heap.size := fun b hb => by
        rw [mem_fr htp.2 hsh] at hb
        rcases hb with hb | hb
        · exact hlow b hb
        · exact htp.1.lt b hb
      generalize allG ((l.take k).map Prod.snd) = S at *
      have FR := fresh_any w.heap.size p.1 wr
      have HS := Lib.hid hS
      have HM := Lib.hid hM
      have HR := Lib.hid hrs
      have HL := Lib.hid hlow1
      have HX := Lib.hid hx
      have HE := Lib.hid e1
      have HH := Lib.hid hsh
      have HG := Lib.hid htp
      clear hS hM hrs hlow hlow1 hx spec ht hr e1 hsh htp hxk hcs
      gi_wp2_with (refine ⟨trivial, ?_⟩; gi_at_call 146; refine (callsIn_wide.2 FR).mono ?_; rintro e w1 ⟨rfl, x1, kb, kt⟩)
      have X1 := HX.out.trans x1
      have S1 := HS.out.ext x1
      have m1 : w.heap.size < w1.heap.size := S1.set.lt
      refine wpIn_rangeFunc_idle (F := Fence.wide) rfl (by omega) (gf := 177) (lb := #[.pointer (some ⟨wr.heap.size, 0, none⟩), .pointer (some ⟨wr.heap.size + 1, 0, none⟩)]) rfl trivial (enters_of Try.func177 (by kernel_rfl) rfl)
        (fun x => { tmps := ((#[16] : Array Tmp).zip x).foldl (fun t (p, v) => t.setIfInBounds p v) #[.slice (some ⟨b, off, none⟩) l.length c, undef, .map none, .map (some w.heap.size), undef, .pointer p.1, .map (some w.heap.size), .slice (some ⟨b, off, none⟩) l.length c, .int .i64 (l.length : Int), .int .i64 (k : Int), .bool true, .pointer (some ⟨b, off + k, none⟩), .pointer p.1, .map (some w.heap.size), .pointer p.1, .func (.func 177) #[] #[.pointer (some ⟨wr.heap.size, 0, none⟩), .pointer (some ⟨wr.heap.size + 1, 0, none⟩)], undef, u17, undef], defers := [] })
        ?assign ?body (fun W' => Chg [w.heap.size] w1 W' ∧ SetI W' w.heap.size (fr p.2 S)) ?seq ?done
      case assign =>
        intro l' m' x W K _ hK
        exact wpIn_skip hK
      case body =>
        intro l' m' x W
        gi_wp2
      case seq =>
        rintro l' W rfl hbl hsz hY
        have xW : Ext w1 W := hbl
        have hl' : W.heap[w1.heap.size + 1]? = some (W.heap[w1.heap.size + 1]'(by omega)) := Array.getElem?_eq_getElem _
        refine (fresh1_in (L := W.heap[w1.heap.size + 1]'(by omega)) (W := W) 7 (fun k x W2 hx hW2 => hY k x W2 hx (by rw [hW2, hl'])) HG.out.2 HH.out (HG.out.1.ext (X1.trans xW)) (S1.ext xW) (by omega) hl' (kb.ext xW) (kt.ext xW)).mono ?_
        rintro e W' ⟨hv, c3, s3⟩
        exact ⟨hv, ⟨(xW.chg _).trans c3, s3⟩, c3.block _ (by omega) (by simp; omega), c3.block _ (by omega) (by simp; omega)⟩
      case done =>
        rintro W o ⟨c3, s3⟩ hlt3 hD
        have hm3 : w1.heap.size ∉ rs := fun q => by
          have := (Array.getElem?_eq_some_iff.1 (HM.out.2 _ q)).1
          have := x1.size
          omega
        have hmk : Marked (W.putObj (w1.heap.size + 1) o) (w1.heap.size :: rs) := ⟨List.nodup_cons.2 ⟨hm3, HM.out.1⟩, fun r hr => by
          rcases List.mem_cons.1 hr with rfl | hr
          · exact hD
          · have h1 := HM.out.2 r hr
            have h2 := (Array.getElem?_eq_some_iff.1 h1).1
            have h3 := x1.size
            rw [World.putObj_heap_other (by omega), c3.block r (by omega) (by simp; rintro rfl; exact HS.out.notMark HM.out hr), x1.blk h2]
            exact h1⟩
        have hrs3 : ∀ r ∈ w1.heap.size :: rs, w.heap.size ≤ r := fun r hr => by
          rcases List.mem_cons.1 hr with rfl | hr
          · exact X1.size
          · exact HR.out r hr
        have hx3 : Ext w (W.putObj (w1.heap.size + 1) o) := (c3.ext X1 (by simp)).putObj o (by omega) hlt3
        have hs3 : SetI (W.putObj (w1.heap.size + 1) o) w.heap.size (allG ((l.take (k + 1)).map Prod.snd)) := by
          rw [HE.out]
          exact s3.putObj o (by omega) fun b' hb' => by have := HL.out b' hb'; omega
        have K1 := Lib.hid hmk
        have K2 := Lib.hid hrs3
        have K3 := Lib.hid hx3
        have K4 := Lib.hid hs3
        clear hmk hrs3 hx3 hs3 hm3 hD s3 c3
        gi_wp2
        refine ⟨⟨k + 1, w1.heap.size :: rs, _, _, _, _, _, _, _, _, by omega, by rw [show ((k + 1 : Nat) : Int) = (k : Int) + 1 from by omega]; rfl, K1.out, K2.out, K3.out, K4.out⟩, ?_⟩
        show l.length - ((k : Int) + 1).toNat < l.length - (k : Int).toNat
        omega
    · have hge : l.length ≤ k := by omega
      obtain rfl : k = l.length := by omega
      rw [List.take_length] at hS hlow spec
      have HS := Lib.hid hS
      have HM := Lib.hid hM
      have HR := Lib.hid hrs
      have HL := Lib.hid hlow
      have HX := Lib.hid hx
      clear hS hM hrs hlow hx spec ht hr
      gi_wp2
      refine leaves_marks rs wr HM.out HR.out fun W' hb hs ho => ⟨_, results_tmp rfl _ _ _, w.heap.size, rfl, Nat.le_refl _, Below.trans HX.out hb, ?_⟩
      exact HS.out.kept (ho _ (HS.out.notMark HM.out)) fun b q => ho b fun z => by have := HL.out b q; have := HR.out b z; omega
theorem len_set {w : World} {m : Nat} {S : List Nat} (h : SetI w m S) (ty : TypeId) : (Builtin.len_ #[161] ty #[.map (some m)]).run Try.prog w = .ok (.int .i64 (S.length : Int)) w := by
  have e := Go.MapKept.run_getObj_map (P := Try.prog) h.set
  simp [Builtin.len_, run_underlying set_ty, Result.andThen, e, setA_size, goInt]
theorem fr_le : ∀ (t : G) (S : List Nat), (fr t S).length ≤ S.length + t.ids.length
  | .nil, S => by simp [fr]
  | .nd b l r, S => by
    unfold fr
    split
    · omega
    · have h1 := fr_le l S
      have h2 := fr_le r (fr l S ++ [b])
      simp only [List.length_append, ids, List.length_cons, List.length_nil] at h2 ⊢
      omega
theorem allG_le : ∀ (l : List G) (K : Nat), (∀ t ∈ l, t.ids.length ≤ K) → (allG l).length ≤ l.length * K := by
  intro l K h
  have key : ∀ (l : List G) (S : List Nat), (∀ t ∈ l, t.ids.length ≤ K) → (l.foldl (fun S t => fr t S) S).length ≤ S.length + l.length * K := by
    intro l
    induction l with
    | nil => intro S _; simp
    | cons t l ih =>
      intro S h
      have h1 := ih (fr t S) (fun u hu => h u (by simp [hu]))
      have h2 := fr_le t S
      have h3 := h t (by simp)
      simp only [List.foldl_cons, List.length_cons, Nat.add_mul, Nat.one_mul]
      omega
  have := key l [] h
  unfold allG
  simpa using this

set_option maxRecDepth 100000 in
set_option maxHeartbeats 4000000 in
theorem newB_any {f : Nat → G} {g : G} {q : Option Addr} {l : List (Option Addr × G)} {v : Value} {w : World} (h : Sl EG w v l) (ht : Trees f w l) (hq : GrS w (.pointer q) g) (hf : byF f g) (hm : l.length ≤ 1000000000) (hb : (allG (l.map Prod.snd)).length ≤ 100000000) (hg : g.ids.length ≤ 1000000) :
    Calls Try.prog 66 #[.pointer q, v] w fun e w' => e = .returned (.int .i64 ((newN g (allG (l.map Prod.snd)) : Nat) : Int)) ∧ Ext w w' := by
  have AL := allS_any h ht (by omega)
  have spec := allG_spec (f := f) (l := l.map Prod.snd) (fun t h => by
    obtain ⟨p, hp, rfl⟩ := List.mem_map.1 h
    exact (ht p hp).2)
  have hlow : ∀ b ∈ allG (l.map Prod.snd), b < w.heap.size := fun b hb => by
    obtain ⟨t, h, hb⟩ := (spec.2.2 b).1 hb
    obtain ⟨p, hp, rfl⟩ := List.mem_map.1 h
    exact (ht p hp).1.lt b hb
  have hlen := hb
  have hsh : Shut f g (allG (l.map Prod.snd)) := spec.1.shut _
  generalize allG (l.map Prod.snd) = S at *
  have hlow1 : ∀ b ∈ fr g S, b < w.heap.size := fun b hb => by
    rw [mem_fr hf hsh] at hb
    rcases hb with hb | hb
    · exact hlow b hb
    · exact hq.lt b hb
  have hl1 := fr_len g S
  have hl2 := fr_le g S
  have hA : (fr g S).length ≤ 200000000 := by omega
  have hB : S.length ≤ 200000000 := by omega
  have AL := Lib.hid AL
  have HL := Lib.hid hlow
  have HL1 := Lib.hid hlow1
  have HS := Lib.hid hsh
  have HF := Lib.hid hf
  have HQ := Lib.hid hq
  obtain ⟨A, c, rfl, hc, hr⟩ := h
  unfold newN
  clear hlow hlow1 hsh hf spec ht hr hb hl2 hlen hq
  refine (callsIn_wide (n := 8)).1 ?_
  refine callsIn_of_wp_marks Try.func66 rfl trivial ?_ rfl
  simp only [Try.ntmps66, List.size_toArray, List.length_cons, List.length_nil, Nat.reduceAdd, Nat.reduceSub, Array.replicate_succ, Array.replicate_zero, List.push_toArray, List.append_toArray, List.nil_append, List.cons_append]
  gi_wp2_with (refine ⟨trivial, ?_⟩; gi_at_call 145; refine (callsIn_wide.2 AL.out).mono ?_; rintro e w1 ⟨m, rfl, hm1, x1, s1⟩; have LN := len_set s1; have FR := fresh_any m q w1; have S1 := Lib.hid s1; clear s1)
  gi_wp2_with (refine ⟨trivial, ?_⟩; gi_at_call 146; refine (callsIn_wide.2 FR).mono ?_; rintro e w2 ⟨rfl, x2, kb, kt⟩)
  have X2 := x1.trans x2
  have S2 := S1.out.ext x2
  have m2 := S2.set.lt
  have hs2 := X2.size
  clear FR LN
  refine wpIn_rangeFunc_idle0 (F := Fence.wide) rfl (by omega) (gf := 177) (lb := #[.pointer (some ⟨w1.heap.size, 0, none⟩), .pointer (some ⟨w1.heap.size + 1, 0, none⟩)]) rfl trivial (enters_of Try.func177 (by kernel_rfl) rfl)
    ?body (fun W' => Chg [m] w2 W' ∧ SetI W' m (fr g S)) ?seq ?done
  case body =>
    intro l' m' a W
    gi_wp2
  case seq =>
    rintro l' W rfl hbl hsz hY
    have xW : Ext w2 W := hbl
    have hl' : W.heap[w2.heap.size + 1]? = some (W.heap[w2.heap.size + 1]'(by omega)) := Array.getElem?_eq_getElem _
    refine (fresh1_in (L := W.heap[w2.heap.size + 1]'(by omega)) (W := W) 7 (fun k x W2 hx hW2 => hY k x W2 hx (by rw [hW2, hl'])) HF.out HS.out (HQ.out.ext (X2.trans xW)) (S2.ext xW) (by omega) hl' (kb.ext xW) (kt.ext xW)).mono ?_
    rintro e W' ⟨hv, c3, s3⟩
    exact ⟨hv, ⟨(xW.chg _).trans c3, s3⟩, c3.block _ (by omega) (by simp; omega), c3.block _ (by omega) (by simp; omega)⟩
  case done =>
    rintro W o ⟨c3, s3⟩ hlt3 hD
    have hx3 : Ext w (W.putObj (w2.heap.size + 1) o) := (c3.ext X2 (by simpa using hm1)).putObj o (by omega) hlt3
    have hs3 : SetI (W.putObj (w2.heap.size + 1) o) m (fr g S) := s3.putObj o (by omega) fun b' hb' => by have := HL1.out b' hb'; omega
    have LN := len_set hs3
    have H3 := Lib.hid hx3
    have HD := Lib.hid hD
    clear hx3 hs3 hD s3 c3
    gi_wp2
    refine ⟨by simp, .inl ⟨_, _, rfl, run_takeDeferred HD.out, ?_⟩⟩
    refine ⟨_, results_tmp rfl _ _ _, ?_, H3.out.putObj _ (by omega) (by simp [World.putObj]; omega)⟩
    show Ending.returned (.int .i64 (((fr g S).length : Int) - (S.length : Int))) = _
    rw [show ((fr g S).length : Int) - (S.length : Int) = (((fr g S).length - S.length : Nat) : Int) from by omega]
theorem newS_any {f : Nat → G} {g : G} {q : Option Addr} {l : List (Option Addr × G)} {v : Value} {w : World} (h : Sl EG w v l) (ht : Trees f w l) (hq : GrS w (.pointer q) g) (hf : byF f g) (hm : l.length ≤ 100) (hb : ∀ p ∈ l, p.2.ids.length ≤ 1000000) (hg : g.ids.length ≤ 1000000) :
    Calls Try.prog 66 #[.pointer q, v] w fun e w' => e = .returned (.int .i64 ((newN g (allG (l.map Prod.snd)) : Nat) : Int)) ∧ Ext w w' := by
  have hlen := allG_le (l.map Prod.snd) 1000000 (fun t h => by
    obtain ⟨p, hp, rfl⟩ := List.mem_map.1 h
    exact hb p hp)
  rw [List.length_map] at hlen
  exact newB_any h ht hq hf (by omega) (by omega) hg
end Go.Proofs.Ytlehcagpddgamaa
