/- Package share: Tops. -/
import Derived.Test.YtlehcagpddgamaaShareD
namespace Go.Proofs.Ytlehcagpddgamaa
open Go.RowKit G

set_option maxRecDepth 100000 in
set_option maxHeartbeats 4000000 in
theorem topsS_any {f : Nat → G} {g : G} {q : Option Addr} {l : List (Option Addr × G)} {v : Value} {w : World} (h : Sl EG w v l) (ht : Trees f w l) (hq : GrS w (.pointer q) g) (hm : l.length ≤ 100) (hg : g.ids.length ≤ 1000000) :
    Calls Try.prog 69 #[.pointer q, v] w fun e w' => ∃ A c, e = .returned (.slice A (tp (allG (l.map Prod.snd)) g [] []).2.length c) ∧ Ext w w' ∧ Sl EB w' (.slice A (tp (allG (l.map Prod.snd)) g [] []).2.length c) (tp (allG (l.map Prod.snd)) g [] []).2 := by
  have x0 := (Ext.refl w).alloc (.cells #[.slice none 0 0] 61)
  have AL := allS_any (h.ext x0) (ht.ext x0) (by omega)
  have spec := allG_spec (f := f) (l := l.map Prod.snd) (fun t h => by
    obtain ⟨p, hp, rfl⟩ := List.mem_map.1 h
    exact (ht p hp).2)
  have hlow : ∀ b ∈ allG (l.map Prod.snd), b < w.heap.size := fun b hb => by
    obtain ⟨t, h, hb⟩ := (spec.2.2 b).1 hb
    obtain ⟨p, hp, rfl⟩ := List.mem_map.1 h
    exact (ht p hp).1.lt b hb
  generalize allG (l.map Prod.snd) = O at *
  have bl := Blk.new w 61 #[.slice none 0 0]
  have HL := Lib.hid hlow
  have HQ := Lib.hid hq
  clear hlow spec ht h hq hm
  go_enter Try.func69, Try.ntmps69
  go_wp2_with fail
  refine AL.mono ?_
  rintro e w1 ⟨m, rfl, hm, x1, s1⟩
  have mk := make_set w1
  have x01 := x0.trans x1
  have cl : Value := .func (.func 147) #[] #[.pointer (some ⟨w1.heap.size + 1 + 1, 0, none⟩), .pointer (some ⟨w1.heap.size + 1, 0, none⟩), .pointer (some ⟨w.heap.size, 0, none⟩), .pointer (some ⟨w1.heap.size + 1 + 1 + 1, 0, none⟩)]
  have y1 : Ext w1 ((((w1.alloc (.map #[] 0)).alloc (.cells #[.map (some m)] 161)).alloc (.cells #[.map (some w1.heap.size)] 161)).alloc (.cells #[.func (.func 147) #[] #[.pointer (some ⟨w1.heap.size + 1 + 1, 0, none⟩), .pointer (some ⟨w1.heap.size + 1, 0, none⟩), .pointer (some ⟨w.heap.size, 0, none⟩), .pointer (some ⟨w1.heap.size + 1 + 1 + 1, 0, none⟩)]] 166)) := ((((Ext.refl w1).alloc _).alloc _).alloc _).alloc _
  have b1 := SetI.nil (w := w1)
  have b2 := Blk.new (w1.alloc (.map #[] 0)) 161 #[.map (some m)]
  have b3 := Blk.new ((w1.alloc (.map #[] 0)).alloc (.cells #[.map (some m)] 161)) 161 #[.map (some w1.heap.size)]
  have b4 := Blk.new (((w1.alloc (.map #[] 0)).alloc (.cells #[.map (some m)] 161)).alloc (.cells #[.map (some w1.heap.size)] 161)) 166 #[.func (.func 147) #[] #[.pointer (some ⟨w1.heap.size + 1 + 1, 0, none⟩), .pointer (some ⟨w1.heap.size + 1, 0, none⟩), .pointer (some ⟨w.heap.size, 0, none⟩), .pointer (some ⟨w1.heap.size + 1 + 1 + 1, 0, none⟩)]]
  simp only [alloc_size] at b2 b3 b4
  have c1 := b1.ext ((((Ext.refl _).alloc (.cells #[.map (some m)] 161)).alloc (.cells #[.map (some w1.heap.size)] 161)).alloc (.cells #[.func (.func 147) #[] #[.pointer (some ⟨w1.heap.size + 1 + 1, 0, none⟩), .pointer (some ⟨w1.heap.size + 1, 0, none⟩), .pointer (some ⟨w.heap.size, 0, none⟩), .pointer (some ⟨w1.heap.size + 1 + 1 + 1, 0, none⟩)]] 166))
  have c2 := (b2.alloc (.cells #[.map (some w1.heap.size)] 161)).alloc (.cells #[.func (.func 147) #[] #[.pointer (some ⟨w1.heap.size + 1 + 1, 0, none⟩), .pointer (some ⟨w1.heap.size + 1, 0, none⟩), .pointer (some ⟨w.heap.size, 0, none⟩), .pointer (some ⟨w1.heap.size + 1 + 1 + 1, 0, none⟩)]] 166)
  have c3 := b3.alloc (.cells #[.func (.func 147) #[] #[.pointer (some ⟨w1.heap.size + 1 + 1, 0, none⟩), .pointer (some ⟨w1.heap.size + 1, 0, none⟩), .pointer (some ⟨w.heap.size, 0, none⟩), .pointer (some ⟨w1.heap.size + 1 + 1 + 1, 0, none⟩)]] 166)
  have B := TopB.mk (M0 := []) c1.set (bl.ext (x1.trans y1)) (s1.ext y1) (by have := s1.set.lt; omega) (fun z => by have := HL.out _ z; omega) c3 c2 b4
  have TS := topsOn B g _ [] [] (.pointer q) ⟨Chg.refl _ _, c1, fun _ h => by simp at h, none, 0, bl.ext (x1.trans y1), Own.nil_ _ _ _⟩ (HQ.out.ext (x01.trans y1)) (by simp; omega)
  have Y1 := Lib.hid y1
  have X1 := Lib.hid x01
  clear b1 b2 b3 b4 c1 c2 c3 B s1 hm x1 y1 x01 bl x0 AL hg cl
  go_wp2_with fail
  refine TS.mono ?_
  rintro e w2 ⟨⟨v2, rfl⟩, h2⟩
  have hx2 : Ext w w2 := h2.keep.ext (X1.out.trans Y1.out) (by simp; exact X1.out.size)
  obtain ⟨A, c, hl2, ho2⟩ := h2.box
  have cl2 := hl2.cell 0
  have fl2 := hl2.frozen 0
  have HX := Lib.hid hx2
  have HO := Lib.hid ho2
  have HB := Lib.hid hl2
  have HSZ := Lib.hid X1.out.size
  clear TS h2 hx2 hl2 ho2 X1
  have cs2 := World.cell?_setCell_same' w2 ⟨w.heap.size, 0, none⟩ (.slice A (tp O g [] []).2.length c) (by rw [cl2]; rfl)
  have k6 : Chg [w.heap.size] w2 (w2.setCell ⟨w.heap.size, 0, none⟩ (.slice A (tp O g [] []).2.length c)) := (Chg.refl _ w2).set (by simp) _
  have H6 := Lib.hid k6
  clear k6
  go_wp2_with fail
  refine bodyPost_ret (v := .slice A (tp O g [] []).2.length c) (by simp [results, Try.results69, go_sem, cs2]) rfl ?_
  refine ⟨A, c, rfl, H6.out.ext HX.out (by simp), (HO.out.chg H6.out ?_).sl EB_len (by omega)⟩
  have := HSZ.out
  simp
  omega
end Go.Proofs.Ytlehcagpddgamaa
