/- mix.Unmix: the walk. -/
import Derived.Test.YtphpaaaaifpidaaMixE
import Derived.Laws.EntriesVeiled
namespace Go.Proofs.Ytphpaaaaifpidaa
open Go.RowKit Go.Shelf
attribute [local go_sem] Oper.semAt_some

def unS (k : Nat) (x : BitVec 64) : BitVec 64 := un (shN k) (x * nw (byB k) 6)
def unsB (l : List Nat) (x : BitVec 64) : BitVec 64 := l.foldl (fun x k => unS k x) x
theorem unsB_snoc (l : List Nat) (k : Nat) (x : BitVec 64) : unsB (l ++ [k]) x = unS k (unsB l x) := by simp [unsB]
theorem unsB_all (x : BitVec 64) : unsB (came true 3) x = unmixB x := by
  show un 30 (un 27 (un 31 (x * nw 1#64 6) * nw c1 6) * nw c0 6) = _
  rw [nw_1, nw_c1, nw_c0]; rfl
/-- What has been undone in j rounds. -/
def acc (s : Nat) (z : BitVec 64) : Nat → BitVec 64
  | 0 => z
  | j + 1 => acc s z j ^^^ z >>> ((j + 1) * s)
theorem shr_none (z : BitVec 64) {n : Nat} (h : 64 ≤ n) : z >>> n = 0#64 := by
  apply BitVec.eq_of_getLsbD_eq
  intro i hi
  rw [BitVec.getLsbD_ushiftRight, BitVec.getLsbD_of_ge _ _ (by omega)]
  simp
theorem shr_more (z : BitVec 64) {n m : Nat} (h : z >>> n = 0#64) (hm : n ≤ m) : z >>> m = 0#64 := by
  rw [show m = n + (m - n) from by omega, BitVec.shiftRight_add, h]
  simp
theorem acc_big {s : Nat} (hs : 22 ≤ s) (z : BitVec 64) : ∀ j, acc s z (j + 2) = un s z
  | 0 => by simp [acc, un]
  | j + 1 => by
    have : z >>> ((j + 1 + 1 + 1) * s) = 0#64 := shr_none z (by
      have : 3 * s ≤ (j + 1 + 1 + 1) * s := Nat.mul_le_mul_right s (by omega)
      omega)
    rw [show j + 1 + 2 = (j + 2) + 1 from by omega, acc, acc_big hs z j, this]
    simp
theorem acc_all {s : Nat} (hs : 22 ≤ s) (z : BitVec 64) : ∀ j, z >>> ((j + 1) * s) = 0#64 → acc s z j = un s z
  | 0, h => by
    have h1 : z >>> s = 0#64 := by simpa using h
    have h2 : z >>> (2 * s) = 0#64 := shr_more z h1 (by omega)
    simp [acc, un, h1, h2]
  | 1, h => by
    have h2 : z >>> (2 * s) = 0#64 := by simpa using h
    simp [acc, un, h2]
  | j + 2, _ => acc_big hs z j

theorem Ext.keeps {W W' : World} (h : Ext W W') (B : Nat) : KeepsFrom B W W' := ⟨h.size, fun _ _ _ hk _ => (h.blk (Array.getElem?_eq_some_iff.1 hk).1).trans hk⟩

set_option maxRecDepth 100000 in
set_option maxHeartbeats 4000000 in
theorem unmix_any (x : BitVec 64) (w : World) : Calls Try.prog 85 #[U x] w fun e w' => e = .returned (U (unmixB x)) ∧ Ext w w' := by
  refine (callsIn_wide (n := 8)).1 ?_
  refine callsIn_of_wp_marks Try.func85 rfl trivial ?_ rfl
  simp only [Try.ntmps85, List.size_toArray, List.length_cons, List.length_nil, Nat.reduceAdd, Nat.reduceSub, Array.replicate_succ, Array.replicate_zero, List.push_toArray, List.append_toArray, List.nil_append, List.cons_append]
  rw [show U x = .int .u64 (x.toNat : Int) from rfl]
  gi_wp2_with (refine ⟨trivial, ?_⟩; gi_at_call 90; refine (callsIn_wide.2 (steps_any true _)).mono ?_; rintro e w1 ⟨lo, hi, bb, bl, rfl, x1, hlo, h1, h2, h3, h4, hhi, kb, kl⟩)
  rw [alloc_size, alloc_size] at hlo
  have bx := ((Blk.new w 29 #[U x]).alloc (.cells #[.func (.func 91) #[] #[]] 85)).ext x1
  have bf := (Blk.new (w.alloc (.cells #[U x] 29)) 85 #[.func (.func 91) #[] #[]]).ext x1
  rw [alloc_size] at bf
  have hx := (((Ext.refl w).alloc (.cells #[U x] 29)).alloc (.cells #[.func (.func 91) #[] #[]] 85)).trans x1
  have hsz := bf.lt
  refine wpIn_rangeFunc_ownH (F := Fence.wide) rfl (by omega) (gf := 94) (lb := #[.pointer (some ⟨bb, 0, none⟩), .pointer (some ⟨bl, 0, none⟩)]) rfl trivial (enters_of Try.func94 (by kernel_rfl) rfl)
    (steps_stops Fence.wide 7 trivial rfl (by omega) true lo hi bb bl w1 kb kl h1 h2 h3 h4) (fun h k => h.trans k) (fun W l o o' hl _ _ _ => KpR.put W (by omega) o') (Below.refl _ _) (fun _ => rfl)
    (fun pre W => (Boxed W w.heap.size 29 (U (unsB pre x)) ∧ Boxed W (w.heap.size + 1) 85 (.func (.func 91) #[] #[])) ∧ (Below w.heap.size w W ∧ w1.heap.size ≤ W.heap.size))
    (fun _ _ _ => False)
    (OwnFrom.and (OwnFrom.and (Own.from (boxed_own _ _ _) _) (Own.from (boxed_own _ _ _) _)) (OwnFrom.and (ownFrom_below (Nat.le_refl _) (by omega)) (fun _ _ _ _ hs hg _ => Nat.le_trans hs hg.size)))
    (fun _ _ _ _ _ hs _ _ => hs)
    ⟨⟨bx, bf⟩, hx, Nat.le_refl _⟩
    (fun k a' W => ∃ Bk, w1.heap.size ≤ Bk ∧ Blk W Bk 116 #[.int .i64 (shN k : Int), .int .u64 ((byB k).toNat : Int)] ∧ a' = { tmps := #[.int .u64 (x.toNat : Int), .pointer (some ⟨w.heap.size, 0, none⟩), .int .u64 0, .pointer (some ⟨w.heap.size + 1, 0, none⟩), .pointer (some ⟨Bk, 0, none⟩), undef, .func (.func 94) #[] #[.pointer (some ⟨bb, 0, none⟩), .pointer (some ⟨bl, 0, none⟩)], stepE k, undef, undef, undef, undef, undef, undef, undef, undef, undef, undef, undef, undef, undef, undef, undef, undef, undef, undef, undef, undef], defers := [] })
    (fun k a' _ X Y row hs hg hr => by
      obtain ⟨Bk, h1, h2, h3⟩ := hs
      refine ⟨Bk, h1, h2.grown hg (fun e => ?_), h3⟩
      obtain ⟨_, o, ho, hc⟩ := hr _ e.symm
      rw [show X.heap[Bk]? = _ from h2] at ho
      cases ho
      cases hc)
    ?assign ?body ?done ?stop
  case assign =>
    rintro l pre k W K ⟨⟨bS, bF⟩, hB, hsW⟩ hK
    simp only [stepE, U]
    gi_wp2
    have hk := Blk.new W 116 #[.int .i64 (shN k : Int), .int .u64 ((byB k).toNat : Int)]
    exact hK _ _ ((KeepsOthers.alloc _ _).from _) (fun b k1 k2 => Below.heap_alloc _ _ b (by omega)) ⟨⟨bS.alloc _, bF.alloc _⟩, hB.alloc hB.size _, by simp; omega⟩ ⟨W.heap.size, by omega, hk, rfl⟩
  case body =>
    rintro l pre k a' W hl ⟨r, hr⟩ ⟨⟨bS, bF⟩, hB, hsW⟩ ⟨Bk, hBk, bX, rfl⟩ hlt
    have hlo2 : w.heap.size + 1 < lo := by omega
    have hBkW := bX.lt
    have hss : 22 ≤ shN k ∧ shN k ≤ 63 := by
      rcases k with _ | _ | m <;> simp [shN]
    have hun : unS k (unsB pre x) = un (shN k) (unsB pre x * nw (byB k) 6) := rfl
    rw [← unsB_snoc] at hun
    clear hlt
    generalize unsB pre x = y at *
    generalize hs : shN k = s at *
    generalize hc : byB k = c at *
    clear hs hc
    have H := Lib.hid hun
    clear hun
    gi_wp2
    refine wpIn_chart (by kernel_rfl) (fun D aq wq => (Ext W.drew wq ∧ ¬ D 6 ∧ ∃ u8 u9 u10 u11 u12 u13, aq = { tmps := #[.int .u64 (x.toNat : Int), .pointer (some ⟨w.heap.size, 0, none⟩), .int .u64 0, .pointer (some ⟨w.heap.size + 1, 0, none⟩), .pointer (some ⟨Bk, 0, none⟩), undef, .func (.func 94) #[] #[.pointer (some ⟨bb, 0, none⟩), .pointer (some ⟨bl, 0, none⟩)], stepE k, u8, u9, u10, u11, u12, u13, undef, undef, undef, undef, undef, undef, undef, undef, undef, undef, undef, undef, undef, undef], defers := [] } ∧ (D 0 → u8 = .int .u64 (y.toNat : Int)) ∧ (D 1 → u9 = .func (.func 91) #[] #[]) ∧ (D 2 → u10 = .pointer (some ⟨Bk, 1, none⟩)) ∧ (D 3 → u11 = .int .u64 (c.toNat : Int)) ∧ (D 4 → u12 = .int .u64 ((nw c 6).toNat : Int)) ∧ (D 5 → u13 = .int .u64 (IntKind.u64.wrap ((y.toNat : Int) * ((nw c 6).toNat : Int))))) ∨ ((∃ w5, Ext W.drew w5 ∧ wq = w5.setCell ⟨w.heap.size, 0, none⟩ (.int .u64 (IntKind.u64.wrap ((y.toNat : Int) * ((nw c 6).toNat : Int))))) ∧ (∃ u8 u9 u10 u11 u12 u13, aq = { tmps := #[.int .u64 (x.toNat : Int), .pointer (some ⟨w.heap.size, 0, none⟩), .int .u64 0, .pointer (some ⟨w.heap.size + 1, 0, none⟩), .pointer (some ⟨Bk, 0, none⟩), undef, .func (.func 94) #[] #[.pointer (some ⟨bb, 0, none⟩), .pointer (some ⟨bl, 0, none⟩)], stepE k, u8, u9, u10, u11, u12, u13, undef, undef, undef, undef, undef, undef, undef, undef, undef, undef, undef, undef, undef, undef], defers := [] }) ∧ ∀ i, i < 7 → D i)) ?at0 ?lex ?step ?fin
    case at0 => exact .inl ⟨Ext.refl _, id, _, _, _, _, _, _, rfl, fun h => h.elim, fun h => h.elim, fun h => h.elim, fun h => h.elim, fun h => h.elim, fun h => h.elim⟩
    case lex =>
      intro i o ho
      rcases i with _ | _ | _ | _ | _ | _ | _ | i
      all_goals (first | (cases ho; decide) | (simp at ho))
    case step =>
      rintro D aq wq i o (⟨hw, hn, u8, u9, u10, u11, u12, u13, rfl, h0, h1, h2, h3, h4, h5⟩ | ⟨_, _, hall⟩) ho hni hb K hK
      rotate_left
      · refine absurd (hall i ?_) hni
        have := (Array.getElem?_eq_some_iff.1 ho).1
        simpa using this
      have q0 := (Blk.ext (w := W.drew) bS hw).cell 0
      have q1 := (Blk.ext (w := W.drew) bF hw).cell 0
      have q2 := (Blk.ext (w := W.drew) bX hw).cell 1
      have f0 := (Blk.ext (w := W.drew) bS hw).frozen 0
      have q0 : wq.cell? ⟨w.heap.size, 0, none⟩ = some (.int .u64 (y.toNat : Int)) := q0
      have q1 : wq.cell? ⟨w.heap.size + 1, 0, none⟩ = some (.func (.func 91) #[] #[]) := q1
      have q2 : wq.cell? ⟨Bk, 1, none⟩ = some (.int .u64 (c.toNat : Int)) := q2
      rcases i with _ | _ | _ | _ | _ | _ | _ | i
      · simp only [List.getElem?_toArray, List.getElem?_cons_zero, Option.some.injEq] at ho
        subst ho
        rw [if_pos (by rfl)]
        gi_big_op
        exact hK _ _ (.inl ⟨hw, fun h => h.elim (fun e => absurd e (by decide)) hn, _, _, _, _, _, _, rfl, fun _ => rfl, fun h => h.elim (fun e => absurd e (by decide)) h1, fun h => h.elim (fun e => absurd e (by decide)) h2, fun h => h.elim (fun e => absurd e (by decide)) h3, fun h => h.elim (fun e => absurd e (by decide)) h4, fun h => h.elim (fun e => absurd e (by decide)) h5⟩)
      · simp only [List.getElem?_toArray, List.getElem?_cons_zero, List.getElem?_cons_succ, Option.some.injEq] at ho
        subst ho
        rw [if_pos (by rfl)]
        gi_big_op
        exact hK _ _ (.inl ⟨hw, fun h => h.elim (fun e => absurd e (by decide)) hn, _, _, _, _, _, _, rfl, fun h => h.elim (fun e => absurd e (by decide)) h0, fun _ => rfl, fun h => h.elim (fun e => absurd e (by decide)) h2, fun h => h.elim (fun e => absurd e (by decide)) h3, fun h => h.elim (fun e => absurd e (by decide)) h4, fun h => h.elim (fun e => absurd e (by decide)) h5⟩)
      · simp only [List.getElem?_toArray, List.getElem?_cons_zero, List.getElem?_cons_succ, Option.some.injEq] at ho
        subst ho
        rw [if_pos (by rfl)]
        gi_big_op
        exact hK _ _ (.inl ⟨hw, fun h => h.elim (fun e => absurd e (by decide)) hn, _, _, _, _, _, _, rfl, fun h => h.elim (fun e => absurd e (by decide)) h0, fun h => h.elim (fun e => absurd e (by decide)) h1, fun _ => rfl, fun h => h.elim (fun e => absurd e (by decide)) h3, fun h => h.elim (fun e => absurd e (by decide)) h4, fun h => h.elim (fun e => absurd e (by decide)) h5⟩)
      · simp only [List.getElem?_toArray, List.getElem?_cons_zero, List.getElem?_cons_succ, Option.some.injEq] at ho
        subst ho
        obtain rfl := h2 (hb ⟨2, .data⟩ (by simp) rfl)
        rw [if_pos (by rfl)]
        gi_big_op
        exact hK _ _ (.inl ⟨hw, fun h => h.elim (fun e => absurd e (by decide)) hn, _, _, _, _, _, _, rfl, fun h => h.elim (fun e => absurd e (by decide)) h0, fun h => h.elim (fun e => absurd e (by decide)) h1, fun h => h.elim (fun e => absurd e (by decide)) (fun _ => rfl), fun _ => rfl, fun h => h.elim (fun e => absurd e (by decide)) h4, fun h => h.elim (fun e => absurd e (by decide)) h5⟩)
      · simp only [List.getElem?_toArray, List.getElem?_cons_zero, List.getElem?_cons_succ, Option.some.injEq] at ho
        subst ho
        obtain rfl := h1 (hb ⟨1, .data⟩ (by simp) rfl)
        obtain rfl := h3 (hb ⟨3, .data⟩ (by simp) rfl)
        rw [if_pos (by rfl)]
        gi_wp2_with (refine ⟨trivial, ?_⟩; gi_at_call 91; refine (CallsIn.inRound l (callsIn_wide.2 (undo_any c _))).mono ?_; rintro e w5 ⟨rfl, x5⟩)
        exact (.inl ⟨hw.trans x5, fun h => h.elim (fun e => absurd e (by decide)) hn, _, _, _, _, _, _, rfl, fun h => h.elim (fun e => absurd e (by decide)) h0, fun h => h.elim (fun e => absurd e (by decide)) (fun _ => rfl), fun h => h.elim (fun e => absurd e (by decide)) h2, fun h => h.elim (fun e => absurd e (by decide)) (fun _ => rfl), fun _ => rfl, fun h => h.elim (fun e => absurd e (by decide)) h5⟩)
      · simp only [List.getElem?_toArray, List.getElem?_cons_zero, List.getElem?_cons_succ, Option.some.injEq] at ho
        subst ho
        obtain rfl := h0 (hb ⟨0, .data⟩ (by simp) rfl)
        obtain rfl := h4 (hb ⟨4, .data⟩ (by simp) rfl)
        rw [if_pos (by rfl)]
        gi_big_op
        exact hK _ _ (.inl ⟨hw, fun h => h.elim (fun e => absurd e (by decide)) hn, _, _, _, _, _, _, rfl, fun h => h.elim (fun e => absurd e (by decide)) (fun _ => rfl), fun h => h.elim (fun e => absurd e (by decide)) h1, fun h => h.elim (fun e => absurd e (by decide)) h2, fun h => h.elim (fun e => absurd e (by decide)) h3, fun h => h.elim (fun e => absurd e (by decide)) (fun _ => rfl), fun _ => rfl⟩)
      · simp only [List.getElem?_toArray, List.getElem?_cons_zero, List.getElem?_cons_succ, Option.some.injEq] at ho
        subst ho
        obtain rfl := h5 (hb ⟨5, .data⟩ (by simp) rfl)
        rw [if_pos (by rfl)]
        gi_big_op
        refine hK _ _ (.inr ⟨⟨wq, hw, rfl⟩, ⟨_, _, _, _, _, _, rfl⟩, fun j hj => ?_⟩)
        by_cases hj9 : j = 6
        · exact .inl hj9
        · refine .inr (hb ⟨j, .phase⟩ ?_ rfl)
          rcases j with _ | _ | _ | _ | _ | _ | _ | j
          all_goals (first | decide | (simp; done) | (exact absurd rfl hj9) | omega)
      · simp at ho
    case fin =>
      rintro D aq wq (⟨_, hn, _⟩ | ⟨⟨w5, x5, rfl⟩, ⟨u8, u9, u10, u11, u12, u13, rfl⟩, _⟩) hall
      · exact absurd (hall 6 (by decide)) hn
      · clear hall
        obtain ⟨z, hz⟩ : ∃ z, z = y * nw c 6 := ⟨_, rfl⟩
        rw [mul_val, ← hz]
        have H2 : unsB (pre ++ [k]) x = un s z := by rw [hz]; exact H.out
        have H3 := Lib.hid H2
        clear H H2
        have b0 := Boxed.set (.int .u64 (z.toNat : Int)) (Blk.ext (w := W.drew) bS x5)
        have b1 := Boxed.other (Blk.ext (w := W.drew) bF x5) (B' := w.heap.size) (by omega) (.int .u64 (z.toNat : Int))
        have b2 := Blk.far (Blk.ext (w := W.drew) bX x5) (p := ⟨w.heap.size, 0, none⟩) (by simp; omega) (.int .u64 (z.toNat : Int))
        have k1 := ((KeepsOthers.drew W).from w1.heap.size).trans ((x5.keeps w1.heap.size).trans ((KeepsOthers.setCell w5 ⟨w.heap.size, 0, none⟩ (.int .u64 (z.toNat : Int))).from w1.heap.size))
        have k2 : KpR lo hi W (w5.setCell ⟨w.heap.size, 0, none⟩ (.int .u64 (z.toNat : Int))) := fun b g1 g2 => (Below.heap_setCell _ _ _ b (by simp; omega)).trans (x5.blk (k := b) (by simp; omega))
        have k3 := (hB.drew.trans (x5.mono hB.size)).setCell (p := ⟨w.heap.size, 0, none⟩) (Nat.le_refl _) (.int .u64 (z.toNat : Int))
        generalize hW5 : w5.setCell ⟨w.heap.size, 0, none⟩ (.int .u64 (z.toNat : Int)) = W5 at *
        have s5 : w1.heap.size ≤ W5.heap.size := Nat.le_trans hsW k1.size
        have c0 := b0.cell
        have c2 : W5.cell? ⟨Bk, 0, none⟩ = some (.int .i64 (s : Int)) := b2.cell 0
        clear hW5 x5 hz
        gi_wp2
        gi_loopw [5] (fun yv wr => ∃ j : Nat, yv = .int .u64 ((z >>> ((j + 1) * s)).toNat : Int) ∧ Boxed wr w.heap.size 29 (.int .u64 ((acc s z j).toNat : Int)) ∧ Boxed wr (w.heap.size + 1) 85 (.func (.func 91) #[] #[]) ∧ Blk wr Bk 116 #[.int .i64 (s : Int), .int .u64 (c.toNat : Int)] ∧ KeepsFrom w1.heap.size W wr ∧ KpR lo hi W wr ∧ Below w.heap.size w wr) (fun yv _ => (intOf yv).toNat)
        case atStart =>
          exact ⟨0, by rw [shr_val, Nat.zero_add, Nat.one_mul], b0, b1, b2, k1, k2, k3⟩
        case round =>
          obtain ⟨j, rfl, d0, d1, d2, g1, g2, g3⟩ := hrel
          have c0 := d0.cell
          have f0 := d0.frozen
          have c2 : wr.cell? ⟨Bk, 0, none⟩ = some (.int .i64 (s : Int)) := d2.cell 0
          have e1 : (((z >>> ((j + 1) * s)).toNat : Int) / 2 ^ s) = ((z >>> ((j + 1 + 1) * s)).toNat : Int) := by
            rw [shr_val, ← BitVec.shiftRight_add, Nat.add_mul (j + 1) 1 s, Nat.one_mul]
          have e2 : bits .xor .u64 ((acc s z j).toNat : Int) ((z >>> ((j + 1) * s)).toNat : Int) = ((acc s z (j + 1)).toNat : Int) := by
            rw [bits_xor_u64_nat _ _ (toNat_lt64 _) (toNat_lt64 _), ← BitVec.toNat_xor]; rfl
          by_cases hz0 : z >>> ((j + 1) * s) = 0#64
          · have hacc := acc_all hss.1 z j hz0
            rw [hz0]
            gi_wp2
            exact ⟨g1, g2, ⟨by rw [H3.out, ← hacc]; exact d0, d1⟩, g3, Nat.le_trans hsW g1.size⟩
          · generalize z >>> ((j + 1) * s) = y1 at *
            have hy1 : ¬ (y1.toNat : Int) = 0 := fun h => hz0 (BitVec.eq_of_toNat_eq (by simpa using h))
            clear hz0
            have E1 := Lib.hid e1
            have E2 := Lib.hid e2
            clear e1 e2
            have hlt2 : y1.toNat / 2 ^ s < y1.toNat := Nat.div_lt_self (by omega) (Nat.one_lt_two_pow (by omega))
            have hlt3 : ((y1.toNat : Int) / 2 ^ s).toNat < y1.toNat := by
              rw [show ((y1.toNat : Int) / 2 ^ s) = ((y1.toNat / 2 ^ s : Nat) : Int) from by simp]
              rw [Int.toNat_natCast]; exact hlt2
            have H4 := Lib.hid hlt3
            clear hlt2 hlt3
            gi_wp2
            refine ⟨⟨j + 1, by rw [E1.out], by rw [E2.out]; exact d0.set _, d1.other (by omega) _, d2.far (by simp; omega) _, g1.trans ((KeepsOthers.setCell _ _ _).from _), g2.trans (fun b q1 q2 => Below.heap_setCell _ _ _ b (by simp; omega)), g3.setCell (p := ⟨w.heap.size, 0, none⟩) (Nat.le_refl _) _⟩, ?_⟩
            have := H4.out
            simpa [intOf] using this
  case done =>
    rintro D zs W hD rfl ⟨⟨bS, bF⟩, hB, hsW⟩ hK
    have cS := bS.cell
    gi_wp2
    refine ⟨by simp, .inl ⟨_, _, rfl, run_takeDeferred hK, ?_⟩⟩
    exact ⟨_, results_tmp rfl _ _ _, by rw [unsB_all]; rfl, hB.trans (belowK_b (w := w) (Nat.le_refl _) W D _ _ (by omega) hK rfl rfl)⟩
  case stop =>
    rintro D c pre W _ _ h _
    exact h.elim
end Go.Proofs.Ytphpaaaaifpidaa
