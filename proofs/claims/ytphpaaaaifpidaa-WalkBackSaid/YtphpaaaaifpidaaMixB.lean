/- Package mix: Mix, Of. -/
import Derived.Test.YtphpaaaaifpidaaMixA
import Derived.Test.YtphpaaaaifpidaaChart
namespace Go.Proofs.Ytphpaaaaifpidaa
open Go.RowKit Go.Shelf
attribute [local go_sem] Oper.semAt_some

def stepB (k : Nat) (x : BitVec 64) : BitVec 64 := xs (shN k) x * byB k
def stepsB (l : List Nat) (x : BitVec 64) : BitVec 64 := l.foldl (fun x k => stepB k x) x
theorem stepsB_snoc (l : List Nat) (k : Nat) (x : BitVec 64) : stepsB (l ++ [k]) x = stepB k (stepsB l x) := by simp [stepsB]
theorem stepsB_all (x : BitVec 64) : stepsB (came false 3) x = mixB x := rfl
theorem toNat_lt64 (x : BitVec 64) : x.toNat < 18446744073709551616 := x.isLt
theorem stepB_val (k : Nat) (x : BitVec 64) (s C : Nat) (hs : 2 ^ shN k = s) (hC : (byB k).toNat = C) : IntKind.u64.wrap (bits .xor .u64 (x.toNat : Int) ((x.toNat : Int) / (s : Int)) * (C : Int)) = ((stepB k x).toNat : Int) := by
  rw [mixStep_u64 _ _ _ (toNat_lt64 x)]
  subst hs hC
  simp only [stepB, xs, BitVec.toNat_mul, BitVec.toNat_xor, BitVec.toNat_ushiftRight, Nat.shiftRight_eq_div_pow]
theorem stepB_last (x : BitVec 64) (m : Nat) : IntKind.u64.wrap (bits .xor .u64 (x.toNat : Int) ((x.toNat : Int) / 2147483648)) = ((stepB (m + 2) x).toNat : Int) := by
  have h := stepB_val (m + 2) x 2147483648 1 rfl rfl
  rwa [show ((1 : Nat) : Int) = 1 from rfl, Int.mul_one] at h

set_option maxRecDepth 100000 in
set_option maxHeartbeats 4000000 in
theorem mix_any (x : BitVec 64) (w : World) : Calls Try.prog 83 #[U x] w fun e w' => e = .returned (U (mixB x)) ∧ Ext w w' := by
  refine (callsIn_wide (n := 8)).1 ?_
  refine callsIn_of_wp_marks Try.func83 rfl trivial ?_ rfl
  simp only [Try.ntmps83, List.size_toArray, List.length_cons, List.length_nil, Nat.reduceAdd, Nat.reduceSub, Array.replicate_succ, Array.replicate_zero, List.push_toArray, List.append_toArray, List.nil_append, List.cons_append]
  rw [show U x = .int .u64 (x.toNat : Int) from rfl]
  gi_wp2_with (refine ⟨trivial, ?_⟩; gi_at_call 90; refine (callsIn_wide.2 (steps_any false _)).mono ?_; rintro e w1 ⟨lo, hi, bb, bl, rfl, x1, hlo, h1, h2, h3, h4, hhi, kb, kl⟩)
  rw [alloc_size] at hlo
  have bx := (Blk.new w 29 #[U x]).ext x1
  have hx := ((Ext.refl w).alloc (.cells #[U x] 29)).trans x1
  have hsz := bx.lt
  refine wpIn_rangeFunc_ownH (F := Fence.wide) rfl (by omega) (gf := 94) (lb := #[.pointer (some ⟨bb, 0, none⟩), .pointer (some ⟨bl, 0, none⟩)]) rfl trivial (enters_of Try.func94 (by kernel_rfl) rfl)
    (steps_stops Fence.wide 7 trivial rfl (by omega) false lo hi bb bl w1 kb kl h1 h2 h3 h4) (fun h k => h.trans k) (fun W l o o' hl _ _ _ => KpR.put W (by omega) o') (Below.refl _ _) (fun _ => rfl)
    (fun pre W => Boxed W w.heap.size 29 (U (stepsB pre x)) ∧ (Below w.heap.size w W ∧ w1.heap.size ≤ W.heap.size))
    (fun _ _ _ => False)
    (OwnFrom.and (Own.from (boxed_own _ _ _) _) (OwnFrom.and (ownFrom_below (Nat.le_refl _) (by omega)) (fun _ _ _ _ hs hg _ => Nat.le_trans hs hg.size)))
    (fun _ _ _ _ _ hs _ _ => hs)
    ⟨bx, hx, Nat.le_refl _⟩
    (fun k a' W => ∃ Bk, w1.heap.size ≤ Bk ∧ Blk W Bk 116 #[.int .i64 (shN k : Int), .int .u64 ((byB k).toNat : Int)] ∧ a' = { tmps := #[.int .u64 (x.toNat : Int), .pointer (some ⟨w.heap.size, 0, none⟩), .int .u64 0, .pointer (some ⟨Bk, 0, none⟩), .func (.func 94) #[] #[.pointer (some ⟨bb, 0, none⟩), .pointer (some ⟨bl, 0, none⟩)], stepE k, undef, undef, undef, undef, undef, undef, undef, undef, undef, undef], defers := [] })
    (fun k a' _ X Y row hs hg hr => by
      obtain ⟨Bk, h1, h2, h3⟩ := hs
      refine ⟨Bk, h1, h2.grown hg (fun e => ?_), h3⟩
      obtain ⟨_, o, ho, hc⟩ := hr _ e.symm
      rw [show X.heap[Bk]? = _ from h2] at ho
      cases ho
      cases hc)
    ?assign ?body ?done ?stop
  case assign =>
    rintro l pre k W K ⟨bS, hB, hsW⟩ hK
    simp only [stepE, U]
    gi_wp2
    have hk := Blk.new W 116 #[.int .i64 (shN k : Int), .int .u64 ((byB k).toNat : Int)]
    exact hK _ _ ((KeepsOthers.alloc _ _).from _) (fun b k1 k2 => Below.heap_alloc _ _ b (by omega)) ⟨bS.alloc _, hB.alloc hB.size _, by simp; omega⟩ ⟨W.heap.size, by omega, hk, rfl⟩
  case body =>
    rintro l pre k a' W hl ⟨r, hr⟩ ⟨bS, hB, hsW⟩ ⟨Bk, hBk, bX, rfl⟩ hlt
    have cS := bS.cell
    have fS := bS.frozen
    have c0 := bX.cell 0
    have c1 := bX.cell 1
    have hlo2 : w.heap.size < lo := by omega
    have hend : ∀ v aq, v = U (stepB k (stepsB pre x)) → ownPostG w1.heap.size (KpR lo hi) (fun pre W => Boxed W w.heap.size 29 (U (stepsB pre x)) ∧ (Below w.heap.size w W ∧ w1.heap.size ≤ W.heap.size)) (fun _ _ _ => False) (pre ++ [k]) W .normal aq (W.drew.setCell ⟨w.heap.size, 0, none⟩ v) := by
      rintro v aq rfl
      have bd : Boxed W.drew w.heap.size 29 (U (stepsB pre x)) := bS
      refine ⟨((KeepsOthers.drew W).trans (KeepsOthers.setCell _ _ _)).from _, fun b k1 k2 => Below.heap_setCell _ _ _ b (by simp; omega), by rw [stepsB_snoc]; exact bd.set _, hB.drew.setCell (p := ⟨w.heap.size, 0, none⟩) (by simp) _, by simpa using hsW⟩
    clear hlt
    generalize stepsB pre x = y at *
    simp only [U] at cS
    obtain rfl | rfl | ⟨m, rfl⟩ : k = 0 ∨ k = 1 ∨ ∃ m, k = m + 2 := by
      rcases k with _ | _ | m
      · exact .inl rfl
      · exact .inr (.inl rfl)
      · exact .inr (.inr ⟨m, rfl⟩)
    · have c0 : W.cell? ⟨Bk, 0, none⟩ = some (.int .i64 30) := c0
      have c1 : W.cell? ⟨Bk, 1, none⟩ = some (.int .u64 13787848793156543929) := c1
      gi_wp2
      refine wpIn_chart (by kernel_rfl) (fun D aq wq => (wq = W.drew ∧ ¬ D 9 ∧ ∃ u6 u7 u8 u9 u10 u11 u12 u13 u14, aq = { tmps := #[.int .u64 (x.toNat : Int), .pointer (some ⟨w.heap.size, 0, none⟩), .int .u64 0, .pointer (some ⟨Bk, 0, none⟩), .func (.func 94) #[] #[.pointer (some ⟨bb, 0, none⟩), .pointer (some ⟨bl, 0, none⟩)], stepE 0, u6, u7, u8, u9, u10, u11, u12, u13, u14, undef], defers := [] } ∧ (D 0 → u6 = .int .u64 (y.toNat : Int)) ∧ (D 1 → u7 = .int .u64 (y.toNat : Int)) ∧ (D 2 → u8 = .pointer (some ⟨Bk, 0, none⟩)) ∧ (D 3 → u9 = .int .i64 30) ∧ (D 4 → u10 = .int .u64 ((y.toNat : Int) / 1073741824)) ∧ (D 5 → u11 = .int .u64 (bits .xor .u64 (y.toNat : Int) ((y.toNat : Int) / 1073741824))) ∧ (D 6 → u12 = .pointer (some ⟨Bk, 1, none⟩)) ∧ (D 7 → u13 = .int .u64 13787848793156543929) ∧ (D 8 → u14 = .int .u64 (IntKind.u64.wrap ((bits .xor .u64 (y.toNat : Int) ((y.toNat : Int) / 1073741824)) * 13787848793156543929)))) ∨ (wq = W.drew.setCell ⟨w.heap.size, 0, none⟩ (.int .u64 (IntKind.u64.wrap ((bits .xor .u64 (y.toNat : Int) ((y.toNat : Int) / 1073741824)) * 13787848793156543929))) ∧ ∀ i, i < 10 → D i)) ?at0 ?lex ?step ?fin
      case at0 => exact .inl ⟨rfl, id, _, _, _, _, _, _, _, _, _, rfl, fun h => h.elim, fun h => h.elim, fun h => h.elim, fun h => h.elim, fun h => h.elim, fun h => h.elim, fun h => h.elim, fun h => h.elim, fun h => h.elim⟩
      case lex =>
        intro i o ho
        rcases i with _ | _ | _ | _ | _ | _ | _ | _ | _ | _ | i
        all_goals (first | (cases ho; decide) | (simp at ho))
      case step =>
        rintro D aq wq i o (⟨rfl, hn, u6, u7, u8, u9, u10, u11, u12, u13, u14, rfl, h0, h1, h2, h3, h4, h5, h6, h7, h8⟩ | ⟨_, hall⟩) ho hni hb K hK
        rotate_left
        · refine absurd (hall i ?_) hni
          have := (Array.getElem?_eq_some_iff.1 ho).1
          simpa using this
        rcases i with _ | _ | _ | _ | _ | _ | _ | _ | _ | _ | i
        · simp only [List.getElem?_toArray, List.getElem?_cons_zero, Option.some.injEq] at ho
          subst ho
          rw [if_pos (by rfl)]
          gi_big_op
          exact hK _ _ (.inl ⟨rfl, fun h => h.elim (fun e => absurd e (by decide)) hn, _, _, _, _, _, _, _, _, _, rfl, fun _ => rfl, fun h => h.elim (fun e => absurd e (by decide)) h1, fun h => h.elim (fun e => absurd e (by decide)) h2, fun h => h.elim (fun e => absurd e (by decide)) h3, fun h => h.elim (fun e => absurd e (by decide)) h4, fun h => h.elim (fun e => absurd e (by decide)) h5, fun h => h.elim (fun e => absurd e (by decide)) h6, fun h => h.elim (fun e => absurd e (by decide)) h7, fun h => h.elim (fun e => absurd e (by decide)) h8⟩)
        · simp only [List.getElem?_toArray, List.getElem?_cons_zero, List.getElem?_cons_succ, Option.some.injEq] at ho
          subst ho
          rw [if_pos (by rfl)]
          gi_big_op
          exact hK _ _ (.inl ⟨rfl, fun h => h.elim (fun e => absurd e (by decide)) hn, _, _, _, _, _, _, _, _, _, rfl, fun h => h.elim (fun e => absurd e (by decide)) h0, fun _ => rfl, fun h => h.elim (fun e => absurd e (by decide)) h2, fun h => h.elim (fun e => absurd e (by decide)) h3, fun h => h.elim (fun e => absurd e (by decide)) h4, fun h => h.elim (fun e => absurd e (by decide)) h5, fun h => h.elim (fun e => absurd e (by decide)) h6, fun h => h.elim (fun e => absurd e (by decide)) h7, fun h => h.elim (fun e => absurd e (by decide)) h8⟩)
        · simp only [List.getElem?_toArray, List.getElem?_cons_zero, List.getElem?_cons_succ, Option.some.injEq] at ho
          subst ho
          rw [if_pos (by rfl)]
          gi_big_op
          exact hK _ _ (.inl ⟨rfl, fun h => h.elim (fun e => absurd e (by decide)) hn, _, _, _, _, _, _, _, _, _, rfl, fun h => h.elim (fun e => absurd e (by decide)) h0, fun h => h.elim (fun e => absurd e (by decide)) h1, fun _ => rfl, fun h => h.elim (fun e => absurd e (by decide)) h3, fun h => h.elim (fun e => absurd e (by decide)) h4, fun h => h.elim (fun e => absurd e (by decide)) h5, fun h => h.elim (fun e => absurd e (by decide)) h6, fun h => h.elim (fun e => absurd e (by decide)) h7, fun h => h.elim (fun e => absurd e (by decide)) h8⟩)
        · simp only [List.getElem?_toArray, List.getElem?_cons_zero, List.getElem?_cons_succ, Option.some.injEq] at ho
          subst ho
          obtain rfl := h2 (hb ⟨2, .data⟩ (by simp) rfl)
          rw [if_pos (by rfl)]
          gi_big_op
          exact hK _ _ (.inl ⟨rfl, fun h => h.elim (fun e => absurd e (by decide)) hn, _, _, _, _, _, _, _, _, _, rfl, fun h => h.elim (fun e => absurd e (by decide)) h0, fun h => h.elim (fun e => absurd e (by decide)) h1, fun h => h.elim (fun e => absurd e (by decide)) (fun _ => rfl), fun _ => rfl, fun h => h.elim (fun e => absurd e (by decide)) h4, fun h => h.elim (fun e => absurd e (by decide)) h5, fun h => h.elim (fun e => absurd e (by decide)) h6, fun h => h.elim (fun e => absurd e (by decide)) h7, fun h => h.elim (fun e => absurd e (by decide)) h8⟩)
        · simp only [List.getElem?_toArray, List.getElem?_cons_zero, List.getElem?_cons_succ, Option.some.injEq] at ho
          subst ho
          obtain rfl := h1 (hb ⟨1, .data⟩ (by simp) rfl)
          obtain rfl := h3 (hb ⟨3, .data⟩ (by simp) rfl)
          rw [if_pos (by rfl)]
          gi_big_op
          exact hK _ _ (.inl ⟨rfl, fun h => h.elim (fun e => absurd e (by decide)) hn, _, _, _, _, _, _, _, _, _, rfl, fun h => h.elim (fun e => absurd e (by decide)) h0, fun h => h.elim (fun e => absurd e (by decide)) (fun _ => rfl), fun h => h.elim (fun e => absurd e (by decide)) h2, fun h => h.elim (fun e => absurd e (by decide)) (fun _ => rfl), fun _ => rfl, fun h => h.elim (fun e => absurd e (by decide)) h5, fun h => h.elim (fun e => absurd e (by decide)) h6, fun h => h.elim (fun e => absurd e (by decide)) h7, fun h => h.elim (fun e => absurd e (by decide)) h8⟩)
        · simp only [List.getElem?_toArray, List.getElem?_cons_zero, List.getElem?_cons_succ, Option.some.injEq] at ho
          subst ho
          obtain rfl := h0 (hb ⟨0, .data⟩ (by simp) rfl)
          obtain rfl := h4 (hb ⟨4, .data⟩ (by simp) rfl)
          rw [if_pos (by rfl)]
          gi_big_op
          exact hK _ _ (.inl ⟨rfl, fun h => h.elim (fun e => absurd e (by decide)) hn, _, _, _, _, _, _, _, _, _, rfl, fun h => h.elim (fun e => absurd e (by decide)) (fun _ => rfl), fun h => h.elim (fun e => absurd e (by decide)) h1, fun h => h.elim (fun e => absurd e (by decide)) h2, fun h => h.elim (fun e => absurd e (by decide)) h3, fun h => h.elim (fun e => absurd e (by decide)) (fun _ => rfl), fun _ => rfl, fun h => h.elim (fun e => absurd e (by decide)) h6, fun h => h.elim (fun e => absurd e (by decide)) h7, fun h => h.elim (fun e => absurd e (by decide)) h8⟩)
        · simp only [List.getElem?_toArray, List.getElem?_cons_zero, List.getElem?_cons_succ, Option.some.injEq] at ho
          subst ho
          rw [if_pos (by rfl)]
          gi_big_op
          exact hK _ _ (.inl ⟨rfl, fun h => h.elim (fun e => absurd e (by decide)) hn, _, _, _, _, _, _, _, _, _, rfl, fun h => h.elim (fun e => absurd e (by decide)) h0, fun h => h.elim (fun e => absurd e (by decide)) h1, fun h => h.elim (fun e => absurd e (by decide)) h2, fun h => h.elim (fun e => absurd e (by decide)) h3, fun h => h.elim (fun e => absurd e (by decide)) h4, fun h => h.elim (fun e => absurd e (by decide)) h5, fun _ => rfl, fun h => h.elim (fun e => absurd e (by decide)) h7, fun h => h.elim (fun e => absurd e (by decide)) h8⟩)
        · simp only [List.getElem?_toArray, List.getElem?_cons_zero, List.getElem?_cons_succ, Option.some.injEq] at ho
          subst ho
          obtain rfl := h6 (hb ⟨6, .data⟩ (by simp) rfl)
          rw [if_pos (by rfl)]
          gi_big_op
          exact hK _ _ (.inl ⟨rfl, fun h => h.elim (fun e => absurd e (by decide)) hn, _, _, _, _, _, _, _, _, _, rfl, fun h => h.elim (fun e => absurd e (by decide)) h0, fun h => h.elim (fun e => absurd e (by decide)) h1, fun h => h.elim (fun e => absurd e (by decide)) h2, fun h => h.elim (fun e => absurd e (by decide)) h3, fun h => h.elim (fun e => absurd e (by decide)) h4, fun h => h.elim (fun e => absurd e (by decide)) h5, fun h => h.elim (fun e => absurd e (by decide)) (fun _ => rfl), fun _ => rfl, fun h => h.elim (fun e => absurd e (by decide)) h8⟩)
        · simp only [List.getElem?_toArray, List.getElem?_cons_zero, List.getElem?_cons_succ, Option.some.injEq] at ho
          subst ho
          obtain rfl := h5 (hb ⟨5, .data⟩ (by simp) rfl)
          obtain rfl := h7 (hb ⟨7, .data⟩ (by simp) rfl)
          rw [if_pos (by rfl)]
          gi_big_op
          exact hK _ _ (.inl ⟨rfl, fun h => h.elim (fun e => absurd e (by decide)) hn, _, _, _, _, _, _, _, _, _, rfl, fun h => h.elim (fun e => absurd e (by decide)) h0, fun h => h.elim (fun e => absurd e (by decide)) h1, fun h => h.elim (fun e => absurd e (by decide)) h2, fun h => h.elim (fun e => absurd e (by decide)) h3, fun h => h.elim (fun e => absurd e (by decide)) h4, fun h => h.elim (fun e => absurd e (by decide)) (fun _ => rfl), fun h => h.elim (fun e => absurd e (by decide)) h6, fun h => h.elim (fun e => absurd e (by decide)) (fun _ => rfl), fun _ => rfl⟩)
        · simp only [List.getElem?_toArray, List.getElem?_cons_zero, List.getElem?_cons_succ, Option.some.injEq] at ho
          subst ho
          obtain rfl := h8 (hb ⟨8, .data⟩ (by simp) rfl)
          rw [if_pos (by rfl)]
          gi_big_op
          refine hK _ _ (.inr ⟨rfl, fun j hj => ?_⟩)
          by_cases hj9 : j = 9
          · exact .inl hj9
          · refine .inr (hb ⟨j, .phase⟩ ?_ rfl)
            rcases j with _ | _ | _ | _ | _ | _ | _ | _ | _ | _ | j
            all_goals (first | decide | (simp; done) | (exact absurd rfl hj9) | omega)
        · simp at ho
      case fin =>
        rintro D aq wq (⟨_, hn, _⟩ | ⟨rfl, _⟩) hall
        · exact absurd (hall 9 (by decide)) hn
        · exact hend _ aq (congrArg (Value.int .u64) (stepB_val _ y 1073741824 13787848793156543929 (by decide) (by decide)))
    · have c0 : W.cell? ⟨Bk, 0, none⟩ = some (.int .i64 27) := c0
      have c1 : W.cell? ⟨Bk, 1, none⟩ = some (.int .u64 10723151780598845931) := c1
      gi_wp2
      refine wpIn_chart (by kernel_rfl) (fun D aq wq => (wq = W.drew ∧ ¬ D 9 ∧ ∃ u6 u7 u8 u9 u10 u11 u12 u13 u14, aq = { tmps := #[.int .u64 (x.toNat : Int), .pointer (some ⟨w.heap.size, 0, none⟩), .int .u64 0, .pointer (some ⟨Bk, 0, none⟩), .func (.func 94) #[] #[.pointer (some ⟨bb, 0, none⟩), .pointer (some ⟨bl, 0, none⟩)], stepE 1, u6, u7, u8, u9, u10, u11, u12, u13, u14, undef], defers := [] } ∧ (D 0 → u6 = .int .u64 (y.toNat : Int)) ∧ (D 1 → u7 = .int .u64 (y.toNat : Int)) ∧ (D 2 → u8 = .pointer (some ⟨Bk, 0, none⟩)) ∧ (D 3 → u9 = .int .i64 27) ∧ (D 4 → u10 = .int .u64 ((y.toNat : Int) / 134217728)) ∧ (D 5 → u11 = .int .u64 (bits .xor .u64 (y.toNat : Int) ((y.toNat : Int) / 134217728))) ∧ (D 6 → u12 = .pointer (some ⟨Bk, 1, none⟩)) ∧ (D 7 → u13 = .int .u64 10723151780598845931) ∧ (D 8 → u14 = .int .u64 (IntKind.u64.wrap ((bits .xor .u64 (y.toNat : Int) ((y.toNat : Int) / 134217728)) * 10723151780598845931)))) ∨ (wq = W.drew.setCell ⟨w.heap.size, 0, none⟩ (.int .u64 (IntKind.u64.wrap ((bits .xor .u64 (y.toNat : Int) ((y.toNat : Int) / 134217728)) * 10723151780598845931))) ∧ ∀ i, i < 10 → D i)) ?at0 ?lex ?step ?fin
      case at0 => exact .inl ⟨rfl, id, _, _, _, _, _, _, _, _, _, rfl, fun h => h.elim, fun h => h.elim, fun h => h.elim, fun h => h.elim, fun h => h.elim, fun h => h.elim, fun h => h.elim, fun h => h.elim, fun h => h.elim⟩
      case lex =>
        intro i o ho
        rcases i with _ | _ | _ | _ | _ | _ | _ | _ | _ | _ | i
        all_goals (first | (cases ho; decide) | (simp at ho))
      case step =>
        rintro D aq wq i o (⟨rfl, hn, u6, u7, u8, u9, u10, u11, u12, u13, u14, rfl, h0, h1, h2, h3, h4, h5, h6, h7, h8⟩ | ⟨_, hall⟩) ho hni hb K hK
        rotate_left
        · refine absurd (hall i ?_) hni
          have := (Array.getElem?_eq_some_iff.1 ho).1
          simpa using this
        rcases i with _ | _ | _ | _ | _ | _ | _ | _ | _ | _ | i
        · simp only [List.getElem?_toArray, List.getElem?_cons_zero, Option.some.injEq] at ho
          subst ho
          rw [if_pos (by rfl)]
          gi_big_op
          exact hK _ _ (.inl ⟨rfl, fun h => h.elim (fun e => absurd e (by decide)) hn, _, _, _, _, _, _, _, _, _, rfl, fun _ => rfl, fun h => h.elim (fun e => absurd e (by decide)) h1, fun h => h.elim (fun e => absurd e (by decide)) h2, fun h => h.elim (fun e => absurd e (by decide)) h3, fun h => h.elim (fun e => absurd e (by decide)) h4, fun h => h.elim (fun e => absurd e (by decide)) h5, fun h => h.elim (fun e => absurd e (by decide)) h6, fun h => h.elim (fun e => absurd e (by decide)) h7, fun h => h.elim (fun e => absurd e (by decide)) h8⟩)
        · simp only [List.getElem?_toArray, List.getElem?_cons_zero, List.getElem?_cons_succ, Option.some.injEq] at ho
          subst ho
          rw [if_pos (by rfl)]
          gi_big_op
          exact hK _ _ (.inl ⟨rfl, fun h => h.elim (fun e => absurd e (by decide)) hn, _, _, _, _, _, _, _, _, _, rfl, fun h => h.elim (fun e => absurd e (by decide)) h0, fun _ => rfl, fun h => h.elim (fun e => absurd e (by decide)) h2, fun h => h.elim (fun e => absurd e (by decide)) h3, fun h => h.elim (fun e => absurd e (by decide)) h4, fun h => h.elim (fun e => absurd e (by decide)) h5, fun h => h.elim (fun e => absurd e (by decide)) h6, fun h => h.elim (fun e => absurd e (by decide)) h7, fun h => h.elim (fun e => absurd e (by decide)) h8⟩)
        · simp only [List.getElem?_toArray, List.getElem?_cons_zero, List.getElem?_cons_succ, Option.some.injEq] at ho
          subst ho
          rw [if_pos (by rfl)]
          gi_big_op
          exact hK _ _ (.inl ⟨rfl, fun h => h.elim (fun e => absurd e (by decide)) hn, _, _, _, _, _, _, _, _, _, rfl, fun h => h.elim (fun e => absurd e (by decide)) h0, fun h => h.elim (fun e => absurd e (by decide)) h1, fun _ => rfl, fun h => h.elim (fun e => absurd e (by decide)) h3, fun h => h.elim (fun e => absurd e (by decide)) h4, fun h => h.elim (fun e => absurd e (by decide)) h5, fun h => h.elim (fun e => absurd e (by decide)) h6, fun h => h.elim (fun e => absurd e (by decide)) h7, fun h => h.elim (fun e => absurd e (by decide)) h8⟩)
        · simp only [List.getElem?_toArray, List.getElem?_cons_zero, List.getElem?_cons_succ, Option.some.injEq] at ho
          subst ho
          obtain rfl := h2 (hb ⟨2, .data⟩ (by simp) rfl)
          rw [if_pos (by rfl)]
          gi_big_op
          exact hK _ _ (.inl ⟨rfl, fun h => h.elim (fun e => absurd e (by decide)) hn, _, _, _, _, _, _, _, _, _, rfl, fun h => h.elim (fun e => absurd e (by decide)) h0, fun h => h.elim (fun e => absurd e (by decide)) h1, fun h => h.elim (fun e => absurd e (by decide)) (fun _ => rfl), fun _ => rfl, fun h => h.elim (fun e => absurd e (by decide)) h4, fun h => h.elim (fun e => absurd e (by decide)) h5, fun h => h.elim (fun e => absurd e (by decide)) h6, fun h => h.elim (fun e => absurd e (by decide)) h7, fun h => h.elim (fun e => absurd e (by decide)) h8⟩)
        · simp only [List.getElem?_toArray, List.getElem?_cons_zero, List.getElem?_cons_succ, Option.some.injEq] at ho
          subst ho
          obtain rfl := h1 (hb ⟨1, .data⟩ (by simp) rfl)
          obtain rfl := h3 (hb ⟨3, .data⟩ (by simp) rfl)
          rw [if_pos (by rfl)]
          gi_big_op
          exact hK _ _ (.inl ⟨rfl, fun h => h.elim (fun e => absurd e (by decide)) hn, _, _, _, _, _, _, _, _, _, rfl, fun h => h.elim (fun e => absurd e (by decide)) h0, fun h => h.elim (fun e => absurd e (by decide)) (fun _ => rfl), fun h => h.elim (fun e => absurd e (by decide)) h2, fun h => h.elim (fun e => absurd e (by decide)) (fun _ => rfl), fun _ => rfl, fun h => h.elim (fun e => absurd e (by decide)) h5, fun h => h.elim (fun e => absurd e (by decide)) h6, fun h => h.elim (fun e => absurd e (by decide)) h7, fun h => h.elim (fun e => absurd e (by decide)) h8⟩)
        · simp only [List.getElem?_toArray, List.getElem?_cons_zero, List.getElem?_cons_succ, Option.some.injEq] at ho
          subst ho
          obtain rfl := h0 (hb ⟨0, .data⟩ (by simp) rfl)
          obtain rfl := h4 (hb ⟨4, .data⟩ (by simp) rfl)
          rw [if_pos (by rfl)]
          gi_big_op
          exact hK _ _ (.inl ⟨rfl, fun h => h.elim (fun e => absurd e (by decide)) hn, _, _, _, _, _, _, _, _, _, rfl, fun h => h.elim (fun e => absurd e (by decide)) (fun _ => rfl), fun h => h.elim (fun e => absurd e (by decide)) h1, fun h => h.elim (fun e => absurd e (by decide)) h2, fun h => h.elim (fun e => absurd e (by decide)) h3, fun h => h.elim (fun e => absurd e (by decide)) (fun _ => rfl), fun _ => rfl, fun h => h.elim (fun e => absurd e (by decide)) h6, fun h => h.elim (fun e => absurd e (by decide)) h7, fun h => h.elim (fun e => absurd e (by decide)) h8⟩)
        · simp only [List.getElem?_toArray, List.getElem?_cons_zero, List.getElem?_cons_succ, Option.some.injEq] at ho
          subst ho
          rw [if_pos (by rfl)]
          gi_big_op
          exact hK _ _ (.inl ⟨rfl, fun h => h.elim (fun e => absurd e (by decide)) hn, _, _, _, _, _, _, _, _, _, rfl, fun h => h.elim (fun e => absurd e (by decide)) h0, fun h => h.elim (fun e => absurd e (by decide)) h1, fun h => h.elim (fun e => absurd e (by decide)) h2, fun h => h.elim (fun e => absurd e (by decide)) h3, fun h => h.elim (fun e => absurd e (by decide)) h4, fun h => h.elim (fun e => absurd e (by decide)) h5, fun _ => rfl, fun h => h.elim (fun e => absurd e (by decide)) h7, fun h => h.elim (fun e => absurd e (by decide)) h8⟩)
        · simp only [List.getElem?_toArray, List.getElem?_cons_zero, List.getElem?_cons_succ, Option.some.injEq] at ho
          subst ho
          obtain rfl := h6 (hb ⟨6, .data⟩ (by simp) rfl)
          rw [if_pos (by rfl)]
          gi_big_op
          exact hK _ _ (.inl ⟨rfl, fun h => h.elim (fun e => absurd e (by decide)) hn, _, _, _, _, _, _, _, _, _, rfl, fun h => h.elim (fun e => absurd e (by decide)) h0, fun h => h.elim (fun e => absurd e (by decide)) h1, fun h => h.elim (fun e => absurd e (by decide)) h2, fun h => h.elim (fun e => absurd e (by decide)) h3, fun h => h.elim (fun e => absurd e (by decide)) h4, fun h => h.elim (fun e => absurd e (by decide)) h5, fun h => h.elim (fun e => absurd e (by decide)) (fun _ => rfl), fun _ => rfl, fun h => h.elim (fun e => absurd e (by decide)) h8⟩)
        · simp only [List.getElem?_toArray, List.getElem?_cons_zero, List.getElem?_cons_succ, Option.some.injEq] at ho
          subst ho
          obtain rfl := h5 (hb ⟨5, .data⟩ (by simp) rfl)
          obtain rfl := h7 (hb ⟨7, .data⟩ (by simp) rfl)
          rw [if_pos (by rfl)]
          gi_big_op
          exact hK _ _ (.inl ⟨rfl, fun h => h.elim (fun e => absurd e (by decide)) hn, _, _, _, _, _, _, _, _, _, rfl, fun h => h.elim (fun e => absurd e (by decide)) h0, fun h => h.elim (fun e => absurd e (by decide)) h1, fun h => h.elim (fun e => absurd e (by decide)) h2, fun h => h.elim (fun e => absurd e (by decide)) h3, fun h => h.elim (fun e => absurd e (by decide)) h4, fun h => h.elim (fun e => absurd e (by decide)) (fun _ => rfl), fun h => h.elim (fun e => absurd e (by decide)) h6, fun h => h.elim (fun e => absurd e (by decide)) (fun _ => rfl), fun _ => rfl⟩)
        · simp only [List.getElem?_toArray, List.getElem?_cons_zero, List.getElem?_cons_succ, Option.some.injEq] at ho
          subst ho
          obtain rfl := h8 (hb ⟨8, .data⟩ (by simp) rfl)
          rw [if_pos (by rfl)]
          gi_big_op
          refine hK _ _ (.inr ⟨rfl, fun j hj => ?_⟩)
          by_cases hj9 : j = 9
          · exact .inl hj9
          · refine .inr (hb ⟨j, .phase⟩ ?_ rfl)
            rcases j with _ | _ | _ | _ | _ | _ | _ | _ | _ | _ | j
            all_goals (first | decide | (simp; done) | (exact absurd rfl hj9) | omega)
        · simp at ho
      case fin =>
        rintro D aq wq (⟨_, hn, _⟩ | ⟨rfl, _⟩) hall
        · exact absurd (hall 9 (by decide)) hn
        · exact hend _ aq (congrArg (Value.int .u64) (stepB_val _ y 134217728 10723151780598845931 (by decide) (by decide)))
    · have c0 : W.cell? ⟨Bk, 0, none⟩ = some (.int .i64 31) := c0
      have c1 : W.cell? ⟨Bk, 1, none⟩ = some (.int .u64 1) := c1
      gi_wp2
      refine wpIn_chart (by kernel_rfl) (fun D aq wq => (wq = W.drew ∧ ¬ D 9 ∧ ∃ u6 u7 u8 u9 u10 u11 u12 u13 u14, aq = { tmps := #[.int .u64 (x.toNat : Int), .pointer (some ⟨w.heap.size, 0, none⟩), .int .u64 0, .pointer (some ⟨Bk, 0, none⟩), .func (.func 94) #[] #[.pointer (some ⟨bb, 0, none⟩), .pointer (some ⟨bl, 0, none⟩)], stepE (m + 2), u6, u7, u8, u9, u10, u11, u12, u13, u14, undef], defers := [] } ∧ (D 0 → u6 = .int .u64 (y.toNat : Int)) ∧ (D 1 → u7 = .int .u64 (y.toNat : Int)) ∧ (D 2 → u8 = .pointer (some ⟨Bk, 0, none⟩)) ∧ (D 3 → u9 = .int .i64 31) ∧ (D 4 → u10 = .int .u64 ((y.toNat : Int) / 2147483648)) ∧ (D 5 → u11 = .int .u64 (bits .xor .u64 (y.toNat : Int) ((y.toNat : Int) / 2147483648))) ∧ (D 6 → u12 = .pointer (some ⟨Bk, 1, none⟩)) ∧ (D 7 → u13 = .int .u64 1) ∧ (D 8 → u14 = .int .u64 (IntKind.u64.wrap (bits .xor .u64 (y.toNat : Int) ((y.toNat : Int) / 2147483648))))) ∨ (wq = W.drew.setCell ⟨w.heap.size, 0, none⟩ (.int .u64 (IntKind.u64.wrap (bits .xor .u64 (y.toNat : Int) ((y.toNat : Int) / 2147483648)))) ∧ ∀ i, i < 10 → D i)) ?at0 ?lex ?step ?fin
      case at0 => exact .inl ⟨rfl, id, _, _, _, _, _, _, _, _, _, rfl, fun h => h.elim, fun h => h.elim, fun h => h.elim, fun h => h.elim, fun h => h.elim, fun h => h.elim, fun h => h.elim, fun h => h.elim, fun h => h.elim⟩
      case lex =>
        intro i o ho
        rcases i with _ | _ | _ | _ | _ | _ | _ | _ | _ | _ | i
        all_goals (first | (cases ho; decide) | (simp at ho))
      case step =>
        rintro D aq wq i o (⟨rfl, hn, u6, u7, u8, u9, u10, u11, u12, u13, u14, rfl, h0, h1, h2, h3, h4, h5, h6, h7, h8⟩ | ⟨_, hall⟩) ho hni hb K hK
        rotate_left
        · refine absurd (hall i ?_) hni
          have := (Array.getElem?_eq_some_iff.1 ho).1
          simpa using this
        rcases i with _ | _ | _ | _ | _ | _ | _ | _ | _ | _ | i
        · simp only [List.getElem?_toArray, List.getElem?_cons_zero, Option.some.injEq] at ho
          subst ho
          rw [if_pos (by rfl)]
          gi_big_op
          exact hK _ _ (.inl ⟨rfl, fun h => h.elim (fun e => absurd e (by decide)) hn, _, _, _, _, _, _, _, _, _, rfl, fun _ => rfl, fun h => h.elim (fun e => absurd e (by decide)) h1, fun h => h.elim (fun e => absurd e (by decide)) h2, fun h => h.elim (fun e => absurd e (by decide)) h3, fun h => h.elim (fun e => absurd e (by decide)) h4, fun h => h.elim (fun e => absurd e (by decide)) h5, fun h => h.elim (fun e => absurd e (by decide)) h6, fun h => h.elim (fun e => absurd e (by decide)) h7, fun h => h.elim (fun e => absurd e (by decide)) h8⟩)
        · simp only [List.getElem?_toArray, List.getElem?_cons_zero, List.getElem?_cons_succ, Option.some.injEq] at ho
          subst ho
          rw [if_pos (by rfl)]
          gi_big_op
          exact hK _ _ (.inl ⟨rfl, fun h => h.elim (fun e => absurd e (by decide)) hn, _, _, _, _, _, _, _, _, _, rfl, fun h => h.elim (fun e => absurd e (by decide)) h0, fun _ => rfl, fun h => h.elim (fun e => absurd e (by decide)) h2, fun h => h.elim (fun e => absurd e (by decide)) h3, fun h => h.elim (fun e => absurd e (by decide)) h4, fun h => h.elim (fun e => absurd e (by decide)) h5, fun h => h.elim (fun e => absurd e (by decide)) h6, fun h => h.elim (fun e => absurd e (by decide)) h7, fun h => h.elim (fun e => absurd e (by decide)) h8⟩)
        · simp only [List.getElem?_toArray, List.getElem?_cons_zero, List.getElem?_cons_succ, Option.some.injEq] at ho
          subst ho
          rw [if_pos (by rfl)]
          gi_big_op
          exact hK _ _ (.inl ⟨rfl, fun h => h.elim (fun e => absurd e (by decide)) hn, _, _, _, _, _, _, _, _, _, rfl, fun h => h.elim (fun e => absurd e (by decide)) h0, fun h => h.elim (fun e => absurd e (by decide)) h1, fun _ => rfl, fun h => h.elim (fun e => absurd e (by decide)) h3, fun h => h.elim (fun e => absurd e (by decide)) h4, fun h => h.elim (fun e => absurd e (by decide)) h5, fun h => h.elim (fun e => absurd e (by decide)) h6, fun h => h.elim (fun e => absurd e (by decide)) h7, fun h => h.elim (fun e => absurd e (by decide)) h8⟩)
        · simp only [List.getElem?_toArray, List.getElem?_cons_zero, List.getElem?_cons_succ, Option.some.injEq] at ho
          subst ho
          obtain rfl := h2 (hb ⟨2, .data⟩ (by simp) rfl)
          rw [if_pos (by rfl)]
          gi_big_op
          exact hK _ _ (.inl ⟨rfl, fun h => h.elim (fun e => absurd e (by decide)) hn, _, _, _, _, _, _, _, _, _, rfl, fun h => h.elim (fun e => absurd e (by decide)) h0, fun h => h.elim (fun e => absurd e (by decide)) h1, fun h => h.elim (fun e => absurd e (by decide)) (fun _ => rfl), fun _ => rfl, fun h => h.elim (fun e => absurd e (by decide)) h4, fun h => h.elim (fun e => absurd e (by decide)) h5, fun h => h.elim (fun e => absurd e (by decide)) h6, fun h => h.elim (fun e => absurd e (by decide)) h7, fun h => h.elim (fun e => absurd e (by decide)) h8⟩)
        · simp only [List.getElem?_toArray, List.getElem?_cons_zero, List.getElem?_cons_succ, Option.some.injEq] at ho
          subst ho
          obtain rfl := h1 (hb ⟨1, .data⟩ (by simp) rfl)
          obtain rfl := h3 (hb ⟨3, .data⟩ (by simp) rfl)
          rw [if_pos (by rfl)]
          gi_big_op
          exact hK _ _ (.inl ⟨rfl, fun h => h.elim (fun e => absurd e (by decide)) hn, _, _, _, _, _, _, _, _, _, rfl, fun h => h.elim (fun e => absurd e (by decide)) h0, fun h => h.elim (fun e => absurd e (by decide)) (fun _ => rfl), fun h => h.elim (fun e => absurd e (by decide)) h2, fun h => h.elim (fun e => absurd e (by decide)) (fun _ => rfl), fun _ => rfl, fun h => h.elim (fun e => absurd e (by decide)) h5, fun h => h.elim (fun e => absurd e (by decide)) h6, fun h => h.elim (fun e => absurd e (by decide)) h7, fun h => h.elim (fun e => absurd e (by decide)) h8⟩)
        · simp only [List.getElem?_toArray, List.getElem?_cons_zero, List.getElem?_cons_succ, Option.some.injEq] at ho
          subst ho
          obtain rfl := h0 (hb ⟨0, .data⟩ (by simp) rfl)
          obtain rfl := h4 (hb ⟨4, .data⟩ (by simp) rfl)
          rw [if_pos (by rfl)]
          gi_big_op
          exact hK _ _ (.inl ⟨rfl, fun h => h.elim (fun e => absurd e (by decide)) hn, _, _, _, _, _, _, _, _, _, rfl, fun h => h.elim (fun e => absurd e (by decide)) (fun _ => rfl), fun h => h.elim (fun e => absurd e (by decide)) h1, fun h => h.elim (fun e => absurd e (by decide)) h2, fun h => h.elim (fun e => absurd e (by decide)) h3, fun h => h.elim (fun e => absurd e (by decide)) (fun _ => rfl), fun _ => rfl, fun h => h.elim (fun e => absurd e (by decide)) h6, fun h => h.elim (fun e => absurd e (by decide)) h7, fun h => h.elim (fun e => absurd e (by decide)) h8⟩)
        · simp only [List.getElem?_toArray, List.getElem?_cons_zero, List.getElem?_cons_succ, Option.some.injEq] at ho
          subst ho
          rw [if_pos (by rfl)]
          gi_big_op
          exact hK _ _ (.inl ⟨rfl, fun h => h.elim (fun e => absurd e (by decide)) hn, _, _, _, _, _, _, _, _, _, rfl, fun h => h.elim (fun e => absurd e (by decide)) h0, fun h => h.elim (fun e => absurd e (by decide)) h1, fun h => h.elim (fun e => absurd e (by decide)) h2, fun h => h.elim (fun e => absurd e (by decide)) h3, fun h => h.elim (fun e => absurd e (by decide)) h4, fun h => h.elim (fun e => absurd e (by decide)) h5, fun _ => rfl, fun h => h.elim (fun e => absurd e (by decide)) h7, fun h => h.elim (fun e => absurd e (by decide)) h8⟩)
        · simp only [List.getElem?_toArray, List.getElem?_cons_zero, List.getElem?_cons_succ, Option.some.injEq] at ho
          subst ho
          obtain rfl := h6 (hb ⟨6, .data⟩ (by simp) rfl)
          rw [if_pos (by rfl)]
          gi_big_op
          exact hK _ _ (.inl ⟨rfl, fun h => h.elim (fun e => absurd e (by decide)) hn, _, _, _, _, _, _, _, _, _, rfl, fun h => h.elim (fun e => absurd e (by decide)) h0, fun h => h.elim (fun e => absurd e (by decide)) h1, fun h => h.elim (fun e => absurd e (by decide)) h2, fun h => h.elim (fun e => absurd e (by decide)) h3, fun h => h.elim (fun e => absurd e (by decide)) h4, fun h => h.elim (fun e => absurd e (by decide)) h5, fun h => h.elim (fun e => absurd e (by decide)) (fun _ => rfl), fun _ => rfl, fun h => h.elim (fun e => absurd e (by decide)) h8⟩)
        · simp only [List.getElem?_toArray, List.getElem?_cons_zero, List.getElem?_cons_succ, Option.some.injEq] at ho
          subst ho
          obtain rfl := h5 (hb ⟨5, .data⟩ (by simp) rfl)
          obtain rfl := h7 (hb ⟨7, .data⟩ (by simp) rfl)
          rw [if_pos (by rfl)]
          gi_big_op
          exact hK _ _ (.inl ⟨rfl, fun h => h.elim (fun e => absurd e (by decide)) hn, _, _, _, _, _, _, _, _, _, rfl, fun h => h.elim (fun e => absurd e (by decide)) h0, fun h => h.elim (fun e => absurd e (by decide)) h1, fun h => h.elim (fun e => absurd e (by decide)) h2, fun h => h.elim (fun e => absurd e (by decide)) h3, fun h => h.elim (fun e => absurd e (by decide)) h4, fun h => h.elim (fun e => absurd e (by decide)) (fun _ => rfl), fun h => h.elim (fun e => absurd e (by decide)) h6, fun h => h.elim (fun e => absurd e (by decide)) (fun _ => rfl), fun _ => rfl⟩)
        · simp only [List.getElem?_toArray, List.getElem?_cons_zero, List.getElem?_cons_succ, Option.some.injEq] at ho
          subst ho
          obtain rfl := h8 (hb ⟨8, .data⟩ (by simp) rfl)
          rw [if_pos (by rfl)]
          gi_big_op
          refine hK _ _ (.inr ⟨rfl, fun j hj => ?_⟩)
          by_cases hj9 : j = 9
          · exact .inl hj9
          · refine .inr (hb ⟨j, .phase⟩ ?_ rfl)
            rcases j with _ | _ | _ | _ | _ | _ | _ | _ | _ | _ | j
            all_goals (first | decide | (simp; done) | (exact absurd rfl hj9) | omega)
        · simp at ho
      case fin =>
        rintro D aq wq (⟨_, hn, _⟩ | ⟨rfl, _⟩) hall
        · exact absurd (hall 9 (by decide)) hn
        · exact hend _ aq (congrArg (Value.int .u64) (stepB_last y m))
  case done =>
    rintro D zs W hD rfl ⟨bS, hB, hsW⟩ hK
    have cS := bS.cell
    gi_wp2
    refine ⟨by simp, .inl ⟨_, _, rfl, run_takeDeferred hK, ?_⟩⟩
    exact ⟨_, results_tmp rfl _ _ _, rfl, hB.trans (belowK_b (w := w) (Nat.le_refl _) W D _ _ (by omega) hK rfl rfl)⟩
  case stop =>
    rintro D c pre W _ _ h _
    exact h.elim
end Go.Proofs.Ytphpaaaaifpidaa
