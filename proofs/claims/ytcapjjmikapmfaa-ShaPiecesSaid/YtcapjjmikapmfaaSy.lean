/- ShaPieces. -/
import Derived.Test.YtcapjjmikapmfaaSp
import Derived.Test.YtcapjjmikapmfaaSo
import Derived.Test.YtcapjjmikapmfaaXj
import Derived.Test.YtcapjjmikapmfaaXr
import Derived.Test.YtcapjjmikapmfaaXe
set_option linter.unusedVariables false
set_option linter.unusedSimpArgs false
namespace Go.Proofs.Ytcapjjmikapmfaa.M
open Go Go.Proofs

/-- A row of rows, as an argument. -/
def RowsAt (H : Heap) (v : Value) (xss : List (List (BitVec 8))) : Prop :=
  (v = .slice none 0 0 ∧ xss = []) ∨
  ∃ i c vs ex tl, v = .slice (some ⟨i, 0, some 1⟩) xss.length c ∧ xss.length ≤ c ∧ (xss ≠ [] → H[i]? = some (.cells vs ex tl)) ∧ ∀ k, k < xss.length → ∃ x, vs[k]? = some x ∧ Sl H x (xss.getD k []) ∧ (xss.getD k []).length ≤ 140737488351232
theorem RowsAt.len {H : Heap} {v : Value} {xss : List (List (BitVec 8))} (h : RowsAt H v xss) (K : Value → Heap → Prop) {H2 : Heap} : lenK Try.prog 79 v H2 K = K (.int .i64 (xss.length : Nat)) H2 := by
  rcases h with ⟨rfl, rfl⟩ | ⟨i, c, vs, ex, tl, rfl, _⟩
  · simp only [lenK, Try.underlying79]; rfl
  · simp only [lenK, Try.underlying79]
theorem RowsAt.elem {H H2 : Heap} {v : Value} {xss : List (List (BitVec 8))} (h : RowsAt H v xss) (hk2 : ∀ j, j < H.size → H2[j]? = H[j]?) {k : Nat} (hk : k < xss.length) :
    ∃ x ad, indexAddrA Try.prog 79 v (.int .i64 (k : Nat)) = some (.pointer (some ad)) ∧ (∀ K, loadK Try.prog 47 (.pointer (some ad)) H2 K = K x H2) ∧ Sl H2 x xss[k] ∧ (xss[k]).length ≤ 140737488351232 := by
  rcases h with ⟨rfl, rfl⟩ | ⟨i, c, vs, ex, tl, rfl, h2, h3, h4⟩
  · simp at hk
  · have h5 := h3 (by intro e; rw [e] at hk; simp at hk)
    obtain ⟨x, hx, hs, hl⟩ := h4 k hk
    have eg : xss.getD k [] = xss[k] := by rw [List.getD_eq_getElem?_getD, List.getElem?_eq_getElem hk]; rfl
    rw [eg] at hs hl
    have h6 : H2[i]? = some (.cells vs ex tl) := by rw [hk2 i (get_lt h5)]; exact h5
    refine ⟨x, ⟨i, 0 + k * 1, none⟩, ?_, fun K => load_cell h6 kind_47 (by simpa using hx) K, hs.keep_old hk2, hl⟩
    simp only [indexAddrA, Try.underlying79, intA, sz_47]
    rw [if_pos ⟨by omega, by omega⟩]; simp

def catK (xss : List (List (BitVec 8))) (k : Nat) : List (BitVec 8) := (xss.take k).flatten
theorem catK_succ {xss : List (List (BitVec 8))} {k : Nat} (hk : k < xss.length) : catK xss (k + 1) = catK xss k ++ xss[k] := by
  unfold catK
  rw [List.take_succ_eq_append_getElem hk, List.flatten_append]; simp [List.flatten]

structure PcS (H0 : Heap) (i : Nat) (H : Heap) (l w : Value) (zs : List (BitVec 8)) : Prop where
  h : HashAt H H0.size i l zs
  ow : Ow H H0.size w zs
  wi : blockOf w ≠ some i
  wl : ∀ j, blockOf l = some j → blockOf w ≠ some j
  old : ∀ j, j < H0.size → H[j]? = H0[j]?
  bb : H0.size ≤ H.size
  n : zs.length ≤ 1500

set_option maxRecDepth 20000 in
set_option maxHeartbeats 4000000 in
theorem shaPieces_fun {H0 : Heap} {v : Value} {xss : List (List (BitVec 8))} (hv : RowsAt H0 v xss) : Fun Try.prog 21 [v] H0 fun r _ => r = .bool true := by
  refine fun_of_r Try.func21 rfl (by decide +kernel) (Nat.le_of_ble_eq_true rfl) ?_
  unfold Try.f21
  iterate 3 (refine wrun_assoc ?_)
  refine wrun_mid (fun a H => ∃ i, a 0 = v ∧ a 3 = .pointer (some ⟨i, 0, none⟩) ∧ a 4 = .slice none 0 0 ∧ PcS H0 i H (.slice none 0 0) (.slice none 0 0) []) ?_ ?_
  · simp (maxSteps := 10000000) (disch := omega) only [condK_t, condK_f, guardK_tt, guardK_ff, guardK_tf, guardK_ft, guardQ_tt, guardQ_ff, guardQ_tf, guardQ_ft, Bool.true_beq, Bool.false_beq, go_sem, ↓reduceIte, Nat.reduceLT, Nat.reduceLeDiff, Nat.reduceEqDiff, Nat.reduceAdd, BitVec.reduceOfInt, BitVec.reduceSetWidth, BitVec.reduceBEq, BitVec.reduceBNe, BitVec.reduceEq, BitVec.reduceNe, Bool.true_eq_false, Bool.false_eq_true, beq_self_eq_true, Option.map_some, Option.map_none, Option.bind_some, List.getElem?_cons_zero, List.getElem?_cons_succ, List.getElem?_toArray, List.map_cons, List.map_nil, true_and, and_true, forall_const, ne_eq, not_true_eq_false, not_false_eq_true, false_implies, true_implies, reduceCtorEq, Int.reduceToNat, Int.cast_ofNat_Int, Int.natCast_zero, Int.natCast_one, bne_self_eq_false, Int.reduceLT, Int.reduceLE, Int.reduceEq, Int.reduceNe, Bool.not_true, Bool.not_false, if_true, if_false, false_and, and_false, or_false, or_true, true_or, false_or, List.length_cons, List.length_nil, Int.toNat_natCast, List.length_map, decide_true, decide_false]
    refine (new_fun _).call (Nat.le_refl _) ?_
    rintro _ H1 a1 a2 ⟨i, rfl, hi1, hi2, hh⟩
    simp (maxSteps := 10000000) (disch := omega) only [condK_t, condK_f, guardK_tt, guardK_ff, guardK_tf, guardK_ft, guardQ_tt, guardQ_ff, guardQ_tf, guardQ_ft, Bool.true_beq, Bool.false_beq, go_sem, ↓reduceIte, Nat.reduceLT, Nat.reduceLeDiff, Nat.reduceEqDiff, Nat.reduceAdd, BitVec.reduceOfInt, BitVec.reduceSetWidth, BitVec.reduceBEq, BitVec.reduceBNe, BitVec.reduceEq, BitVec.reduceNe, Bool.true_eq_false, Bool.false_eq_true, beq_self_eq_true, Option.map_some, Option.map_none, Option.bind_some, List.getElem?_cons_zero, List.getElem?_cons_succ, List.getElem?_toArray, List.map_cons, List.map_nil, true_and, and_true, forall_const, ne_eq, not_true_eq_false, not_false_eq_true, false_implies, true_implies, reduceCtorEq, Int.reduceToNat, Int.cast_ofNat_Int, Int.natCast_zero, Int.natCast_one, bne_self_eq_false, Int.reduceLT, Int.reduceLE, Int.reduceEq, Int.reduceNe, Bool.not_true, Bool.not_false, if_true, if_false, false_and, and_false, or_false, or_true, true_or, false_or, List.length_cons, List.length_nil, Int.toNat_natCast, List.length_map, decide_true, decide_false]
    exact ⟨i, rfl, hh, OV.nil _ _, by simp [blockOf], fun j hj => by simp [blockOf] at hj, a2, a1, by simp⟩
  rintro a H ⟨i, p0, p3, p4, q⟩
  refine wrun_mid' (fun a H => H0.size ≤ H.size) ?_ ?_
  · refine wrun_mid (fun a H' => H' = H ∧ a 3 = .pointer (some ⟨i, 0, none⟩) ∧ a 4 = .slice none 0 0 ∧ a 10 = v ∧ a 11 = .int .i64 (xss.length : Nat) ∧ a 12 = .int .i64 (0 : Nat)) (by simp (maxSteps := 10000000) (disch := omega) only [condK_t, condK_f, guardK_tt, guardK_ff, guardK_tf, guardK_ft, guardQ_tt, guardQ_ff, guardQ_tf, guardQ_ft, Bool.true_beq, Bool.false_beq, go_sem, ↓reduceIte, Nat.reduceLT, Nat.reduceLeDiff, Nat.reduceEqDiff, Nat.reduceAdd, BitVec.reduceOfInt, BitVec.reduceSetWidth, BitVec.reduceBEq, BitVec.reduceBNe, BitVec.reduceEq, BitVec.reduceNe, Bool.true_eq_false, Bool.false_eq_true, beq_self_eq_true, Option.map_some, Option.map_none, Option.bind_some, List.getElem?_cons_zero, List.getElem?_cons_succ, List.getElem?_toArray, List.map_cons, List.map_nil, true_and, and_true, forall_const, ne_eq, not_true_eq_false, not_false_eq_true, false_implies, true_implies, reduceCtorEq, Int.reduceToNat, Int.cast_ofNat_Int, Int.natCast_zero, Int.natCast_one, bne_self_eq_false, Int.reduceLT, Int.reduceLE, Int.reduceEq, Int.reduceNe, Bool.not_true, Bool.not_false, if_true, if_false, false_and, and_false, or_false, or_true, true_or, false_or, List.length_cons, List.length_nil, Int.toNat_natCast, List.length_map, decide_true, decide_false, p0, p3, p4, hv.len]) ?_
    clear p0 p3 p4 a
    rintro a H ⟨rfl, p3, p4, p10, p11, p12⟩
    refine wrun_block (wrun_loop (fun m a H' => ∃ (k : Nat) (l w : Value), k + m = xss.length ∧ a 3 = .pointer (some ⟨i, 0, none⟩) ∧ a 4 = w ∧ a 10 = v ∧ a 11 = .int .i64 (xss.length : Nat) ∧ a 12 = .int .i64 (k : Nat) ∧ PcS H0 i H' l w (catK xss k)) ?_ xss.length ⟨0, _, _, by omega, p3, p4, p10, p11, p12, q⟩)
    clear p3 p4 p10 p11 p12 q
    rintro m a H ⟨k, l, w, hk, p3, p4, p10, p11, p12, q⟩
    refine wrun_of ?_
    have hB := q.bb
    have qn := q.n
    by_cases hlt : k < xss.length
    · have hlt' := eq_true (show (k : Int) < (xss.length : Nat) by omega)
      obtain ⟨x, ad, g1, g2, hx, hxl⟩ := hv.elem q.old hlt
      have wl := q.ow.sl.len
      have xl := hx.len
      simp (maxSteps := 10000000) (disch := omega) only [condK_t, condK_f, guardK_tt, guardK_ff, guardK_tf, guardK_ft, guardQ_tt, guardQ_ff, guardQ_tf, guardQ_ft, Bool.true_beq, Bool.false_beq, go_sem, ↓reduceIte, Nat.reduceLT, Nat.reduceLeDiff, Nat.reduceEqDiff, Nat.reduceAdd, BitVec.reduceOfInt, BitVec.reduceSetWidth, BitVec.reduceBEq, BitVec.reduceBNe, BitVec.reduceEq, BitVec.reduceNe, Bool.true_eq_false, Bool.false_eq_true, beq_self_eq_true, Option.map_some, Option.map_none, Option.bind_some, List.getElem?_cons_zero, List.getElem?_cons_succ, List.getElem?_toArray, List.map_cons, List.map_nil, true_and, and_true, forall_const, ne_eq, not_true_eq_false, not_false_eq_true, false_implies, true_implies, reduceCtorEq, Int.reduceToNat, Int.cast_ofNat_Int, Int.natCast_zero, Int.natCast_one, bne_self_eq_false, Int.reduceLT, Int.reduceLE, Int.reduceEq, Int.reduceNe, Bool.not_true, Bool.not_false, if_true, if_false, false_and, and_false, or_false, or_true, true_or, false_or, List.length_cons, List.length_nil, Int.toNat_natCast, List.length_map, decide_true, decide_false, p3, p4, p10, p11, p12, hlt', g1, g2]
      by_cases h20 : 20 ≤ k
      · have h20' := eq_true (show (20 : Int) ≤ k by omega)
        simp (maxSteps := 10000000) (disch := omega) only [condK_t, condK_f, guardK_tt, guardK_ff, guardK_tf, guardK_ft, guardQ_tt, guardQ_ff, guardQ_tf, guardQ_ft, Bool.true_beq, Bool.false_beq, go_sem, ↓reduceIte, Nat.reduceLT, Nat.reduceLeDiff, Nat.reduceEqDiff, Nat.reduceAdd, BitVec.reduceOfInt, BitVec.reduceSetWidth, BitVec.reduceBEq, BitVec.reduceBNe, BitVec.reduceEq, BitVec.reduceNe, Bool.true_eq_false, Bool.false_eq_true, beq_self_eq_true, Option.map_some, Option.map_none, Option.bind_some, List.getElem?_cons_zero, List.getElem?_cons_succ, List.getElem?_toArray, List.map_cons, List.map_nil, true_and, and_true, forall_const, ne_eq, not_true_eq_false, not_false_eq_true, false_implies, true_implies, reduceCtorEq, Int.reduceToNat, Int.cast_ofNat_Int, Int.natCast_zero, Int.natCast_one, bne_self_eq_false, Int.reduceLT, Int.reduceLE, Int.reduceEq, Int.reduceNe, Bool.not_true, Bool.not_false, if_true, if_false, false_and, and_false, or_false, or_true, true_or, false_or, List.length_cons, List.length_nil, Int.toNat_natCast, List.length_map, decide_true, decide_false, p3, p4, p10, p11, p12, h20']
        exact hB
      have h20' := eq_false (show ¬ (20 : Int) ≤ k by omega)
      by_cases hbig : 1500 < (catK xss k).length + (xss[k]).length
      · have hbig' := eq_true (show (1500 : Int) < ((catK xss k).length : Nat) + ((xss[k]).length : Nat) by omega)
        simp (maxSteps := 10000000) (disch := omega) only [condK_t, condK_f, guardK_tt, guardK_ff, guardK_tf, guardK_ft, guardQ_tt, guardQ_ff, guardQ_tf, guardQ_ft, Bool.true_beq, Bool.false_beq, go_sem, ↓reduceIte, Nat.reduceLT, Nat.reduceLeDiff, Nat.reduceEqDiff, Nat.reduceAdd, BitVec.reduceOfInt, BitVec.reduceSetWidth, BitVec.reduceBEq, BitVec.reduceBNe, BitVec.reduceEq, BitVec.reduceNe, Bool.true_eq_false, Bool.false_eq_true, beq_self_eq_true, Option.map_some, Option.map_none, Option.bind_some, List.getElem?_cons_zero, List.getElem?_cons_succ, List.getElem?_toArray, List.map_cons, List.map_nil, true_and, and_true, forall_const, ne_eq, not_true_eq_false, not_false_eq_true, false_implies, true_implies, reduceCtorEq, Int.reduceToNat, Int.cast_ofNat_Int, Int.natCast_zero, Int.natCast_one, bne_self_eq_false, Int.reduceLT, Int.reduceLE, Int.reduceEq, Int.reduceNe, Bool.not_true, Bool.not_false, if_true, if_false, false_and, and_false, or_false, or_true, true_or, false_or, List.length_cons, List.length_nil, Int.toNat_natCast, List.length_map, decide_true, decide_false, p3, p4, p10, p11, p12, h20', wl, xl, wrap_i64, hbig']
        exact hB
      have hbig' := eq_false (show ¬ (1500 : Int) < ((catK xss k).length : Nat) + ((xss[k]).length : Nat) by omega)
      simp (maxSteps := 10000000) (disch := omega) only [condK_t, condK_f, guardK_tt, guardK_ff, guardK_tf, guardK_ft, guardQ_tt, guardQ_ff, guardQ_tf, guardQ_ft, Bool.true_beq, Bool.false_beq, go_sem, ↓reduceIte, Nat.reduceLT, Nat.reduceLeDiff, Nat.reduceEqDiff, Nat.reduceAdd, BitVec.reduceOfInt, BitVec.reduceSetWidth, BitVec.reduceBEq, BitVec.reduceBNe, BitVec.reduceEq, BitVec.reduceNe, Bool.true_eq_false, Bool.false_eq_true, beq_self_eq_true, Option.map_some, Option.map_none, Option.bind_some, List.getElem?_cons_zero, List.getElem?_cons_succ, List.getElem?_toArray, List.map_cons, List.map_nil, true_and, and_true, forall_const, ne_eq, not_true_eq_false, not_false_eq_true, false_implies, true_implies, reduceCtorEq, Int.reduceToNat, Int.cast_ofNat_Int, Int.natCast_zero, Int.natCast_one, bne_self_eq_false, Int.reduceLT, Int.reduceLE, Int.reduceEq, Int.reduceNe, Bool.not_true, Bool.not_false, if_true, if_false, false_and, and_false, or_false, or_true, true_or, false_or, List.length_cons, List.length_nil, Int.toNat_natCast, List.length_map, decide_true, decide_false, p3, p4, p10, p11, p12, h20', wl, xl, wrap_i64, hbig']
      refine write_call q.h hx (Nat.le_refl _) hB (by omega) ?_
      intro l1 H1 fr h1 hl1
      have hx1 := q.h.bytes hx fr.read
      have hil := get_lt q.h.blk
      have hib := q.h.n
      have fs := fr.size
      have old1 : ∀ j, j < H0.size → H1[j]? = H0[j]? := fun j hj => by
        rw [fr.same j (by omega) (by omega) (fun e => by have := (q.h.own.in e).1; omega)]; exact q.old j hj
      have w1 : Ow H1 H0.size w (catK xss k) := q.ow.keep fun j hj hb => fr.same j hj (fun e => q.wi (by rw [hb, e])) (fun e => q.wl j e hb)
      have wl1 : ∀ j, blockOf l1 = some j → blockOf w ≠ some j := by
        intro j hj hw
        rcases hl1 with rfl | ⟨j', e, hj'⟩
        · exact q.wl j hj hw
        · rw [hj] at e; cases e
          have := (q.ow.in hw).2
          omega
      simp (maxSteps := 10000000) (disch := omega) only [condK_t, condK_f, guardK_tt, guardK_ff, guardK_tf, guardK_ft, guardQ_tt, guardQ_ff, guardQ_tf, guardQ_ft, Bool.true_beq, Bool.false_beq, go_sem, ↓reduceIte, Nat.reduceLT, Nat.reduceLeDiff, Nat.reduceEqDiff, Nat.reduceAdd, BitVec.reduceOfInt, BitVec.reduceSetWidth, BitVec.reduceBEq, BitVec.reduceBNe, BitVec.reduceEq, BitVec.reduceNe, Bool.true_eq_false, Bool.false_eq_true, beq_self_eq_true, Option.map_some, Option.map_none, Option.bind_some, List.getElem?_cons_zero, List.getElem?_cons_succ, List.getElem?_toArray, List.map_cons, List.map_nil, true_and, and_true, forall_const, ne_eq, not_true_eq_false, not_false_eq_true, false_implies, true_implies, reduceCtorEq, Int.reduceToNat, Int.cast_ofNat_Int, Int.natCast_zero, Int.natCast_one, bne_self_eq_false, Int.reduceLT, Int.reduceLE, Int.reduceEq, Int.reduceNe, Bool.not_true, Bool.not_false, if_true, if_false, false_and, and_false, or_false, or_true, true_or, false_or, List.length_cons, List.length_nil, Int.toNat_natCast, List.length_map, decide_true, decide_false, p3, p4, p10, p11, p12]
      refine append_bytes w1 hx1 (Nat.le_refl _) (by omega) (by omega) ?_
      intro w2 H2 c1 c2 c3 c4 c5
      have h2 : HashAt H2 H0.size i l1 (catK xss k ++ xss[k]) :=
        ⟨by rw [c3 i (get_lt h1.blk) q.wi]; exact h1.blk, h1.own.keep fun j hj hb => c3 j hj (wl1 j hb), h1.n, h1.apart⟩
      have wi2 : blockOf w2 ≠ some i := by
        rcases c5 with ⟨rfl, _, _⟩ | e
        · exact q.wi
        · rw [e]; intro e2; cases e2; have := get_lt h1.blk; omega
      have wl2 : ∀ j, blockOf l1 = some j → blockOf w2 ≠ some j := by
        intro j hj
        rcases c5 with ⟨rfl, _, _⟩ | e
        · exact wl1 j hj
        · rw [e]; intro e2; cases e2; have := (h1.own.in hj).2; omega
      have old2 : ∀ j, j < H0.size → H2[j]? = H0[j]? := fun j hj => by
        rw [c3 j (by omega) (fun e => by have := (q.ow.in e).1; omega)]; exact old1 j hj
      rw [← catK_succ hlt] at h2 c4
      have hn2 : (catK xss (k + 1)).length ≤ 1500 := by rw [catK_succ hlt, List.length_append]; omega
      have q2 : PcS H0 i H2 l1 w2 (catK xss (k + 1)) := ⟨h2, c4, wi2, wl2, old2, by omega, hn2⟩
      have wl4 := c4.sl.len
      simp (maxSteps := 10000000) (disch := omega) only [condK_t, condK_f, guardK_tt, guardK_ff, guardK_tf, guardK_ft, guardQ_tt, guardQ_ff, guardQ_tf, guardQ_ft, Bool.true_beq, Bool.false_beq, go_sem, ↓reduceIte, Nat.reduceLT, Nat.reduceLeDiff, Nat.reduceEqDiff, Nat.reduceAdd, BitVec.reduceOfInt, BitVec.reduceSetWidth, BitVec.reduceBEq, BitVec.reduceBNe, BitVec.reduceEq, BitVec.reduceNe, Bool.true_eq_false, Bool.false_eq_true, beq_self_eq_true, Option.map_some, Option.map_none, Option.bind_some, List.getElem?_cons_zero, List.getElem?_cons_succ, List.getElem?_toArray, List.map_cons, List.map_nil, true_and, and_true, forall_const, ne_eq, not_true_eq_false, not_false_eq_true, false_implies, true_implies, reduceCtorEq, Int.reduceToNat, Int.cast_ofNat_Int, Int.natCast_zero, Int.natCast_one, bne_self_eq_false, Int.reduceLT, Int.reduceLE, Int.reduceEq, Int.reduceNe, Bool.not_true, Bool.not_false, if_true, if_false, false_and, and_false, or_false, or_true, true_or, false_or, List.length_cons, List.length_nil, Int.toNat_natCast, List.length_map, decide_true, decide_false, p3, p4, p10, p11, p12]
      refine draw_of 21 (by kernel_rfl) ?_
      simp (maxSteps := 10000000) (disch := omega) only [condK_t, condK_f, guardK_tt, guardK_ff, guardK_tf, guardK_ft, guardQ_tt, guardQ_ff, guardQ_tf, guardQ_ft, Bool.true_beq, Bool.false_beq, go_sem, ↓reduceIte, Nat.reduceLT, Nat.reduceLeDiff, Nat.reduceEqDiff, Nat.reduceAdd, BitVec.reduceOfInt, BitVec.reduceSetWidth, BitVec.reduceBEq, BitVec.reduceBNe, BitVec.reduceEq, BitVec.reduceNe, Bool.true_eq_false, Bool.false_eq_true, beq_self_eq_true, Option.map_some, Option.map_none, Option.bind_some, List.getElem?_cons_zero, List.getElem?_cons_succ, List.getElem?_toArray, List.map_cons, List.map_nil, true_and, and_true, forall_const, ne_eq, not_true_eq_false, not_false_eq_true, false_implies, true_implies, reduceCtorEq, Int.reduceToNat, Int.cast_ofNat_Int, Int.natCast_zero, Int.natCast_one, bne_self_eq_false, Int.reduceLT, Int.reduceLE, Int.reduceEq, Int.reduceNe, Bool.not_true, Bool.not_false, if_true, if_false, false_and, and_false, or_false, or_true, true_or, false_or, List.length_cons, List.length_nil, Int.toNat_natCast, List.length_map, decide_true, decide_false, p3, p4, p10, p11, p12]
      refine (len_fun h2).call (Nat.le_refl _) ?_
      rintro _ H3 d1 d2 ⟨rfl, e0⟩
      have e0' := e0.symm
      subst e0'
      simp (maxSteps := 10000000) (disch := omega) only [condK_t, condK_f, guardK_tt, guardK_ff, guardK_tf, guardK_ft, guardQ_tt, guardQ_ff, guardQ_tf, guardQ_ft, Bool.true_beq, Bool.false_beq, go_sem, ↓reduceIte, Nat.reduceLT, Nat.reduceLeDiff, Nat.reduceEqDiff, Nat.reduceAdd, BitVec.reduceOfInt, BitVec.reduceSetWidth, BitVec.reduceBEq, BitVec.reduceBNe, BitVec.reduceEq, BitVec.reduceNe, Bool.true_eq_false, Bool.false_eq_true, beq_self_eq_true, Option.map_some, Option.map_none, Option.bind_some, List.getElem?_cons_zero, List.getElem?_cons_succ, List.getElem?_toArray, List.map_cons, List.map_nil, true_and, and_true, forall_const, ne_eq, not_true_eq_false, not_false_eq_true, false_implies, true_implies, reduceCtorEq, Int.reduceToNat, Int.cast_ofNat_Int, Int.natCast_zero, Int.natCast_one, bne_self_eq_false, Int.reduceLT, Int.reduceLE, Int.reduceEq, Int.reduceNe, Bool.not_true, Bool.not_false, if_true, if_false, false_and, and_false, or_false, or_true, true_or, false_or, List.length_cons, List.length_nil, Int.toNat_natCast, List.length_map, decide_true, decide_false, p3, p4, p10, p11, p12, wl4]
      refine (sum_fun h2 (by omega)).call (Nat.le_refl _) ?_
      intro r3 H3 e1 e2 e3
      simp (maxSteps := 10000000) (disch := omega) only [condK_t, condK_f, guardK_tt, guardK_ff, guardK_tf, guardK_ft, guardQ_tt, guardQ_ff, guardQ_tf, guardQ_ft, Bool.true_beq, Bool.false_beq, go_sem, ↓reduceIte, Nat.reduceLT, Nat.reduceLeDiff, Nat.reduceEqDiff, Nat.reduceAdd, BitVec.reduceOfInt, BitVec.reduceSetWidth, BitVec.reduceBEq, BitVec.reduceBNe, BitVec.reduceEq, BitVec.reduceNe, Bool.true_eq_false, Bool.false_eq_true, beq_self_eq_true, Option.map_some, Option.map_none, Option.bind_some, List.getElem?_cons_zero, List.getElem?_cons_succ, List.getElem?_toArray, List.map_cons, List.map_nil, true_and, and_true, forall_const, ne_eq, not_true_eq_false, not_false_eq_true, false_implies, true_implies, reduceCtorEq, Int.reduceToNat, Int.cast_ofNat_Int, Int.natCast_zero, Int.natCast_one, bne_self_eq_false, Int.reduceLT, Int.reduceLE, Int.reduceEq, Int.reduceNe, Bool.not_true, Bool.not_false, if_true, if_false, false_and, and_false, or_false, or_true, true_or, false_or, List.length_cons, List.length_nil, Int.toNat_natCast, List.length_map, decide_true, decide_false, p3, p4, p10, p11, p12, wl4]
      refine conv_text e3.sl ?_
      simp (maxSteps := 10000000) (disch := omega) only [condK_t, condK_f, guardK_tt, guardK_ff, guardK_tf, guardK_ft, guardQ_tt, guardQ_ff, guardQ_tf, guardQ_ft, Bool.true_beq, Bool.false_beq, go_sem, ↓reduceIte, Nat.reduceLT, Nat.reduceLeDiff, Nat.reduceEqDiff, Nat.reduceAdd, BitVec.reduceOfInt, BitVec.reduceSetWidth, BitVec.reduceBEq, BitVec.reduceBNe, BitVec.reduceEq, BitVec.reduceNe, Bool.true_eq_false, Bool.false_eq_true, beq_self_eq_true, Option.map_some, Option.map_none, Option.bind_some, List.getElem?_cons_zero, List.getElem?_cons_succ, List.getElem?_toArray, List.map_cons, List.map_nil, true_and, and_true, forall_const, ne_eq, not_true_eq_false, not_false_eq_true, false_implies, true_implies, reduceCtorEq, Int.reduceToNat, Int.cast_ofNat_Int, Int.natCast_zero, Int.natCast_one, bne_self_eq_false, Int.reduceLT, Int.reduceLE, Int.reduceEq, Int.reduceNe, Bool.not_true, Bool.not_false, if_true, if_false, false_and, and_false, or_false, or_true, true_or, false_or, List.length_cons, List.length_nil, Int.toNat_natCast, List.length_map, decide_true, decide_false, p3, p4, p10, p11, p12, wl4]
      refine (refSha_fun (c4.sl.keep_old e2) (by omega)).call (Nat.le_refl _) ?_
      intro r4 H4 e4 e5 e6
      simp (maxSteps := 10000000) (disch := omega) only [condK_t, condK_f, guardK_tt, guardK_ff, guardK_tf, guardK_ft, guardQ_tt, guardQ_ff, guardQ_tf, guardQ_ft, Bool.true_beq, Bool.false_beq, go_sem, ↓reduceIte, Nat.reduceLT, Nat.reduceLeDiff, Nat.reduceEqDiff, Nat.reduceAdd, BitVec.reduceOfInt, BitVec.reduceSetWidth, BitVec.reduceBEq, BitVec.reduceBNe, BitVec.reduceEq, BitVec.reduceNe, Bool.true_eq_false, Bool.false_eq_true, beq_self_eq_true, Option.map_some, Option.map_none, Option.bind_some, List.getElem?_cons_zero, List.getElem?_cons_succ, List.getElem?_toArray, List.map_cons, List.map_nil, true_and, and_true, forall_const, ne_eq, not_true_eq_false, not_false_eq_true, false_implies, true_implies, reduceCtorEq, Int.reduceToNat, Int.cast_ofNat_Int, Int.natCast_zero, Int.natCast_one, bne_self_eq_false, Int.reduceLT, Int.reduceLE, Int.reduceEq, Int.reduceNe, Bool.not_true, Bool.not_false, if_true, if_false, false_and, and_false, or_false, or_true, true_or, false_or, List.length_cons, List.length_nil, Int.toNat_natCast, List.length_map, decide_true, decide_false, p3, p4, p10, p11, p12, wl4]
      refine conv_text e6.sl ?_
      simp (maxSteps := 10000000) (disch := omega) only [condK_t, condK_f, guardK_tt, guardK_ff, guardK_tf, guardK_ft, guardQ_tt, guardQ_ff, guardQ_tf, guardQ_ft, Bool.true_beq, Bool.false_beq, go_sem, ↓reduceIte, Nat.reduceLT, Nat.reduceLeDiff, Nat.reduceEqDiff, Nat.reduceAdd, BitVec.reduceOfInt, BitVec.reduceSetWidth, BitVec.reduceBEq, BitVec.reduceBNe, BitVec.reduceEq, BitVec.reduceNe, Bool.true_eq_false, Bool.false_eq_true, beq_self_eq_true, Option.map_some, Option.map_none, Option.bind_some, List.getElem?_cons_zero, List.getElem?_cons_succ, List.getElem?_toArray, List.map_cons, List.map_nil, true_and, and_true, forall_const, ne_eq, not_true_eq_false, not_false_eq_true, false_implies, true_implies, reduceCtorEq, Int.reduceToNat, Int.cast_ofNat_Int, Int.natCast_zero, Int.natCast_one, bne_self_eq_false, Int.reduceLT, Int.reduceLE, Int.reduceEq, Int.reduceNe, Bool.not_true, Bool.not_false, if_true, if_false, false_and, and_false, or_false, or_true, true_or, false_or, List.length_cons, List.length_nil, Int.toNat_natCast, List.length_map, decide_true, decide_false, p3, p4, p10, p11, p12, wl4]
      have h4 : HashAt H4 H0.size i l1 (catK xss (k + 1)) := ⟨by rw [e5 _ (by have := get_lt h2.blk; omega), e2 _ (get_lt h2.blk)]; exact h2.blk, (h2.own.keep fun j hj _ => e2 j hj).keep fun j hj _ => e5 j hj, h2.n, h2.apart⟩
      refine (sum_fun h4 (by omega)).call (Nat.le_refl _) ?_
      intro r5 H5 e7 e8 e9
      simp (maxSteps := 10000000) (disch := omega) only [condK_t, condK_f, guardK_tt, guardK_ff, guardK_tf, guardK_ft, guardQ_tt, guardQ_ff, guardQ_tf, guardQ_ft, Bool.true_beq, Bool.false_beq, go_sem, ↓reduceIte, Nat.reduceLT, Nat.reduceLeDiff, Nat.reduceEqDiff, Nat.reduceAdd, BitVec.reduceOfInt, BitVec.reduceSetWidth, BitVec.reduceBEq, BitVec.reduceBNe, BitVec.reduceEq, BitVec.reduceNe, Bool.true_eq_false, Bool.false_eq_true, beq_self_eq_true, Option.map_some, Option.map_none, Option.bind_some, List.getElem?_cons_zero, List.getElem?_cons_succ, List.getElem?_toArray, List.map_cons, List.map_nil, true_and, and_true, forall_const, ne_eq, not_true_eq_false, not_false_eq_true, false_implies, true_implies, reduceCtorEq, Int.reduceToNat, Int.cast_ofNat_Int, Int.natCast_zero, Int.natCast_one, bne_self_eq_false, Int.reduceLT, Int.reduceLE, Int.reduceEq, Int.reduceNe, Bool.not_true, Bool.not_false, if_true, if_false, false_and, and_false, or_false, or_true, true_or, false_or, List.length_cons, List.length_nil, Int.toNat_natCast, List.length_map, decide_true, decide_false, p3, p4, p10, p11, p12, wl4]
      refine conv_text e9.sl ?_
      simp (maxSteps := 10000000) (disch := omega) only [condK_t, condK_f, guardK_tt, guardK_ff, guardK_tf, guardK_ft, guardQ_tt, guardQ_ff, guardQ_tf, guardQ_ft, Bool.true_beq, Bool.false_beq, go_sem, ↓reduceIte, Nat.reduceLT, Nat.reduceLeDiff, Nat.reduceEqDiff, Nat.reduceAdd, BitVec.reduceOfInt, BitVec.reduceSetWidth, BitVec.reduceBEq, BitVec.reduceBNe, BitVec.reduceEq, BitVec.reduceNe, Bool.true_eq_false, Bool.false_eq_true, beq_self_eq_true, Option.map_some, Option.map_none, Option.bind_some, List.getElem?_cons_zero, List.getElem?_cons_succ, List.getElem?_toArray, List.map_cons, List.map_nil, true_and, and_true, forall_const, ne_eq, not_true_eq_false, not_false_eq_true, false_implies, true_implies, reduceCtorEq, Int.reduceToNat, Int.cast_ofNat_Int, Int.natCast_zero, Int.natCast_one, bne_self_eq_false, Int.reduceLT, Int.reduceLE, Int.reduceEq, Int.reduceNe, Bool.not_true, Bool.not_false, if_true, if_false, false_and, and_false, or_false, or_true, true_or, false_or, List.length_cons, List.length_nil, Int.toNat_natCast, List.length_map, decide_true, decide_false, p3, p4, p10, p11, p12, wl4]
      refine (shaSum_fun (((c4.sl.keep_old e2).keep_old e5).keep_old e8) (by omega)).call (Nat.le_refl _) ?_
      intro r6 H6 e10 e11 e12
      simp (maxSteps := 10000000) (disch := omega) only [condK_t, condK_f, guardK_tt, guardK_ff, guardK_tf, guardK_ft, guardQ_tt, guardQ_ff, guardQ_tf, guardQ_ft, Bool.true_beq, Bool.false_beq, go_sem, ↓reduceIte, Nat.reduceLT, Nat.reduceLeDiff, Nat.reduceEqDiff, Nat.reduceAdd, BitVec.reduceOfInt, BitVec.reduceSetWidth, BitVec.reduceBEq, BitVec.reduceBNe, BitVec.reduceEq, BitVec.reduceNe, Bool.true_eq_false, Bool.false_eq_true, beq_self_eq_true, Option.map_some, Option.map_none, Option.bind_some, List.getElem?_cons_zero, List.getElem?_cons_succ, List.getElem?_toArray, List.map_cons, List.map_nil, true_and, and_true, forall_const, ne_eq, not_true_eq_false, not_false_eq_true, false_implies, true_implies, reduceCtorEq, Int.reduceToNat, Int.cast_ofNat_Int, Int.natCast_zero, Int.natCast_one, bne_self_eq_false, Int.reduceLT, Int.reduceLE, Int.reduceEq, Int.reduceNe, Bool.not_true, Bool.not_false, if_true, if_false, false_and, and_false, or_false, or_true, true_or, false_or, List.length_cons, List.length_nil, Int.toNat_natCast, List.length_map, decide_true, decide_false, p3, p4, p10, p11, p12, wl4]
      refine conv_text e12.sl ?_
      simp (maxSteps := 10000000) (disch := omega) only [condK_t, condK_f, guardK_tt, guardK_ff, guardK_tf, guardK_ft, guardQ_tt, guardQ_ff, guardQ_tf, guardQ_ft, Bool.true_beq, Bool.false_beq, go_sem, ↓reduceIte, Nat.reduceLT, Nat.reduceLeDiff, Nat.reduceEqDiff, Nat.reduceAdd, BitVec.reduceOfInt, BitVec.reduceSetWidth, BitVec.reduceBEq, BitVec.reduceBNe, BitVec.reduceEq, BitVec.reduceNe, Bool.true_eq_false, Bool.false_eq_true, beq_self_eq_true, Option.map_some, Option.map_none, Option.bind_some, List.getElem?_cons_zero, List.getElem?_cons_succ, List.getElem?_toArray, List.map_cons, List.map_nil, true_and, and_true, forall_const, ne_eq, not_true_eq_false, not_false_eq_true, false_implies, true_implies, reduceCtorEq, Int.reduceToNat, Int.cast_ofNat_Int, Int.natCast_zero, Int.natCast_one, bne_self_eq_false, Int.reduceLT, Int.reduceLE, Int.reduceEq, Int.reduceNe, Bool.not_true, Bool.not_false, if_true, if_false, false_and, and_false, or_false, or_true, true_or, false_or, List.length_cons, List.length_nil, Int.toNat_natCast, List.length_map, decide_true, decide_false, p3, p4, p10, p11, p12, wl4, wrap_i64]
      have kk : ∀ j, j < H2.size → H6[j]? = H2[j]? := fun j hj => by rw [e11 j (by omega), e8 j (by omega), e5 j (by omega), e2 j hj]
      exact ⟨m - 1, by omega, k + 1, l1, w2, by omega, rfl, by simp, ⟨by rw [kk _ (get_lt h2.blk)]; exact h2.blk, h2.own.keep fun j hj _ => kk j hj, h2.n, h2.apart⟩, c4.keep fun j hj _ => kk j hj, wi2, wl2, fun j hj => by rw [kk j (by omega), old2 j hj], by omega, hn2⟩
    · have hlt' := eq_false (show ¬ (k : Int) < (xss.length : Nat) by omega)
      simp (maxSteps := 10000000) (disch := omega) only [condK_t, condK_f, guardK_tt, guardK_ff, guardK_tf, guardK_ft, guardQ_tt, guardQ_ff, guardQ_tf, guardQ_ft, Bool.true_beq, Bool.false_beq, go_sem, ↓reduceIte, Nat.reduceLT, Nat.reduceLeDiff, Nat.reduceEqDiff, Nat.reduceAdd, BitVec.reduceOfInt, BitVec.reduceSetWidth, BitVec.reduceBEq, BitVec.reduceBNe, BitVec.reduceEq, BitVec.reduceNe, Bool.true_eq_false, Bool.false_eq_true, beq_self_eq_true, Option.map_some, Option.map_none, Option.bind_some, List.getElem?_cons_zero, List.getElem?_cons_succ, List.getElem?_toArray, List.map_cons, List.map_nil, true_and, and_true, forall_const, ne_eq, not_true_eq_false, not_false_eq_true, false_implies, true_implies, reduceCtorEq, Int.reduceToNat, Int.cast_ofNat_Int, Int.natCast_zero, Int.natCast_one, bne_self_eq_false, Int.reduceLT, Int.reduceLE, Int.reduceEq, Int.reduceNe, Bool.not_true, Bool.not_false, if_true, if_false, false_and, and_false, or_false, or_true, true_or, false_or, List.length_cons, List.length_nil, Int.toNat_natCast, List.length_map, decide_true, decide_false, p3, p4, p10, p11, p12, hlt']
      exact hB
  · clear p0 p3 p4 q
    intro a H hB
    refine wrun_of ?_
    simp (maxSteps := 10000000) (disch := omega) only [condK_t, condK_f, guardK_tt, guardK_ff, guardK_tf, guardK_ft, guardQ_tt, guardQ_ff, guardQ_tf, guardQ_ft, Bool.true_beq, Bool.false_beq, go_sem, ↓reduceIte, Nat.reduceLT, Nat.reduceLeDiff, Nat.reduceEqDiff, Nat.reduceAdd, BitVec.reduceOfInt, BitVec.reduceSetWidth, BitVec.reduceBEq, BitVec.reduceBNe, BitVec.reduceEq, BitVec.reduceNe, Bool.true_eq_false, Bool.false_eq_true, beq_self_eq_true, Option.map_some, Option.map_none, Option.bind_some, List.getElem?_cons_zero, List.getElem?_cons_succ, List.getElem?_toArray, List.map_cons, List.map_nil, true_and, and_true, forall_const, ne_eq, not_true_eq_false, not_false_eq_true, false_implies, true_implies, reduceCtorEq, Int.reduceToNat, Int.cast_ofNat_Int, Int.natCast_zero, Int.natCast_one, bne_self_eq_false, Int.reduceLT, Int.reduceLE, Int.reduceEq, Int.reduceNe, Bool.not_true, Bool.not_false, if_true, if_false, false_and, and_false, or_false, or_true, true_or, false_or, List.length_cons, List.length_nil, Int.toNat_natCast, List.length_map, decide_true, decide_false]
    refine (awake2_fun _).call hB ?_
    rintro _ H7 c11 c12 rfl
    simp (maxSteps := 10000000) (disch := omega) only [condK_t, condK_f, guardK_tt, guardK_ff, guardK_tf, guardK_ft, guardQ_tt, guardQ_ff, guardQ_tf, guardQ_ft, Bool.true_beq, Bool.false_beq, go_sem, ↓reduceIte, Nat.reduceLT, Nat.reduceLeDiff, Nat.reduceEqDiff, Nat.reduceAdd, BitVec.reduceOfInt, BitVec.reduceSetWidth, BitVec.reduceBEq, BitVec.reduceBNe, BitVec.reduceEq, BitVec.reduceNe, Bool.true_eq_false, Bool.false_eq_true, beq_self_eq_true, Option.map_some, Option.map_none, Option.bind_some, List.getElem?_cons_zero, List.getElem?_cons_succ, List.getElem?_toArray, List.map_cons, List.map_nil, true_and, and_true, forall_const, ne_eq, not_true_eq_false, not_false_eq_true, false_implies, true_implies, reduceCtorEq, Int.reduceToNat, Int.cast_ofNat_Int, Int.natCast_zero, Int.natCast_one, bne_self_eq_false, Int.reduceLT, Int.reduceLE, Int.reduceEq, Int.reduceNe, Bool.not_true, Bool.not_false, if_true, if_false, false_and, and_false, or_false, or_true, true_or, false_or, List.length_cons, List.length_nil, Int.toNat_natCast, List.length_map, decide_true, decide_false]
end Go.Proofs.Ytcapjjmikapmfaa.M
