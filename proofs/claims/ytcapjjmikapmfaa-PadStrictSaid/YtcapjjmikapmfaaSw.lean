/- The law PadStrict. -/
import Derived.Test.YtcapjjmikapmfaaSk
import Derived.Test.YtcapjjmikapmfaaSl
set_option linter.unusedVariables false
set_option linter.unusedSimpArgs false
namespace Go.Proofs.Ytcapjjmikapmfaa.M
open Go Go.Proofs

theorem ow_in {H : Heap} {B : Nat} {v : Value} {xs : List (BitVec 8)} (h : Ow H B v xs) {j : Nat} (hj : blockOf v = some j) : B ≤ j ∧ j < H.size := by
  rcases h with ⟨rfl, _⟩ | ⟨q, o, c, ex, vs, rfl, _, hq, hi, _⟩
  · cases hj
  · cases hj; exact ⟨hq, get_lt hi⟩
theorem headN_two {xs : List (BitVec 8)} (ys : List (BitVec 8)) (h : 2 ≤ xs.length) : headN (xs ++ ys) = headN xs := by
  unfold headN
  rw [List.getD_eq_getElem?_getD, List.getD_eq_getElem?_getD, List.getD_eq_getElem?_getD, List.getD_eq_getElem?_getD, List.getElem?_append_left (by omega), List.getElem?_append_left (by omega)]
theorem headN_take {xs : List (BitVec 8)} {k : Nat} (h : 2 ≤ k) : headN (xs.take k) = headN xs := by
  unfold headN
  rw [List.getD_eq_getElem?_getD, List.getD_eq_getElem?_getD, List.getD_eq_getElem?_getD, List.getD_eq_getElem?_getD, List.getElem?_take, List.getElem?_take, if_pos (by omega), if_pos (by omega)]
theorem headN_set {xs : List (BitVec 8)} {p : Nat} (x : BitVec 8) (h : 2 ≤ p) : headN (xs.set p x) = headN xs := by
  unfold headN
  rw [List.getD_eq_getElem?_getD, List.getD_eq_getElem?_getD, List.getD_eq_getElem?_getD, List.getD_eq_getElem?_getD, List.getElem?_set_ne (by omega), List.getElem?_set_ne (by omega)]
theorem unwrap_length {xs : List (BitVec 8)} (h2 : 2 ≤ xs.length) (hs : (xs.length : Int) ≠ padSize (headN xs)) : unwrapE xs = 3 := by
  unfold unwrapE
  rw [if_neg (by omega), if_pos hs]

theorem get_after {xs : List (BitVec 8)} {p : Nat} {x : BitVec 8} (q : Nat) (h : p < xs.length) (hq : q ≤ p) : ((xs.set p x).drop q)[p - q]? = some x := by
  have e : q + (p - q) = p := by omega
  rw [List.getElem?_drop, e, List.getElem?_set_self h]

set_option maxRecDepth 20000 in
set_option maxHeartbeats 4000000 in
theorem padStrict_fun {H : Heap} {v : Value} {xs : List (BitVec 8)} (hv : Sl H v xs) (hl : xs.length ≤ 140737488351232) (n : Int) (hn : I64 n) (x : BitVec 8) : Fun Try.prog 11 [v, .int .i64 n, u8 x] H fun r _ => r = .bool true := by
  have early : ∀ {K : Value → Heap → Prop}, (∀ H', K (.bool true) H') → callK Try.prog H.size (.func 48) [] H K := fun hK =>
    (awake11_fun _).call (Nat.le_refl _) (by rintro _ H3 g7 g8 rfl; exact hK H3)
  refine fun_of Try.func11 rfl (by decide +kernel) (Nat.le_of_ble_eq_true rfl) ?_
  unfold Try.f11
  simp (maxSteps := 10000000) (disch := omega) only [go_sem, ↓reduceIte, Nat.reduceLT, Nat.reduceLeDiff, Nat.reduceEqDiff, Nat.reduceAdd, BitVec.reduceOfInt, BitVec.reduceSetWidth, BitVec.reduceBEq, BitVec.reduceBNe, BitVec.reduceEq, BitVec.reduceNe, Bool.true_eq_false, Bool.false_eq_true, beq_self_eq_true, Option.map_some, Option.map_none, Option.bind_some, List.getElem?_cons_zero, List.getElem?_cons_succ, List.getElem?_toArray, List.map_cons, List.map_nil, true_and, and_true, forall_const, ne_eq, not_true_eq_false, not_false_eq_true, false_implies, true_implies, reduceCtorEq, Int.reduceToNat, Int.cast_ofNat_Int, Int.natCast_zero, Int.natCast_one, bne_self_eq_false, Int.reduceLT, Int.reduceLE, Int.reduceEq, Int.reduceNe, Bool.not_true, Bool.not_false, if_true, if_false, false_and, and_false, or_false, or_true, true_or, false_or, List.length_cons, List.length_nil, Int.toNat_natCast, List.length_map, decide_true, decide_false, hv.len]
  by_cases h1 : (1000 : Int) < xs.length
  · simp (maxSteps := 10000000) (disch := omega) only [go_sem, ↓reduceIte, Nat.reduceLT, Nat.reduceLeDiff, Nat.reduceEqDiff, Nat.reduceAdd, BitVec.reduceOfInt, BitVec.reduceSetWidth, BitVec.reduceBEq, BitVec.reduceBNe, BitVec.reduceEq, BitVec.reduceNe, Bool.true_eq_false, Bool.false_eq_true, beq_self_eq_true, Option.map_some, Option.map_none, Option.bind_some, List.getElem?_cons_zero, List.getElem?_cons_succ, List.getElem?_toArray, List.map_cons, List.map_nil, true_and, and_true, forall_const, ne_eq, not_true_eq_false, not_false_eq_true, false_implies, true_implies, reduceCtorEq, Int.reduceToNat, Int.cast_ofNat_Int, Int.natCast_zero, Int.natCast_one, bne_self_eq_false, Int.reduceLT, Int.reduceLE, Int.reduceEq, Int.reduceNe, Bool.not_true, Bool.not_false, if_true, if_false, false_and, and_false, or_false, or_true, true_or, false_or, List.length_cons, List.length_nil, Int.toNat_natCast, List.length_map, decide_true, decide_false, h1]
    refine early fun H' => ?_
    simp (maxSteps := 10000000) (disch := omega) only [go_sem, ↓reduceIte, Nat.reduceLT, Nat.reduceLeDiff, Nat.reduceEqDiff, Nat.reduceAdd, BitVec.reduceOfInt, BitVec.reduceSetWidth, BitVec.reduceBEq, BitVec.reduceBNe, BitVec.reduceEq, BitVec.reduceNe, Bool.true_eq_false, Bool.false_eq_true, beq_self_eq_true, Option.map_some, Option.map_none, Option.bind_some, List.getElem?_cons_zero, List.getElem?_cons_succ, List.getElem?_toArray, List.map_cons, List.map_nil, true_and, and_true, forall_const, ne_eq, not_true_eq_false, not_false_eq_true, false_implies, true_implies, reduceCtorEq, Int.reduceToNat, Int.cast_ofNat_Int, Int.natCast_zero, Int.natCast_one, bne_self_eq_false, Int.reduceLT, Int.reduceLE, Int.reduceEq, Int.reduceNe, Bool.not_true, Bool.not_false, if_true, if_false, false_and, and_false, or_false, or_true, true_or, false_or, List.length_cons, List.length_nil, Int.toNat_natCast, List.length_map, decide_true, decide_false]
  · simp (maxSteps := 10000000) (disch := omega) only [go_sem, ↓reduceIte, Nat.reduceLT, Nat.reduceLeDiff, Nat.reduceEqDiff, Nat.reduceAdd, BitVec.reduceOfInt, BitVec.reduceSetWidth, BitVec.reduceBEq, BitVec.reduceBNe, BitVec.reduceEq, BitVec.reduceNe, Bool.true_eq_false, Bool.false_eq_true, beq_self_eq_true, Option.map_some, Option.map_none, Option.bind_some, List.getElem?_cons_zero, List.getElem?_cons_succ, List.getElem?_toArray, List.map_cons, List.map_nil, true_and, and_true, forall_const, ne_eq, not_true_eq_false, not_false_eq_true, false_implies, true_implies, reduceCtorEq, Int.reduceToNat, Int.cast_ofNat_Int, Int.natCast_zero, Int.natCast_one, bne_self_eq_false, Int.reduceLT, Int.reduceLE, Int.reduceEq, Int.reduceNe, Bool.not_true, Bool.not_false, if_true, if_false, false_and, and_false, or_false, or_true, true_or, false_or, List.length_cons, List.length_nil, Int.toNat_natCast, List.length_map, decide_true, decide_false, h1]
    by_cases hx0 : x = 0#8
    · simp (maxSteps := 10000000) (disch := omega) only [go_sem, ↓reduceIte, Nat.reduceLT, Nat.reduceLeDiff, Nat.reduceEqDiff, Nat.reduceAdd, BitVec.reduceOfInt, BitVec.reduceSetWidth, BitVec.reduceBEq, BitVec.reduceBNe, BitVec.reduceEq, BitVec.reduceNe, Bool.true_eq_false, Bool.false_eq_true, beq_self_eq_true, Option.map_some, Option.map_none, Option.bind_some, List.getElem?_cons_zero, List.getElem?_cons_succ, List.getElem?_toArray, List.map_cons, List.map_nil, true_and, and_true, forall_const, ne_eq, not_true_eq_false, not_false_eq_true, false_implies, true_implies, reduceCtorEq, Int.reduceToNat, Int.cast_ofNat_Int, Int.natCast_zero, Int.natCast_one, bne_self_eq_false, Int.reduceLT, Int.reduceLE, Int.reduceEq, Int.reduceNe, Bool.not_true, Bool.not_false, if_true, if_false, false_and, and_false, or_false, or_true, true_or, false_or, List.length_cons, List.length_nil, Int.toNat_natCast, List.length_map, decide_true, decide_false, hx0]
      refine early fun H' => ?_
      simp (maxSteps := 10000000) (disch := omega) only [go_sem, ↓reduceIte, Nat.reduceLT, Nat.reduceLeDiff, Nat.reduceEqDiff, Nat.reduceAdd, BitVec.reduceOfInt, BitVec.reduceSetWidth, BitVec.reduceBEq, BitVec.reduceBNe, BitVec.reduceEq, BitVec.reduceNe, Bool.true_eq_false, Bool.false_eq_true, beq_self_eq_true, Option.map_some, Option.map_none, Option.bind_some, List.getElem?_cons_zero, List.getElem?_cons_succ, List.getElem?_toArray, List.map_cons, List.map_nil, true_and, and_true, forall_const, ne_eq, not_true_eq_false, not_false_eq_true, false_implies, true_implies, reduceCtorEq, Int.reduceToNat, Int.cast_ofNat_Int, Int.natCast_zero, Int.natCast_one, bne_self_eq_false, Int.reduceLT, Int.reduceLE, Int.reduceEq, Int.reduceNe, Bool.not_true, Bool.not_false, if_true, if_false, false_and, and_false, or_false, or_true, true_or, false_or, List.length_cons, List.length_nil, Int.toNat_natCast, List.length_map, decide_true, decide_false]
    · have hx1 : (x == 0#8) = false := by simpa using hx0
      obtain ⟨s, p1, p2, p3, p4⟩ := padSize_spec (n := (xs.length : Nat)) (by omega) (by omega)
      have wl := wrapB_length (xs := xs) (by omega)
      rw [p1] at wl
      have hh := headN_wrap (xs := xs) (by omega)
      simp (maxSteps := 10000000) (disch := omega) only [go_sem, ↓reduceIte, Nat.reduceLT, Nat.reduceLeDiff, Nat.reduceEqDiff, Nat.reduceAdd, BitVec.reduceOfInt, BitVec.reduceSetWidth, BitVec.reduceBEq, BitVec.reduceBNe, BitVec.reduceEq, BitVec.reduceNe, Bool.true_eq_false, Bool.false_eq_true, beq_self_eq_true, Option.map_some, Option.map_none, Option.bind_some, List.getElem?_cons_zero, List.getElem?_cons_succ, List.getElem?_toArray, List.map_cons, List.map_nil, true_and, and_true, forall_const, ne_eq, not_true_eq_false, not_false_eq_true, false_implies, true_implies, reduceCtorEq, Int.reduceToNat, Int.cast_ofNat_Int, Int.natCast_zero, Int.natCast_one, bne_self_eq_false, Int.reduceLT, Int.reduceLE, Int.reduceEq, Int.reduceNe, Bool.not_true, Bool.not_false, if_true, if_false, false_and, and_false, or_false, or_true, true_or, false_or, List.length_cons, List.length_nil, Int.toNat_natCast, List.length_map, decide_true, decide_false, hx1]
      refine (wrap_fun hv (by omega)).call (Nat.le_refl _) ?_
      rintro r H1 a1 a2 ⟨_, a3⟩
      obtain ⟨w, rfl, hw⟩ := a3 (by omega)
      have hwl : ∀ {H' : Heap}, Sl H' w (wrapB xs) → ∀ (H2 : Heap) (K : Value → Heap → Prop), lenK Try.prog 47 w H2 K = K (.int .i64 s) H2 := by
        intro H' h H2 K
        rw [h.len, wl]
        congr 2
        omega
      have q1 := eq_false (show ¬ s < (xs.length : Int) + 2 by omega)
      have hv1 := hv.keep_old a2
      simp (maxSteps := 10000000) (disch := omega) only [go_sem, ↓reduceIte, Nat.reduceLT, Nat.reduceLeDiff, Nat.reduceEqDiff, Nat.reduceAdd, BitVec.reduceOfInt, BitVec.reduceSetWidth, BitVec.reduceBEq, BitVec.reduceBNe, BitVec.reduceEq, BitVec.reduceNe, Bool.true_eq_false, Bool.false_eq_true, beq_self_eq_true, Option.map_some, Option.map_none, Option.bind_some, List.getElem?_cons_zero, List.getElem?_cons_succ, List.getElem?_toArray, List.map_cons, List.map_nil, true_and, and_true, forall_const, ne_eq, not_true_eq_false, not_false_eq_true, false_implies, true_implies, reduceCtorEq, Int.reduceToNat, Int.cast_ofNat_Int, Int.natCast_zero, Int.natCast_one, bne_self_eq_false, Int.reduceLT, Int.reduceLE, Int.reduceEq, Int.reduceNe, Bool.not_true, Bool.not_false, if_true, if_false, false_and, and_false, or_false, or_true, true_or, false_or, List.length_cons, List.length_nil, Int.toNat_natCast, List.length_map, decide_true, decide_false, hwl hw.sl, hv1.len, wrap_i64, q1]
      have o1 : Ow (H1.push (.cells [] true true)) H1.size (.slice (some ⟨H1.size, 0, some 1⟩) 0 0) [] := OV.new (Nat.le_refl _) [] true 0 (Nat.le_refl _)
      refine append_bytes (xs := []) (ys := wrapB xs) o1 (hw.sl.mono (Rd.push _ _)) (by omega) (by simp) (by simp; omega) ?_
      intro t H2 b1 b2 b3 b4 b5
      have k2 : ∀ j, j < H1.size → H2[j]? = H1[j]? := fun j hj => by rw [b3 j (by simp; omega) (by simp [blockOf]; omega), get_push_old hj]
      simp (maxSteps := 10000000) (disch := omega) only [go_sem, ↓reduceIte, Nat.reduceLT, Nat.reduceLeDiff, Nat.reduceEqDiff, Nat.reduceAdd, BitVec.reduceOfInt, BitVec.reduceSetWidth, BitVec.reduceBEq, BitVec.reduceBNe, BitVec.reduceEq, BitVec.reduceNe, Bool.true_eq_false, Bool.false_eq_true, beq_self_eq_true, Option.map_some, Option.map_none, Option.bind_some, List.getElem?_cons_zero, List.getElem?_cons_succ, List.getElem?_toArray, List.map_cons, List.map_nil, true_and, and_true, forall_const, ne_eq, not_true_eq_false, not_false_eq_true, false_implies, true_implies, reduceCtorEq, Int.reduceToNat, Int.cast_ofNat_Int, Int.natCast_zero, Int.natCast_one, bne_self_eq_false, Int.reduceLT, Int.reduceLE, Int.reduceEq, Int.reduceNe, Bool.not_true, Bool.not_false, if_true, if_false, false_and, and_false, or_false, or_true, true_or, false_or, List.length_cons, List.length_nil, Int.toNat_natCast, List.length_map, decide_true, decide_false, hwl hw.sl]
      refine appendZ_bytes (n := s) b4 (by omega) a1 (by simp at b1; omega) (by simp; omega) ?_
      intro t2 H3 c1 c2 c3 c4
      have hb4 : ∀ j, blockOf t = some j → H1.size ≤ j := fun j hj => (ow_in b4 hj).1
      have k3 : ∀ j, j < H1.size → H3[j]? = H1[j]? := fun j hj => by rw [c3 j (by simp at b1; omega) (fun e => by have := hb4 j e; omega)]; exact k2 j hj
      have s3 : H1.size ≤ H3.size := by simp at b1; omega
      simp (maxSteps := 10000000) (disch := omega) only [go_sem, ↓reduceIte, Nat.reduceLT, Nat.reduceLeDiff, Nat.reduceEqDiff, Nat.reduceAdd, BitVec.reduceOfInt, BitVec.reduceSetWidth, BitVec.reduceBEq, BitVec.reduceBNe, BitVec.reduceEq, BitVec.reduceNe, Bool.true_eq_false, Bool.false_eq_true, beq_self_eq_true, Option.map_some, Option.map_none, Option.bind_some, List.getElem?_cons_zero, List.getElem?_cons_succ, List.getElem?_toArray, List.map_cons, List.map_nil, true_and, and_true, forall_const, ne_eq, not_true_eq_false, not_false_eq_true, false_implies, true_implies, reduceCtorEq, Int.reduceToNat, Int.cast_ofNat_Int, Int.natCast_zero, Int.natCast_one, bne_self_eq_false, Int.reduceLT, Int.reduceLE, Int.reduceEq, Int.reduceNe, Bool.not_true, Bool.not_false, if_true, if_false, false_and, and_false, or_false, or_true, true_or, false_or, List.length_cons, List.length_nil, Int.toNat_natCast, List.length_map, decide_true, decide_false]
      refine (unwrap_fun c4.sl (by simp; omega)).call (by omega) ?_
      rintro r H4 d1 d2 ⟨z, rfl, _⟩
      have e1 : unwrapE ([] ++ wrapB xs ++ List.replicate s.toNat 0#8) = 3 := by
        refine unwrap_length (by simp; omega) ?_
        rw [List.nil_append, headN_two _ (by omega), hh, p1]
        simp; omega
      have hw4 : OE H4 H.size w (wrapB xs) := (hw.keep fun j hj _ => k3 j hj).keep fun j hj _ => d2 j hj
      obtain ⟨u, f1, f2, _⟩ := hw4.sl.hi (k := s - 1) (by omega) (by omega)
      simp (maxSteps := 10000000) (disch := omega) only [go_sem, ↓reduceIte, Nat.reduceLT, Nat.reduceLeDiff, Nat.reduceEqDiff, Nat.reduceAdd, BitVec.reduceOfInt, BitVec.reduceSetWidth, BitVec.reduceBEq, BitVec.reduceBNe, BitVec.reduceEq, BitVec.reduceNe, Bool.true_eq_false, Bool.false_eq_true, beq_self_eq_true, Option.map_some, Option.map_none, Option.bind_some, List.getElem?_cons_zero, List.getElem?_cons_succ, List.getElem?_toArray, List.map_cons, List.map_nil, true_and, and_true, forall_const, ne_eq, not_true_eq_false, not_false_eq_true, false_implies, true_implies, reduceCtorEq, Int.reduceToNat, Int.cast_ofNat_Int, Int.natCast_zero, Int.natCast_one, bne_self_eq_false, Int.reduceLT, Int.reduceLE, Int.reduceEq, Int.reduceNe, Bool.not_true, Bool.not_false, if_true, if_false, false_and, and_false, or_false, or_true, true_or, false_or, List.length_cons, List.length_nil, Int.toNat_natCast, List.length_map, decide_true, decide_false, e1, hwl hw4.sl, wrap_i64, f1]
      refine (unwrap_fun f2 (by simp; omega)).call (by omega) ?_
      rintro r H5 d3 d4 ⟨z2, rfl, _⟩
      have e2 : unwrapE ((wrapB xs).take (s - 1).toNat) = 3 := by
        refine unwrap_length (by simp; omega) ?_
        rw [headN_take (by omega), hh, p1]
        simp; omega
      have hw5 : OE H5 H.size w (wrapB xs) := hw4.keep fun j hj _ => d4 j hj
      obtain ⟨u2, f3, f4, _⟩ := hw5.sl.hi (k := 1) (by omega) (by omega)
      simp (maxSteps := 10000000) (disch := omega) only [go_sem, ↓reduceIte, Nat.reduceLT, Nat.reduceLeDiff, Nat.reduceEqDiff, Nat.reduceAdd, BitVec.reduceOfInt, BitVec.reduceSetWidth, BitVec.reduceBEq, BitVec.reduceBNe, BitVec.reduceEq, BitVec.reduceNe, Bool.true_eq_false, Bool.false_eq_true, beq_self_eq_true, Option.map_some, Option.map_none, Option.bind_some, List.getElem?_cons_zero, List.getElem?_cons_succ, List.getElem?_toArray, List.map_cons, List.map_nil, true_and, and_true, forall_const, ne_eq, not_true_eq_false, not_false_eq_true, false_implies, true_implies, reduceCtorEq, Int.reduceToNat, Int.cast_ofNat_Int, Int.natCast_zero, Int.natCast_one, bne_self_eq_false, Int.reduceLT, Int.reduceLE, Int.reduceEq, Int.reduceNe, Bool.not_true, Bool.not_false, if_true, if_false, false_and, and_false, or_false, or_true, true_or, false_or, List.length_cons, List.length_nil, Int.toNat_natCast, List.length_map, decide_true, decide_false, e2, f3]
      refine (unwrap_fun f4 (by simp; omega)).call (by omega) ?_
      rintro r H6 d5 d6 ⟨z3, rfl, _⟩
      have e3 : unwrapE ((wrapB xs).take 1) = 2 := by
        unfold unwrapE
        rw [if_pos (by simp; omega)]
      have hw6 : OE H6 H.size w (wrapB xs) := hw5.keep fun j hj _ => d6 j hj
      have hv6 : Sl H6 v xs := ((((hv1.keep_old k3).keep_old d2).keep_old d4).keep_old d6)
      simp (maxSteps := 10000000) (disch := omega) only [go_sem, ↓reduceIte, Nat.reduceLT, Nat.reduceLeDiff, Nat.reduceEqDiff, Nat.reduceAdd, BitVec.reduceOfInt, BitVec.reduceSetWidth, BitVec.reduceBEq, BitVec.reduceBNe, BitVec.reduceEq, BitVec.reduceNe, Bool.true_eq_false, Bool.false_eq_true, beq_self_eq_true, Option.map_some, Option.map_none, Option.bind_some, List.getElem?_cons_zero, List.getElem?_cons_succ, List.getElem?_toArray, List.map_cons, List.map_nil, true_and, and_true, forall_const, ne_eq, not_true_eq_false, not_false_eq_true, false_implies, true_implies, reduceCtorEq, Int.reduceToNat, Int.cast_ofNat_Int, Int.natCast_zero, Int.natCast_one, bne_self_eq_false, Int.reduceLT, Int.reduceLE, Int.reduceEq, Int.reduceNe, Bool.not_true, Bool.not_false, if_true, if_false, false_and, and_false, or_false, or_true, true_or, false_or, List.length_cons, List.length_nil, Int.toNat_natCast, List.length_map, decide_true, decide_false, e3, hwl hw6.sl, hv6.len, wrap_i64]
      by_cases h0 : s - (xs.length : Int) - 2 = 0
      · have h0' := eq_true h0
        simp (maxSteps := 10000000) (disch := omega) only [go_sem, ↓reduceIte, Nat.reduceLT, Nat.reduceLeDiff, Nat.reduceEqDiff, Nat.reduceAdd, BitVec.reduceOfInt, BitVec.reduceSetWidth, BitVec.reduceBEq, BitVec.reduceBNe, BitVec.reduceEq, BitVec.reduceNe, Bool.true_eq_false, Bool.false_eq_true, beq_self_eq_true, Option.map_some, Option.map_none, Option.bind_some, List.getElem?_cons_zero, List.getElem?_cons_succ, List.getElem?_toArray, List.map_cons, List.map_nil, true_and, and_true, forall_const, ne_eq, not_true_eq_false, not_false_eq_true, false_implies, true_implies, reduceCtorEq, Int.reduceToNat, Int.cast_ofNat_Int, Int.natCast_zero, Int.natCast_one, bne_self_eq_false, Int.reduceLT, Int.reduceLE, Int.reduceEq, Int.reduceNe, Bool.not_true, Bool.not_false, if_true, if_false, false_and, and_false, or_false, or_true, true_or, false_or, List.length_cons, List.length_nil, Int.toNat_natCast, List.length_map, decide_true, decide_false, h0']
        refine (awake11_fun _).call (by omega) ?_
        rintro _ H7 g7 g8 rfl
        simp (maxSteps := 10000000) (disch := omega) only [go_sem, ↓reduceIte, Nat.reduceLT, Nat.reduceLeDiff, Nat.reduceEqDiff, Nat.reduceAdd, BitVec.reduceOfInt, BitVec.reduceSetWidth, BitVec.reduceBEq, BitVec.reduceBNe, BitVec.reduceEq, BitVec.reduceNe, Bool.true_eq_false, Bool.false_eq_true, beq_self_eq_true, Option.map_some, Option.map_none, Option.bind_some, List.getElem?_cons_zero, List.getElem?_cons_succ, List.getElem?_toArray, List.map_cons, List.map_nil, true_and, and_true, forall_const, ne_eq, not_true_eq_false, not_false_eq_true, false_implies, true_implies, reduceCtorEq, Int.reduceToNat, Int.cast_ofNat_Int, Int.natCast_zero, Int.natCast_one, bne_self_eq_false, Int.reduceLT, Int.reduceLE, Int.reduceEq, Int.reduceNe, Bool.not_true, Bool.not_false, if_true, if_false, false_and, and_false, or_false, or_true, true_or, false_or, List.length_cons, List.length_nil, Int.toNat_natCast, List.length_map, decide_true, decide_false]
      · have h0' := eq_false h0
        obtain ⟨d, hd, hd2⟩ : ∃ d : Nat, (BitVec.ofInt 64 n % BitVec.ofInt 64 (s - (xs.length : Int) - 2)).toInt = (d : Nat) ∧ xs.length + 2 + d < s := by
          have w1 : (BitVec.ofInt 64 (s - (xs.length : Int) - 2)).toNat = (s - (xs.length : Int) - 2).toNat := by rw [BitVec.toNat_ofInt]; omega
          have h1 : (BitVec.ofInt 64 n % BitVec.ofInt 64 (s - (xs.length : Int) - 2)).toNat < (s - (xs.length : Int) - 2).toNat := by
            rw [BitVec.toNat_umod, w1]
            exact Nat.mod_lt _ (by omega)
          exact ⟨(BitVec.ofInt 64 n % BitVec.ofInt 64 (s - (xs.length : Int) - 2)).toNat, by rw [BitVec.toInt_eq_toNat_of_lt (by omega)], by omega⟩
        have hne : BitVec.ofInt 64 (s - (xs.length : Int) - 2) ≠ 0#64 := fun e => by
          have w1 : (BitVec.ofInt 64 (s - (xs.length : Int) - 2)).toNat = (s - (xs.length : Int) - 2).toNat := by rw [BitVec.toNat_ofInt]; omega
          rw [e] at w1
          simp at w1; omega
        obtain ⟨ad, g1, _, g2⟩ := hw6.elem (k := (xs.length : Int) + 2 + (d : Nat)) (by omega) (by omega)
        simp (maxSteps := 10000000) (disch := omega) only [go_sem, ↓reduceIte, Nat.reduceLT, Nat.reduceLeDiff, Nat.reduceEqDiff, Nat.reduceAdd, BitVec.reduceOfInt, BitVec.reduceSetWidth, BitVec.reduceBEq, BitVec.reduceBNe, BitVec.reduceEq, BitVec.reduceNe, Bool.true_eq_false, Bool.false_eq_true, beq_self_eq_true, Option.map_some, Option.map_none, Option.bind_some, List.getElem?_cons_zero, List.getElem?_cons_succ, List.getElem?_toArray, List.map_cons, List.map_nil, true_and, and_true, forall_const, ne_eq, not_true_eq_false, not_false_eq_true, false_implies, true_implies, reduceCtorEq, Int.reduceToNat, Int.cast_ofNat_Int, Int.natCast_zero, Int.natCast_one, bne_self_eq_false, Int.reduceLT, Int.reduceLE, Int.reduceEq, Int.reduceNe, Bool.not_true, Bool.not_false, if_true, if_false, false_and, and_false, or_false, or_true, true_or, false_or, List.length_cons, List.length_nil, Int.toNat_natCast, List.length_map, decide_true, decide_false, h0', hv6.len, wrap_i64, hne, hd, g1]
        refine g2 _ _ _ (Nat.le_refl _) ?_
        intro H7 s1 s2 s3
        have ep : ((xs.length : Int) + 2 + (d : Nat)).toNat = xs.length + 2 + d := by omega
        rw [ep] at s3
        simp (maxSteps := 10000000) (disch := omega) only [go_sem, ↓reduceIte, Nat.reduceLT, Nat.reduceLeDiff, Nat.reduceEqDiff, Nat.reduceAdd, BitVec.reduceOfInt, BitVec.reduceSetWidth, BitVec.reduceBEq, BitVec.reduceBNe, BitVec.reduceEq, BitVec.reduceNe, Bool.true_eq_false, Bool.false_eq_true, beq_self_eq_true, Option.map_some, Option.map_none, Option.bind_some, List.getElem?_cons_zero, List.getElem?_cons_succ, List.getElem?_toArray, List.map_cons, List.map_nil, true_and, and_true, forall_const, ne_eq, not_true_eq_false, not_false_eq_true, false_implies, true_implies, reduceCtorEq, Int.reduceToNat, Int.cast_ofNat_Int, Int.natCast_zero, Int.natCast_one, bne_self_eq_false, Int.reduceLT, Int.reduceLE, Int.reduceEq, Int.reduceNe, Bool.not_true, Bool.not_false, if_true, if_false, false_and, and_false, or_false, or_true, true_or, false_or, List.length_cons, List.length_nil, Int.toNat_natCast, List.length_map, decide_true, decide_false]
        refine (unwrap_fun s3.sl (by simp; omega)).call (by omega) ?_
        rintro r H8 d7 d8 ⟨z4, rfl, _⟩
        have e4 : unwrapE ((wrapB xs).set (xs.length + 2 + d) x) = 3 := by
          have hhs : headN ((wrapB xs).set (xs.length + 2 + d) x) = xs.length := by rw [headN_set _ (by omega), hh]
          refine unwrap_bad (k := d) (by simp; omega) (by rw [hhs, p1]; simp; omega) ?_ hx0
          rw [hhs]
          have := get_after (xs := wrapB xs) (p := xs.length + 2 + d) (x := x) (2 + xs.length) (by omega) (by omega)
          rw [← this]
          congr 1; omega
        simp (maxSteps := 10000000) (disch := omega) only [go_sem, ↓reduceIte, Nat.reduceLT, Nat.reduceLeDiff, Nat.reduceEqDiff, Nat.reduceAdd, BitVec.reduceOfInt, BitVec.reduceSetWidth, BitVec.reduceBEq, BitVec.reduceBNe, BitVec.reduceEq, BitVec.reduceNe, Bool.true_eq_false, Bool.false_eq_true, beq_self_eq_true, Option.map_some, Option.map_none, Option.bind_some, List.getElem?_cons_zero, List.getElem?_cons_succ, List.getElem?_toArray, List.map_cons, List.map_nil, true_and, and_true, forall_const, ne_eq, not_true_eq_false, not_false_eq_true, false_implies, true_implies, reduceCtorEq, Int.reduceToNat, Int.cast_ofNat_Int, Int.natCast_zero, Int.natCast_one, bne_self_eq_false, Int.reduceLT, Int.reduceLE, Int.reduceEq, Int.reduceNe, Bool.not_true, Bool.not_false, if_true, if_false, false_and, and_false, or_false, or_true, true_or, false_or, List.length_cons, List.length_nil, Int.toNat_natCast, List.length_map, decide_true, decide_false, e4]
        refine (awake11_fun _).call (show H.size ≤ H8.size by omega) ?_
        rintro _ H9 g7 g8 rfl
        simp (maxSteps := 10000000) (disch := omega) only [go_sem, ↓reduceIte, Nat.reduceLT, Nat.reduceLeDiff, Nat.reduceEqDiff, Nat.reduceAdd, BitVec.reduceOfInt, BitVec.reduceSetWidth, BitVec.reduceBEq, BitVec.reduceBNe, BitVec.reduceEq, BitVec.reduceNe, Bool.true_eq_false, Bool.false_eq_true, beq_self_eq_true, Option.map_some, Option.map_none, Option.bind_some, List.getElem?_cons_zero, List.getElem?_cons_succ, List.getElem?_toArray, List.map_cons, List.map_nil, true_and, and_true, forall_const, ne_eq, not_true_eq_false, not_false_eq_true, false_implies, true_implies, reduceCtorEq, Int.reduceToNat, Int.cast_ofNat_Int, Int.natCast_zero, Int.natCast_one, bne_self_eq_false, Int.reduceLT, Int.reduceLE, Int.reduceEq, Int.reduceNe, Bool.not_true, Bool.not_false, if_true, if_false, false_and, and_false, or_false, or_true, true_or, false_or, List.length_cons, List.length_nil, Int.toNat_natCast, List.length_map, decide_true, decide_false]

end Go.Proofs.Ytcapjjmikapmfaa.M
