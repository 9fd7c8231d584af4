/- Words out of bytes. -/
import Derived.Test.YtcapjjmikapmfaaSc
set_option linter.unusedVariables false
set_option linter.unusedSimpArgs false
namespace Go.Proofs.Ytcapjjmikapmfaa.M
open Go Go.Proofs

/-- A function that gives a value and leaves the heap as it is. -/
def FunR (f : FuncId) (args : List Value) (H : Heap) (v : Value) : Prop := Fun Try.prog f args H (fun v' H' => v' = v ∧ H' = H)
theorem FunR.call {f : FuncId} {args : List Value} {v : Value} {H : Heap} (h : FunR f args H v) {N : Nat} {K : Value → Heap → Prop} (hN : N ≤ H.size) (hK : K v H) : callK Try.prog N (.func f) args H K :=
  Fun.call h hN (by rintro _ _ _ _ ⟨rfl, rfl⟩; exact hK)

def byteAt (xs : List (BitVec 8)) (i : Int) (k : Nat) : BitVec 8 := if 0 ≤ i ∧ i ≤ xs.length ∧ i + k < xs.length then xs.getD (i + k).toNat 0#8 else 0#8

theorem at_fun {v : Value} {xs : List (BitVec 8)} {H : Heap} (hv : Sl H v xs) (hl : xs.length ≤ 200000000000000) (i : Int) (k : Nat) (hk : k ≤ 100) : FunR 121 [v, .int .i64 i, .int .i64 (k : Nat)] H (u64 ((byteAt xs i k).setWidth 64)) := by
  unfold FunR
  refine fun_of Try.func121 rfl (by decide +kernel) (Nat.le_of_ble_eq_true rfl) ?_
  unfold Try.f121
  simp (maxSteps := 10000000) (disch := omega) only [go_sem, ↓reduceIte, Nat.reduceLT, Nat.reduceLeDiff, Nat.reduceEqDiff, Nat.reduceAdd, BitVec.reduceOfInt, BitVec.reduceBEq, BitVec.reduceBNe, BitVec.reduceEq, BitVec.reduceNe, Bool.true_eq_false, Bool.false_eq_true, beq_self_eq_true, Option.map_some, Option.map_none, Option.bind_some, List.getElem?_cons_zero, List.getElem?_cons_succ, List.getElem?_toArray, List.map_cons, List.map_nil, true_and, and_true, forall_const, ne_eq, not_true_eq_false, not_false_eq_true, false_implies, true_implies, reduceCtorEq, Int.toNat_natCast, List.length_map, decide_true, decide_false, hv.len]
  by_cases h1 : i < 0
  · have h0 : ¬ 0 ≤ i := by omega
    simp (maxSteps := 10000000) (disch := omega) only [go_sem, ↓reduceIte, Nat.reduceLT, Nat.reduceLeDiff, Nat.reduceEqDiff, Nat.reduceAdd, BitVec.reduceOfInt, BitVec.reduceBEq, BitVec.reduceBNe, BitVec.reduceEq, BitVec.reduceNe, Bool.true_eq_false, Bool.false_eq_true, beq_self_eq_true, Option.map_some, Option.map_none, Option.bind_some, List.getElem?_cons_zero, List.getElem?_cons_succ, List.getElem?_toArray, List.map_cons, List.map_nil, true_and, and_true, forall_const, ne_eq, not_true_eq_false, not_false_eq_true, false_implies, true_implies, reduceCtorEq, Int.toNat_natCast, List.length_map, decide_true, decide_false, h1, byteAt, h0, false_and, if_true, if_false, Bool.not_true, Bool.not_false]
    rfl
  · by_cases h2 : (xs.length : Int) < i
    · have h0 : ¬ i ≤ xs.length := by omega
      simp (maxSteps := 10000000) (disch := omega) only [go_sem, ↓reduceIte, Nat.reduceLT, Nat.reduceLeDiff, Nat.reduceEqDiff, Nat.reduceAdd, BitVec.reduceOfInt, BitVec.reduceBEq, BitVec.reduceBNe, BitVec.reduceEq, BitVec.reduceNe, Bool.true_eq_false, Bool.false_eq_true, beq_self_eq_true, Option.map_some, Option.map_none, Option.bind_some, List.getElem?_cons_zero, List.getElem?_cons_succ, List.getElem?_toArray, List.map_cons, List.map_nil, true_and, and_true, forall_const, ne_eq, not_true_eq_false, not_false_eq_true, false_implies, true_implies, reduceCtorEq, Int.toNat_natCast, List.length_map, decide_true, decide_false, h1, h2, byteAt, h0, false_and, and_false, if_true, if_false]
      rfl
    · by_cases h3 : (xs.length : Int) ≤ i + k
      · have h0 : ¬ i + (k : Int) < xs.length := by omega
        simp (maxSteps := 10000000) (disch := omega) only [go_sem, ↓reduceIte, Nat.reduceLT, Nat.reduceLeDiff, Nat.reduceEqDiff, Nat.reduceAdd, BitVec.reduceOfInt, BitVec.reduceBEq, BitVec.reduceBNe, BitVec.reduceEq, BitVec.reduceNe, Bool.true_eq_false, Bool.false_eq_true, beq_self_eq_true, Option.map_some, Option.map_none, Option.bind_some, List.getElem?_cons_zero, List.getElem?_cons_succ, List.getElem?_toArray, List.map_cons, List.map_nil, true_and, and_true, forall_const, ne_eq, not_true_eq_false, not_false_eq_true, false_implies, true_implies, reduceCtorEq, Int.toNat_natCast, List.length_map, decide_true, decide_false, h1, h2, h3, hv.len, wrap_i64, byteAt, h0, and_false, if_true, if_false]
        rfl
      · have h0 : 0 ≤ i ∧ i ≤ xs.length ∧ i + (k : Int) < xs.length := by omega
        obtain ⟨ad, e1, e2⟩ := hv.index (k := i + (k : Int)) (by omega) (by omega)
        have e3 : xs.getD (i + (k : Int)).toNat 0#8 = xs[(i + (k : Int)).toNat]'(by omega) := by
          rw [List.getD_eq_getElem?_getD, List.getElem?_eq_getElem (by omega)]; rfl
        simp (maxSteps := 10000000) (disch := omega) only [go_sem, ↓reduceIte, Nat.reduceLT, Nat.reduceLeDiff, Nat.reduceEqDiff, Nat.reduceAdd, BitVec.reduceOfInt, BitVec.reduceBEq, BitVec.reduceBNe, BitVec.reduceEq, BitVec.reduceNe, Bool.true_eq_false, Bool.false_eq_true, beq_self_eq_true, Option.map_some, Option.map_none, Option.bind_some, List.getElem?_cons_zero, List.getElem?_cons_succ, List.getElem?_toArray, List.map_cons, List.map_nil, true_and, and_true, forall_const, ne_eq, not_true_eq_false, not_false_eq_true, false_implies, true_implies, reduceCtorEq, Int.toNat_natCast, List.length_map, decide_true, decide_false, h1, h2, h3, hv.len, wrap_i64, e1, e2, byteAt, h0, e3, if_true, if_false]

def lowAt (xs : List (BitVec 8)) (i : Int) (n : Nat) : BitVec 64 := (List.range n).foldl (fun acc k => acc ||| (byteAt xs i k).setWidth 64 <<< (8 * k)) 0#64
theorem lowAt_succ (xs : List (BitVec 8)) (i : Int) (n : Nat) : lowAt xs i (n + 1) = (lowAt xs i n ||| (byteAt xs i n).setWidth 64 <<< (8 * n)) := by simp [lowAt, List.range_succ]

def lowInv (v : Value) (xs : List (BitVec 8)) (i : Int) (n : Nat) (H : Heap) (m : Nat) (a : AAct) (H1 : Heap) : Prop :=
  ∃ k : Nat, k + m = n ∧ H1 = H ∧ a 0 = v ∧ a 1 = .int .i64 i ∧ a 9 = .int .i64 (n : Nat) ∧ a 10 = .int .i64 (k : Nat) ∧ a 7 = u64 (lowAt xs i k)

theorem low_fun {v : Value} {xs : List (BitVec 8)} {H : Heap} (hv : Sl H v xs) (hl : xs.length ≤ 200000000000000) (i : Int) (n : Nat) (hn : n ≤ 100) : FunR 100 [v, .int .i64 i, .int .i64 (n : Nat)] H (u64 (lowAt xs i n)) := by
  unfold FunR
  refine fun_of Try.func100 rfl (by decide +kernel) (Nat.le_of_ble_eq_true rfl) ?_
  unfold Try.f100
  simp (maxSteps := 10000000) (disch := omega) only [go_sem, ↓reduceIte, Nat.reduceLT, Nat.reduceLeDiff, Nat.reduceEqDiff, Nat.reduceAdd, BitVec.reduceOfInt, BitVec.reduceBEq, BitVec.reduceBNe, BitVec.reduceEq, BitVec.reduceNe, Bool.true_eq_false, Bool.false_eq_true, beq_self_eq_true, Option.map_some, Option.map_none, Option.bind_some, List.getElem?_cons_zero, List.getElem?_cons_succ, List.getElem?_toArray, List.map_cons, List.map_nil, true_and, and_true, forall_const, ne_eq, not_true_eq_false, not_false_eq_true, false_implies, true_implies, reduceCtorEq, Int.toNat_natCast, List.length_map, decide_true, decide_false]
  refine wp_loop (lowInv v xs i n H) ?_ n ?_
  · rintro m a H1 ⟨k, hk, rfl, h0, h1, h9, h10, h7⟩
    simp (maxSteps := 10000000) (disch := omega) only [go_sem, ↓reduceIte, Nat.reduceLT, Nat.reduceLeDiff, Nat.reduceEqDiff, Nat.reduceAdd, BitVec.reduceOfInt, BitVec.reduceBEq, BitVec.reduceBNe, BitVec.reduceEq, BitVec.reduceNe, Bool.true_eq_false, Bool.false_eq_true, beq_self_eq_true, Option.map_some, Option.map_none, Option.bind_some, List.getElem?_cons_zero, List.getElem?_cons_succ, List.getElem?_toArray, List.map_cons, List.map_nil, true_and, and_true, forall_const, ne_eq, not_true_eq_false, not_false_eq_true, false_implies, true_implies, reduceCtorEq, Int.toNat_natCast, List.length_map, decide_true, decide_false, h0, h1, h9, h10, h7]
    by_cases hlt : k < n
    · have hlt' : (k : Int) < (n : Nat) := by omega
      simp (maxSteps := 10000000) (disch := omega) only [go_sem, ↓reduceIte, Nat.reduceLT, Nat.reduceLeDiff, Nat.reduceEqDiff, Nat.reduceAdd, BitVec.reduceOfInt, BitVec.reduceBEq, BitVec.reduceBNe, BitVec.reduceEq, BitVec.reduceNe, Bool.true_eq_false, Bool.false_eq_true, beq_self_eq_true, Option.map_some, Option.map_none, Option.bind_some, List.getElem?_cons_zero, List.getElem?_cons_succ, List.getElem?_toArray, List.map_cons, List.map_nil, true_and, and_true, forall_const, ne_eq, not_true_eq_false, not_false_eq_true, false_implies, true_implies, reduceCtorEq, Int.toNat_natCast, List.length_map, decide_true, decide_false, h0, h1, h9, h10, h7, hlt']
      refine (at_fun hv hl i k (by omega)).call (Nat.le_refl _) ?_
      simp (maxSteps := 10000000) (disch := omega) only [go_sem, ↓reduceIte, Nat.reduceLT, Nat.reduceLeDiff, Nat.reduceEqDiff, Nat.reduceAdd, BitVec.reduceOfInt, BitVec.reduceBEq, BitVec.reduceBNe, BitVec.reduceEq, BitVec.reduceNe, Bool.true_eq_false, Bool.false_eq_true, beq_self_eq_true, Option.map_some, Option.map_none, Option.bind_some, List.getElem?_cons_zero, List.getElem?_cons_succ, List.getElem?_toArray, List.map_cons, List.map_nil, true_and, and_true, forall_const, ne_eq, not_true_eq_false, not_false_eq_true, false_implies, true_implies, reduceCtorEq, Int.toNat_natCast, List.length_map, decide_true, decide_false, h0, h1, h9, h10, h7, wrap_i64]
      refine ⟨m - 1, by omega, k + 1, by omega, rfl, ?_⟩
      simp (maxSteps := 10000000) (disch := omega) only [go_sem, ↓reduceIte, Nat.reduceLT, Nat.reduceLeDiff, Nat.reduceEqDiff, Nat.reduceAdd, BitVec.reduceOfInt, BitVec.reduceBEq, BitVec.reduceBNe, BitVec.reduceEq, BitVec.reduceNe, Bool.true_eq_false, Bool.false_eq_true, beq_self_eq_true, Option.map_some, Option.map_none, Option.bind_some, List.getElem?_cons_zero, List.getElem?_cons_succ, List.getElem?_toArray, List.map_cons, List.map_nil, true_and, and_true, forall_const, ne_eq, not_true_eq_false, not_false_eq_true, false_implies, true_implies, reduceCtorEq, Int.toNat_natCast, List.length_map, decide_true, decide_false, h0, h1, h9]
      refine ⟨by push_cast; rfl, ?_⟩
      have e : (8 * (k : Int)).toNat = 8 * k := by omega
      rw [e, lowAt_succ]
    · have hlt' : ¬ (k : Int) < (n : Nat) := by omega
      have hkn : k = n := by omega
      subst hkn
      simp (maxSteps := 10000000) (disch := omega) only [go_sem, ↓reduceIte, Nat.reduceLT, Nat.reduceLeDiff, Nat.reduceEqDiff, Nat.reduceAdd, BitVec.reduceOfInt, BitVec.reduceBEq, BitVec.reduceBNe, BitVec.reduceEq, BitVec.reduceNe, Bool.true_eq_false, Bool.false_eq_true, beq_self_eq_true, Option.map_some, Option.map_none, Option.bind_some, List.getElem?_cons_zero, List.getElem?_cons_succ, List.getElem?_toArray, List.map_cons, List.map_nil, true_and, and_true, forall_const, ne_eq, not_true_eq_false, not_false_eq_true, false_implies, true_implies, reduceCtorEq, Int.toNat_natCast, List.length_map, decide_true, decide_false, h0, h1, h9, h10, h7, hlt']
  · refine ⟨0, by omega, rfl, ?_⟩
    simp (maxSteps := 10000000) (disch := omega) only [go_sem, ↓reduceIte, Nat.reduceLT, Nat.reduceLeDiff, Nat.reduceEqDiff, Nat.reduceAdd, BitVec.reduceOfInt, BitVec.reduceBEq, BitVec.reduceBNe, BitVec.reduceEq, BitVec.reduceNe, Bool.true_eq_false, Bool.false_eq_true, beq_self_eq_true, Option.map_some, Option.map_none, Option.bind_some, List.getElem?_cons_zero, List.getElem?_cons_succ, List.getElem?_toArray, List.map_cons, List.map_nil, true_and, and_true, forall_const, ne_eq, not_true_eq_false, not_false_eq_true, false_implies, true_implies, reduceCtorEq, Int.toNat_natCast, List.length_map, decide_true, decide_false]
    exact ⟨rfl, rfl⟩

theorem low32_fun {v : Value} {xs : List (BitVec 8)} {H : Heap} (hv : Sl H v xs) (hl : xs.length ≤ 200000000000000) (i : Int) : FunR 57 [v, .int .i64 i] H (u32 ((lowAt xs i 4).setWidth 32)) := by
  unfold FunR
  refine fun_of Try.func57 rfl (by decide +kernel) (Nat.le_of_ble_eq_true rfl) ?_
  unfold Try.f57
  simp (maxSteps := 10000000) (disch := omega) only [go_sem, ↓reduceIte, Nat.reduceLT, Nat.reduceLeDiff, Nat.reduceEqDiff, Nat.reduceAdd, BitVec.reduceOfInt, BitVec.reduceBEq, BitVec.reduceBNe, BitVec.reduceEq, BitVec.reduceNe, Bool.true_eq_false, Bool.false_eq_true, beq_self_eq_true, Option.map_some, Option.map_none, Option.bind_some, List.getElem?_cons_zero, List.getElem?_cons_succ, List.getElem?_toArray, List.map_cons, List.map_nil, true_and, and_true, forall_const, ne_eq, not_true_eq_false, not_false_eq_true, false_implies, true_implies, reduceCtorEq, Int.toNat_natCast, List.length_map, decide_true, decide_false]
  refine (low_fun hv hl i 4 (by omega)).call (Nat.le_refl _) ?_
  simp (maxSteps := 10000000) (disch := omega) only [go_sem, ↓reduceIte, Nat.reduceLT, Nat.reduceLeDiff, Nat.reduceEqDiff, Nat.reduceAdd, BitVec.reduceOfInt, BitVec.reduceBEq, BitVec.reduceBNe, BitVec.reduceEq, BitVec.reduceNe, Bool.true_eq_false, Bool.false_eq_true, beq_self_eq_true, Option.map_some, Option.map_none, Option.bind_some, List.getElem?_cons_zero, List.getElem?_cons_succ, List.getElem?_toArray, List.map_cons, List.map_nil, true_and, and_true, forall_const, ne_eq, not_true_eq_false, not_false_eq_true, false_implies, true_implies, reduceCtorEq, Int.toNat_natCast, List.length_map, decide_true, decide_false]

theorem high32_fun {v : Value} {xs : List (BitVec 8)} {H : Heap} (hv : Sl H v xs) (hl : xs.length ≤ 200000000000000) (i : Int) : FunR 58 [v, .int .i64 i] H (u32 (rev32 ((lowAt xs i 4).setWidth 32))) := by
  unfold FunR
  refine fun_of Try.func58 rfl (by decide +kernel) (Nat.le_of_ble_eq_true rfl) ?_
  unfold Try.f58
  simp (maxSteps := 10000000) (disch := omega) only [go_sem, ↓reduceIte, Nat.reduceLT, Nat.reduceLeDiff, Nat.reduceEqDiff, Nat.reduceAdd, BitVec.reduceOfInt, BitVec.reduceBEq, BitVec.reduceBNe, BitVec.reduceEq, BitVec.reduceNe, Bool.true_eq_false, Bool.false_eq_true, beq_self_eq_true, Option.map_some, Option.map_none, Option.bind_some, List.getElem?_cons_zero, List.getElem?_cons_succ, List.getElem?_toArray, List.map_cons, List.map_nil, true_and, and_true, forall_const, ne_eq, not_true_eq_false, not_false_eq_true, false_implies, true_implies, reduceCtorEq, Int.toNat_natCast, List.length_map, decide_true, decide_false]
  refine (low32_fun hv hl i).call (Nat.le_refl _) ?_
  simp (maxSteps := 10000000) (disch := omega) only [go_sem, ↓reduceIte, Nat.reduceLT, Nat.reduceLeDiff, Nat.reduceEqDiff, Nat.reduceAdd, BitVec.reduceOfInt, BitVec.reduceBEq, BitVec.reduceBNe, BitVec.reduceEq, BitVec.reduceNe, Bool.true_eq_false, Bool.false_eq_true, beq_self_eq_true, Option.map_some, Option.map_none, Option.bind_some, List.getElem?_cons_zero, List.getElem?_cons_succ, List.getElem?_toArray, List.map_cons, List.map_nil, true_and, and_true, forall_const, ne_eq, not_true_eq_false, not_false_eq_true, false_implies, true_implies, reduceCtorEq, Int.toNat_natCast, List.length_map, decide_true, decide_false]
  refine (reverse32_fun _).call (Nat.le_refl _) ?_
  simp (maxSteps := 10000000) (disch := omega) only [go_sem, ↓reduceIte, Nat.reduceLT, Nat.reduceLeDiff, Nat.reduceEqDiff, Nat.reduceAdd, BitVec.reduceOfInt, BitVec.reduceBEq, BitVec.reduceBNe, BitVec.reduceEq, BitVec.reduceNe, Bool.true_eq_false, Bool.false_eq_true, beq_self_eq_true, Option.map_some, Option.map_none, Option.bind_some, List.getElem?_cons_zero, List.getElem?_cons_succ, List.getElem?_toArray, List.map_cons, List.map_nil, true_and, and_true, forall_const, ne_eq, not_true_eq_false, not_false_eq_true, false_implies, true_implies, reduceCtorEq, Int.toNat_natCast, List.length_map, decide_true, decide_false]
  rfl

theorem low64_fun {v : Value} {xs : List (BitVec 8)} {H : Heap} (hv : Sl H v xs) (hl : xs.length ≤ 200000000000000) (i : Int) : FunR 59 [v, .int .i64 i] H (u64 (lowAt xs i 8)) := by
  unfold FunR
  refine fun_of Try.func59 rfl (by decide +kernel) (Nat.le_of_ble_eq_true rfl) ?_
  unfold Try.f59
  simp (maxSteps := 10000000) (disch := omega) only [go_sem, ↓reduceIte, Nat.reduceLT, Nat.reduceLeDiff, Nat.reduceEqDiff, Nat.reduceAdd, BitVec.reduceOfInt, BitVec.reduceBEq, BitVec.reduceBNe, BitVec.reduceEq, BitVec.reduceNe, Bool.true_eq_false, Bool.false_eq_true, beq_self_eq_true, Option.map_some, Option.map_none, Option.bind_some, List.getElem?_cons_zero, List.getElem?_cons_succ, List.getElem?_toArray, List.map_cons, List.map_nil, true_and, and_true, forall_const, ne_eq, not_true_eq_false, not_false_eq_true, false_implies, true_implies, reduceCtorEq, Int.toNat_natCast, List.length_map, decide_true, decide_false]
  refine (low_fun hv hl i 8 (by omega)).call (Nat.le_refl _) ?_
  simp (maxSteps := 10000000) (disch := omega) only [go_sem, ↓reduceIte, Nat.reduceLT, Nat.reduceLeDiff, Nat.reduceEqDiff, Nat.reduceAdd, BitVec.reduceOfInt, BitVec.reduceBEq, BitVec.reduceBNe, BitVec.reduceEq, BitVec.reduceNe, Bool.true_eq_false, Bool.false_eq_true, beq_self_eq_true, Option.map_some, Option.map_none, Option.bind_some, List.getElem?_cons_zero, List.getElem?_cons_succ, List.getElem?_toArray, List.map_cons, List.map_nil, true_and, and_true, forall_const, ne_eq, not_true_eq_false, not_false_eq_true, false_implies, true_implies, reduceCtorEq, Int.toNat_natCast, List.length_map, decide_true, decide_false]

end Go.Proofs.Ytcapjjmikapmfaa.M
