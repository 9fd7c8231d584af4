/- The law ChachaQuarters. -/
import Derived.Test.YtcapjjmikapmfaaSa
set_option linter.unusedVariables false
set_option linter.unusedSimpArgs false
namespace Go.Proofs.Ytcapjjmikapmfaa.M
open Go Go.Proofs

theorem unrot (m n : Nat) (h : m + n = 32) (x : BitVec 32) : (x <<< m ||| x >>> n) <<< n ||| (x <<< m ||| x >>> n) >>> m = x := by
  apply BitVec.eq_of_getLsbD_eq
  intro i hi
  simp only [BitVec.getLsbD_or, BitVec.getLsbD_shiftLeft, BitVec.getLsbD_ushiftRight]
  by_cases h1 : i < n
  · have e1 : m + i - m = i := by omega
    have e2 : x.getLsbD (n + (m + i)) = false := BitVec.getLsbD_of_ge _ _ (by omega)
    have e3 : ¬ m + i < m := by omega
    have e4 : m + i < 32 := by omega
    simp [h1, e1, e2, e3, e4]
  · have e1 : n + (i - n) = i := by omega
    have e2 : i - n < m := by omega
    have e3 : ¬ m + i < 32 := by omega
    have e4 : x.getLsbD (n + (m + i)) = false := BitVec.getLsbD_of_ge _ _ (by omega)
    have e5 : i - n < 32 := by omega
    simp [h1, e1, e2, e3, e4, hi, e5]

theorem unrot7 (x : BitVec 32) : (x <<< 7 ||| x >>> 25) <<< 25 ||| (x <<< 7 ||| x >>> 25) >>> 7 = x := unrot 7 25 rfl x
theorem unrot8 (x : BitVec 32) : (x <<< 8 ||| x >>> 24) <<< 24 ||| (x <<< 8 ||| x >>> 24) >>> 8 = x := unrot 8 24 rfl x
theorem unrot12 (x : BitVec 32) : (x <<< 12 ||| x >>> 20) <<< 20 ||| (x <<< 12 ||| x >>> 20) >>> 12 = x := unrot 12 20 rfl x
theorem unrot16 (x : BitVec 32) : (x <<< 16 ||| x >>> 16) <<< 16 ||| (x <<< 16 ||| x >>> 16) >>> 16 = x := unrot 16 16 rfl x
theorem xor_back (x y : BitVec 32) : x ^^^ y ^^^ y = x := by rw [BitVec.xor_assoc, BitVec.xor_self, BitVec.xor_zero]
theorem add_back (x y : BitVec 32) : x + y - y = x := BitVec.add_sub_cancel x y

theorem awake7_fun : FunV 35 [] (.bool true) := by
  intro H
  refine fun_of Try.func35 rfl (by decide +kernel) (Nat.le_of_ble_eq_true rfl) ?_
  unfold Try.f35
  simp (maxSteps := 10000000) (disch := omega) only [go_sem, ↓reduceIte, Nat.reduceLT, Nat.reduceLeDiff, Nat.reduceEqDiff, Nat.reduceAdd, BitVec.reduceOfInt, BitVec.reduceBEq, BitVec.reduceBNe, BitVec.reduceEq, BitVec.reduceNe, Bool.true_eq_false, Bool.false_eq_true, beq_self_eq_true, Option.map_some, Option.map_none, Option.bind_some, List.getElem?_cons_zero, List.getElem?_cons_succ, List.getElem?_toArray, List.map_cons, List.map_nil, true_and, and_true, forall_const, ne_eq, not_true_eq_false, not_false_eq_true, false_implies, true_implies, reduceCtorEq, decide_true, decide_false]
  refine (quarter_fun _ _ _ _).call (Nat.le_refl _) ?_
  have h : quarter ⟨286331153#32, 16909060#32, 2609737539#32, 19088743#32⟩ = ⟨3928658676#32, 3407673550#32, 1166100270#32, 1484899515#32⟩ := by kernel_rfl
  simp (maxSteps := 10000000) (disch := omega) only [go_sem, ↓reduceIte, Nat.reduceLT, Nat.reduceLeDiff, Nat.reduceEqDiff, Nat.reduceAdd, BitVec.reduceOfInt, BitVec.reduceBEq, BitVec.reduceBNe, BitVec.reduceEq, BitVec.reduceNe, Bool.true_eq_false, Bool.false_eq_true, beq_self_eq_true, Option.map_some, Option.map_none, Option.bind_some, List.getElem?_cons_zero, List.getElem?_cons_succ, List.getElem?_toArray, List.map_cons, List.map_nil, true_and, and_true, forall_const, ne_eq, not_true_eq_false, not_false_eq_true, false_implies, true_implies, reduceCtorEq, decide_true, decide_false, h, Qu.val]

set_option maxRecDepth 20000 in
theorem chachaQuarters_funV (a b c d : BitVec 32) : FunV 3 [u32 a, u32 b, u32 c, u32 d] (.bool true) := by
  intro H
  obtain ⟨a1, h1⟩ : ∃ x, x = a + b := ⟨_, rfl⟩
  obtain ⟨d1, h2⟩ : ∃ x, x = (d ^^^ a1) <<< 16 ||| (d ^^^ a1) >>> 16 := ⟨_, rfl⟩
  obtain ⟨c1, h3⟩ : ∃ x, x = c + d1 := ⟨_, rfl⟩
  obtain ⟨b1, h4⟩ : ∃ x, x = (b ^^^ c1) <<< 12 ||| (b ^^^ c1) >>> 20 := ⟨_, rfl⟩
  obtain ⟨a2, h5⟩ : ∃ x, x = a1 + b1 := ⟨_, rfl⟩
  obtain ⟨d2, h6⟩ : ∃ x, x = (d1 ^^^ a2) <<< 8 ||| (d1 ^^^ a2) >>> 24 := ⟨_, rfl⟩
  obtain ⟨c2, h7⟩ : ∃ x, x = c1 + d2 := ⟨_, rfl⟩
  obtain ⟨b2, h8⟩ : ∃ x, x = (b1 ^^^ c2) <<< 7 ||| (b1 ^^^ c2) >>> 25 := ⟨_, rfl⟩
  have hq : quarter ⟨a, b, c, d⟩ = ⟨a2, b2, c2, d2⟩ := by subst_vars; rfl
  have e1 : b2 <<< 25 ||| b2 >>> 7 = b1 ^^^ c2 := by rw [h8]; exact unrot7 _
  have e2 : c2 - d2 = c1 := by rw [h7]; exact add_back _ _
  have e3 : d2 <<< 24 ||| d2 >>> 8 = d1 ^^^ a2 := by rw [h6]; exact unrot8 _
  have e4 : a2 - b1 = a1 := by rw [h5]; exact add_back _ _
  have e5 : b1 <<< 20 ||| b1 >>> 12 = b ^^^ c1 := by rw [h4]; exact unrot12 _
  have e6 : c1 - d1 = c := by rw [h3]; exact add_back _ _
  have e7 : d1 <<< 16 ||| d1 >>> 16 = d ^^^ a1 := by rw [h2]; exact unrot16 _
  have e8 : a1 - b = a := by rw [h1]; exact add_back _ _
  clear h1 h2 h3 h4 h5 h6 h7 h8
  refine fun_of Try.func3 rfl (by decide +kernel) (Nat.le_of_ble_eq_true rfl) ?_
  unfold Try.f3
  simp (maxSteps := 10000000) (disch := omega) only [go_sem, ↓reduceIte, Nat.reduceLT, Nat.reduceLeDiff, Nat.reduceEqDiff, Nat.reduceAdd, BitVec.reduceOfInt, BitVec.reduceBEq, BitVec.reduceBNe, BitVec.reduceEq, BitVec.reduceNe, Bool.true_eq_false, Bool.false_eq_true, beq_self_eq_true, Option.map_some, Option.map_none, Option.bind_some, List.getElem?_cons_zero, List.getElem?_cons_succ, List.getElem?_toArray, List.map_cons, List.map_nil, true_and, and_true, forall_const, ne_eq, not_true_eq_false, not_false_eq_true, false_implies, true_implies, reduceCtorEq, decide_true, decide_false]
  refine (quarter_fun _ _ _ _).call (Nat.le_refl _) ?_
  simp (maxSteps := 10000000) (disch := omega) only [go_sem, ↓reduceIte, Nat.reduceLT, Nat.reduceLeDiff, Nat.reduceEqDiff, Nat.reduceAdd, BitVec.reduceOfInt, BitVec.reduceBEq, BitVec.reduceBNe, BitVec.reduceEq, BitVec.reduceNe, Bool.true_eq_false, Bool.false_eq_true, beq_self_eq_true, Option.map_some, Option.map_none, Option.bind_some, List.getElem?_cons_zero, List.getElem?_cons_succ, List.getElem?_toArray, List.map_cons, List.map_nil, true_and, and_true, forall_const, ne_eq, not_true_eq_false, not_false_eq_true, false_implies, true_implies, reduceCtorEq, decide_true, decide_false, hq, Qu.val, BitVec.toNat_ofNat, Nat.reducePow, Nat.reduceMod, e1, e2, e3, e4, e5, e6, e7, e8, xor_back]
  refine awake7_fun.call (Nat.le_refl _) ?_
  simp (maxSteps := 10000000) (disch := omega) only [go_sem, ↓reduceIte, Nat.reduceLT, Nat.reduceLeDiff, Nat.reduceEqDiff, Nat.reduceAdd, BitVec.reduceOfInt, BitVec.reduceBEq, BitVec.reduceBNe, BitVec.reduceEq, BitVec.reduceNe, Bool.true_eq_false, Bool.false_eq_true, beq_self_eq_true, Option.map_some, Option.map_none, Option.bind_some, List.getElem?_cons_zero, List.getElem?_cons_succ, List.getElem?_toArray, List.map_cons, List.map_nil, true_and, and_true, forall_const, ne_eq, not_true_eq_false, not_false_eq_true, false_implies, true_implies, reduceCtorEq, decide_true, decide_false]

theorem FunV.law {f : FuncId} {args : List Value} {v : Value} (h : FunV f args v) {H : Heap} : Fun Try.prog f args H fun v' _ => v' = v :=
  let ⟨v', H', h1, h2, _⟩ := h H
  ⟨v', H', h1, h2⟩

theorem chachaQuarters_fun {H : Heap} (a b c d : BitVec 32) : Fun Try.prog 3 [u32 a, u32 b, u32 c, u32 d] H fun v _ => v = .bool true := (chachaQuarters_funV a b c d).law

end Go.Proofs.Ytcapjjmikapmfaa.M
