/- Words and the quarter round of ChaCha: what the functions compute. -/
import Derived.Test.YtcapjjmikapmfaaMr
set_option linter.unusedVariables false
set_option linter.unusedSimpArgs false
namespace Go.Proofs.Ytcapjjmikapmfaa.M
open Go Go.Proofs

/-- A function that only gives a value. -/
def FunV (f : FuncId) (args : List Value) (v : Value) : Prop := ∀ H, Fun Try.prog f args H (fun v' H' => v' = v ∧ H' = H)

theorem FunV.call {f : FuncId} {args : List Value} {v : Value} (h : FunV f args v) {N : Nat} {H : Heap} {K : Value → Heap → Prop} (hN : N ≤ H.size) (hK : K v H) : callK Try.prog N (.func f) args H K :=
  (h H).call hN (by rintro _ _ _ _ ⟨rfl, rfl⟩; exact hK)

def rot (x : BitVec 32) (n : Int) : BitVec 32 := x <<< (BitVec.ofInt 64 n &&& 31#64).toNat ||| x >>> (32#64 - (BitVec.ofInt 64 n &&& 31#64)).toNat

theorem rotate_fun (x : BitVec 32) (n : Int) : FunV 96 [u32 x, .int .i64 n] (u32 (rot x n)) := by
  intro H
  refine fun_of Try.func96 rfl (by decide +kernel) (Nat.le_of_ble_eq_true rfl) ?_
  unfold Try.f96
  simp (disch := omega) only [go_sem, ↓reduceIte, Nat.reduceLT, Nat.reduceLeDiff, Nat.reduceEqDiff, Nat.reduceAdd, BitVec.reduceOfInt, Option.map_some, Option.map_none, Option.bind_some, List.getElem?_cons_zero, List.getElem?_cons_succ, List.getElem?_toArray, List.map_cons, List.map_nil, true_and, and_true, forall_const, ne_eq, not_true_eq_false, not_false_eq_true, false_implies, true_implies, reduceCtorEq, decide_true, decide_false]
  rfl

theorem left_fun (x : BitVec 32) (n : Int) : FunV 36 [u32 x, .int .i64 n] (u32 (rot x (n.tmod 32))) := by
  intro H
  refine fun_of Try.func36 rfl (by decide +kernel) (Nat.le_of_ble_eq_true rfl) ?_
  unfold Try.f36
  simp (disch := omega) only [go_sem, ↓reduceIte, Nat.reduceLT, Nat.reduceLeDiff, Nat.reduceEqDiff, Nat.reduceAdd, BitVec.reduceOfInt, Option.map_some, Option.map_none, Option.bind_some, List.getElem?_cons_zero, List.getElem?_cons_succ, List.getElem?_toArray, List.map_cons, List.map_nil, true_and, and_true, forall_const, ne_eq, not_true_eq_false, not_false_eq_true, false_implies, true_implies, reduceCtorEq, decide_true, decide_false]
  refine (rotate_fun _ _).call (Nat.le_refl _) ?_
  simp (disch := omega) only [go_sem, ↓reduceIte, Nat.reduceLT, Nat.reduceLeDiff, Nat.reduceEqDiff, Nat.reduceAdd, BitVec.reduceOfInt, Option.map_some, Option.map_none, Option.bind_some, List.getElem?_cons_zero, List.getElem?_cons_succ, List.getElem?_toArray, List.map_cons, List.map_nil, true_and, and_true, forall_const, ne_eq, not_true_eq_false, not_false_eq_true, false_implies, true_implies, reduceCtorEq, decide_true, decide_false]

theorem left_16 (x : BitVec 32) : FunV 36 [u32 x, .int .i64 16] (u32 (x <<< 16 ||| x >>> 16)) := left_fun x 16
theorem left_12 (x : BitVec 32) : FunV 36 [u32 x, .int .i64 12] (u32 (x <<< 12 ||| x >>> 20)) := left_fun x 12
theorem left_8 (x : BitVec 32) : FunV 36 [u32 x, .int .i64 8] (u32 (x <<< 8 ||| x >>> 24)) := left_fun x 8
theorem left_7 (x : BitVec 32) : FunV 36 [u32 x, .int .i64 7] (u32 (x <<< 7 ||| x >>> 25)) := left_fun x 7

structure Qu where
  a : BitVec 32
  b : BitVec 32
  c : BitVec 32
  d : BitVec 32

def quarter (q : Qu) : Qu :=
  let a := q.a + q.b
  let d := q.d ^^^ a
  let d := d <<< 16 ||| d >>> 16
  let c := q.c + d
  let b := q.b ^^^ c
  let b := b <<< 12 ||| b >>> 20
  let a := a + b
  let d := d ^^^ a
  let d := d <<< 8 ||| d >>> 24
  let c := c + d
  let b := b ^^^ c
  let b := b <<< 7 ||| b >>> 25
  ⟨a, b, c, d⟩

def Qu.val (q : Qu) : Value := .tuple #[u32 q.a, u32 q.b, u32 q.c, u32 q.d]

theorem quarter_fun (a b c d : BitVec 32) : FunV 34 [u32 a, u32 b, u32 c, u32 d] (quarter ⟨a, b, c, d⟩).val := by
  intro H
  refine fun_of Try.func34 rfl (by decide +kernel) (Nat.le_of_ble_eq_true rfl) ?_
  unfold Try.f34
  simp (disch := omega) only [go_sem, ↓reduceIte, Nat.reduceLT, Nat.reduceLeDiff, Nat.reduceEqDiff, Nat.reduceAdd, BitVec.reduceOfInt, Option.map_some, Option.map_none, Option.bind_some, List.getElem?_cons_zero, List.getElem?_cons_succ, List.getElem?_toArray, List.map_cons, List.map_nil, true_and, and_true, forall_const, ne_eq, not_true_eq_false, not_false_eq_true, false_implies, true_implies, reduceCtorEq, decide_true, decide_false]
  refine (left_16 _).call (Nat.le_refl _) ?_
  simp (disch := omega) only [go_sem, ↓reduceIte, Nat.reduceLT, Nat.reduceLeDiff, Nat.reduceEqDiff, Nat.reduceAdd, BitVec.reduceOfInt, Option.map_some, Option.map_none, Option.bind_some, List.getElem?_cons_zero, List.getElem?_cons_succ, List.getElem?_toArray, List.map_cons, List.map_nil, true_and, and_true, forall_const, ne_eq, not_true_eq_false, not_false_eq_true, false_implies, true_implies, reduceCtorEq, decide_true, decide_false]
  refine (left_12 _).call (Nat.le_refl _) ?_
  simp (disch := omega) only [go_sem, ↓reduceIte, Nat.reduceLT, Nat.reduceLeDiff, Nat.reduceEqDiff, Nat.reduceAdd, BitVec.reduceOfInt, Option.map_some, Option.map_none, Option.bind_some, List.getElem?_cons_zero, List.getElem?_cons_succ, List.getElem?_toArray, List.map_cons, List.map_nil, true_and, and_true, forall_const, ne_eq, not_true_eq_false, not_false_eq_true, false_implies, true_implies, reduceCtorEq, decide_true, decide_false]
  refine (left_8 _).call (Nat.le_refl _) ?_
  simp (disch := omega) only [go_sem, ↓reduceIte, Nat.reduceLT, Nat.reduceLeDiff, Nat.reduceEqDiff, Nat.reduceAdd, BitVec.reduceOfInt, Option.map_some, Option.map_none, Option.bind_some, List.getElem?_cons_zero, List.getElem?_cons_succ, List.getElem?_toArray, List.map_cons, List.map_nil, true_and, and_true, forall_const, ne_eq, not_true_eq_false, not_false_eq_true, false_implies, true_implies, reduceCtorEq, decide_true, decide_false]
  refine (left_7 _).call (Nat.le_refl _) ?_
  simp (disch := omega) only [go_sem, ↓reduceIte, Nat.reduceLT, Nat.reduceLeDiff, Nat.reduceEqDiff, Nat.reduceAdd, BitVec.reduceOfInt, Option.map_some, Option.map_none, Option.bind_some, List.getElem?_cons_zero, List.getElem?_cons_succ, List.getElem?_toArray, List.map_cons, List.map_nil, true_and, and_true, forall_const, ne_eq, not_true_eq_false, not_false_eq_true, false_implies, true_implies, reduceCtorEq, decide_true, decide_false]
  rfl

end Go.Proofs.Ytcapjjmikapmfaa.M
