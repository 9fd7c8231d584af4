/- Words as bytes: what the functions of word give. -/
import Derived.Test.YtcapjjmikapmfaaMv
import Derived.Test.YtcapjjmikapmfaaSa
set_option linter.unusedVariables false
set_option linter.unusedSimpArgs false
namespace Go.Proofs.Ytcapjjmikapmfaa.M
open Go Go.Proofs

/-- The bytes of a word, the least first. -/
def lowBytes (x : BitVec 64) (n : Nat) : List (BitVec 8) := (List.range n).map fun i => (x >>> (8 * i)).setWidth 8

theorem lowBytes_length (x : BitVec 64) (n : Nat) : (lowBytes x n).length = n := by simp [lowBytes]
theorem lowBytes_succ (x : BitVec 64) (n : Nat) : lowBytes x (n + 1) = lowBytes x n ++ [(x >>> (8 * n)).setWidth 8] := by simp [lowBytes, List.range_succ]

def putInv (x : BitVec 64) (n B : Nat) (m : Nat) (a : AAct) (H : Heap) : Prop :=
  ∃ k, k + m = n ∧ a 0 = u64 x ∧ a 7 = .int .i64 (n : Nat) ∧ a 8 = .int .i64 (k : Nat) ∧ B ≤ H.size ∧ Ow H B (a 5) (lowBytes x k)

theorem put_fun (x : BitVec 64) (n : Nat) (hn : n ≤ 1000000) (H : Heap) : Fun Try.prog 98 [u64 x, .int .i64 (n : Nat)] H (fun v H' => Ow H' H.size v (lowBytes x n)) := by
  refine fun_of Try.func98 rfl (by decide +kernel) (Nat.le_of_ble_eq_true rfl) ?_
  unfold Try.f98
  simp (maxSteps := 10000000) (disch := omega) only [go_sem, ↓reduceIte, Nat.reduceLT, Nat.reduceLeDiff, Nat.reduceEqDiff, Nat.reduceAdd, BitVec.reduceOfInt, BitVec.reduceBEq, BitVec.reduceBNe, BitVec.reduceEq, BitVec.reduceNe, Bool.true_eq_false, Bool.false_eq_true, beq_self_eq_true, Option.map_some, Option.map_none, Option.bind_some, List.getElem?_cons_zero, List.getElem?_cons_succ, List.getElem?_toArray, List.map_cons, List.map_nil, true_and, and_true, forall_const, ne_eq, not_true_eq_false, not_false_eq_true, false_implies, true_implies, reduceCtorEq, Int.toNat_natCast, List.length_map, decide_true, decide_false]
  refine wp_loop (putInv x n H.size) ?_ n ?_
  · rintro m a H1 ⟨k, hk, h0, h7, h8, hB, hO⟩
    simp (maxSteps := 10000000) (disch := omega) only [go_sem, ↓reduceIte, Nat.reduceLT, Nat.reduceLeDiff, Nat.reduceEqDiff, Nat.reduceAdd, BitVec.reduceOfInt, BitVec.reduceBEq, BitVec.reduceBNe, BitVec.reduceEq, BitVec.reduceNe, Bool.true_eq_false, Bool.false_eq_true, beq_self_eq_true, Option.map_some, Option.map_none, Option.bind_some, List.getElem?_cons_zero, List.getElem?_cons_succ, List.getElem?_toArray, List.map_cons, List.map_nil, true_and, and_true, forall_const, ne_eq, not_true_eq_false, not_false_eq_true, false_implies, true_implies, reduceCtorEq, Int.toNat_natCast, List.length_map, decide_true, decide_false, h0, h7, h8]
    by_cases hlt : k < n
    · have hlt' : (k : Int) < (n : Nat) := by omega
      simp (maxSteps := 10000000) (disch := omega) only [go_sem, ↓reduceIte, Nat.reduceLT, Nat.reduceLeDiff, Nat.reduceEqDiff, Nat.reduceAdd, BitVec.reduceOfInt, BitVec.reduceBEq, BitVec.reduceBNe, BitVec.reduceEq, BitVec.reduceNe, Bool.true_eq_false, Bool.false_eq_true, beq_self_eq_true, Option.map_some, Option.map_none, Option.bind_some, List.getElem?_cons_zero, List.getElem?_cons_succ, List.getElem?_toArray, List.map_cons, List.map_nil, true_and, and_true, forall_const, ne_eq, not_true_eq_false, not_false_eq_true, false_implies, true_implies, reduceCtorEq, Int.toNat_natCast, List.length_map, decide_true, decide_false, h0, h7, h8, hlt', wrap_i64]
      refine append_byte hO (Nat.le_refl _) hB (by rw [lowBytes_length]; omega) ?_
      intro v' H2 g1 g2 g3 g4
      simp (maxSteps := 10000000) (disch := omega) only [go_sem, ↓reduceIte, Nat.reduceLT, Nat.reduceLeDiff, Nat.reduceEqDiff, Nat.reduceAdd, BitVec.reduceOfInt, BitVec.reduceBEq, BitVec.reduceBNe, BitVec.reduceEq, BitVec.reduceNe, Bool.true_eq_false, Bool.false_eq_true, beq_self_eq_true, Option.map_some, Option.map_none, Option.bind_some, List.getElem?_cons_zero, List.getElem?_cons_succ, List.getElem?_toArray, List.map_cons, List.map_nil, true_and, and_true, forall_const, ne_eq, not_true_eq_false, not_false_eq_true, false_implies, true_implies, reduceCtorEq, Int.toNat_natCast, List.length_map, decide_true, decide_false, h8, wrap_i64]
      refine ⟨m - 1, by omega, k + 1, by omega, ?_⟩
      simp (maxSteps := 10000000) (disch := omega) only [go_sem, ↓reduceIte, Nat.reduceLT, Nat.reduceLeDiff, Nat.reduceEqDiff, Nat.reduceAdd, BitVec.reduceOfInt, BitVec.reduceBEq, BitVec.reduceBNe, BitVec.reduceEq, BitVec.reduceNe, Bool.true_eq_false, Bool.false_eq_true, beq_self_eq_true, Option.map_some, Option.map_none, Option.bind_some, List.getElem?_cons_zero, List.getElem?_cons_succ, List.getElem?_toArray, List.map_cons, List.map_nil, true_and, and_true, forall_const, ne_eq, not_true_eq_false, not_false_eq_true, false_implies, true_implies, reduceCtorEq, Int.toNat_natCast, List.length_map, decide_true, decide_false, h0, h7]
      refine ⟨by push_cast; rfl, by omega, ?_⟩
      have e : (8 * (k : Int)).toNat = 8 * k := by omega
      rw [e] at g4
      rw [lowBytes_succ]
      exact g4
    · have hlt' : ¬ (k : Int) < (n : Nat) := by omega
      have hkn : k = n := by omega
      subst hkn
      simp (maxSteps := 10000000) (disch := omega) only [go_sem, ↓reduceIte, Nat.reduceLT, Nat.reduceLeDiff, Nat.reduceEqDiff, Nat.reduceAdd, BitVec.reduceOfInt, BitVec.reduceBEq, BitVec.reduceBNe, BitVec.reduceEq, BitVec.reduceNe, Bool.true_eq_false, Bool.false_eq_true, beq_self_eq_true, Option.map_some, Option.map_none, Option.bind_some, List.getElem?_cons_zero, List.getElem?_cons_succ, List.getElem?_toArray, List.map_cons, List.map_nil, true_and, and_true, forall_const, ne_eq, not_true_eq_false, not_false_eq_true, false_implies, true_implies, reduceCtorEq, Int.toNat_natCast, List.length_map, decide_true, decide_false, h0, h7, h8, hlt']
      exact hO
  · refine ⟨0, by omega, ?_⟩
    simp (maxSteps := 10000000) (disch := omega) only [go_sem, ↓reduceIte, Nat.reduceLT, Nat.reduceLeDiff, Nat.reduceEqDiff, Nat.reduceAdd, BitVec.reduceOfInt, BitVec.reduceBEq, BitVec.reduceBNe, BitVec.reduceEq, BitVec.reduceNe, Bool.true_eq_false, Bool.false_eq_true, beq_self_eq_true, Option.map_some, Option.map_none, Option.bind_some, List.getElem?_cons_zero, List.getElem?_cons_succ, List.getElem?_toArray, List.map_cons, List.map_nil, true_and, and_true, forall_const, ne_eq, not_true_eq_false, not_false_eq_true, false_implies, true_implies, reduceCtorEq, Int.toNat_natCast, List.length_map, decide_true, decide_false]
    exact ⟨rfl, Nat.le_refl _, OV.nil _ _⟩

theorem reverse32_fun (x : BitVec 32) : FunV 99 [u32 x] (u32 ((x >>> 8 &&& 16711935#32 ||| (x &&& 16711935#32) <<< 8) >>> 16 ||| (x >>> 8 &&& 16711935#32 ||| (x &&& 16711935#32) <<< 8) <<< 16)) := by
  intro H
  refine fun_of Try.func99 rfl (by decide +kernel) (Nat.le_of_ble_eq_true rfl) ?_
  unfold Try.f99
  simp (maxSteps := 10000000) (disch := omega) only [go_sem, ↓reduceIte, Nat.reduceLT, Nat.reduceLeDiff, Nat.reduceEqDiff, Nat.reduceAdd, BitVec.reduceOfInt, BitVec.reduceBEq, BitVec.reduceBNe, BitVec.reduceEq, BitVec.reduceNe, Bool.true_eq_false, Bool.false_eq_true, beq_self_eq_true, Option.map_some, Option.map_none, Option.bind_some, List.getElem?_cons_zero, List.getElem?_cons_succ, List.getElem?_toArray, List.map_cons, List.map_nil, true_and, and_true, forall_const, ne_eq, not_true_eq_false, not_false_eq_true, false_implies, true_implies, reduceCtorEq, Int.toNat_natCast, List.length_map, decide_true, decide_false, BitVec.toNat_ofNat, Nat.reducePow, Nat.reduceMod]

theorem putLow32_fun (x : BitVec 32) (H : Heap) : Fun Try.prog 55 [u32 x] H (fun v H' => Ow H' H.size v (lowBytes (x.setWidth 64) 4)) := by
  refine fun_of Try.func55 rfl (by decide +kernel) (Nat.le_of_ble_eq_true rfl) ?_
  unfold Try.f55
  simp (maxSteps := 10000000) (disch := omega) only [go_sem, ↓reduceIte, Nat.reduceLT, Nat.reduceLeDiff, Nat.reduceEqDiff, Nat.reduceAdd, BitVec.reduceOfInt, BitVec.reduceBEq, BitVec.reduceBNe, BitVec.reduceEq, BitVec.reduceNe, Bool.true_eq_false, Bool.false_eq_true, beq_self_eq_true, Option.map_some, Option.map_none, Option.bind_some, List.getElem?_cons_zero, List.getElem?_cons_succ, List.getElem?_toArray, List.map_cons, List.map_nil, true_and, and_true, forall_const, ne_eq, not_true_eq_false, not_false_eq_true, false_implies, true_implies, reduceCtorEq, Int.toNat_natCast, List.length_map, decide_true, decide_false]
  refine (put_fun _ 4 (by omega) _).call (Nat.le_refl _) ?_
  intro v' H' h1 h2 h3
  simp (maxSteps := 10000000) (disch := omega) only [go_sem, ↓reduceIte, Nat.reduceLT, Nat.reduceLeDiff, Nat.reduceEqDiff, Nat.reduceAdd, BitVec.reduceOfInt, BitVec.reduceBEq, BitVec.reduceBNe, BitVec.reduceEq, BitVec.reduceNe, Bool.true_eq_false, Bool.false_eq_true, beq_self_eq_true, Option.map_some, Option.map_none, Option.bind_some, List.getElem?_cons_zero, List.getElem?_cons_succ, List.getElem?_toArray, List.map_cons, List.map_nil, true_and, and_true, forall_const, ne_eq, not_true_eq_false, not_false_eq_true, false_implies, true_implies, reduceCtorEq, Int.toNat_natCast, List.length_map, decide_true, decide_false]
  exact h3

def rev32 (x : BitVec 32) : BitVec 32 := (x >>> 8 &&& 16711935#32 ||| (x &&& 16711935#32) <<< 8) >>> 16 ||| (x >>> 8 &&& 16711935#32 ||| (x &&& 16711935#32) <<< 8) <<< 16

theorem putHigh32_fun (x : BitVec 32) (H : Heap) : Fun Try.prog 56 [u32 x] H (fun v H' => Ow H' H.size v (lowBytes ((rev32 x).setWidth 64) 4)) := by
  refine fun_of Try.func56 rfl (by decide +kernel) (Nat.le_of_ble_eq_true rfl) ?_
  unfold Try.f56
  simp (maxSteps := 10000000) (disch := omega) only [go_sem, ↓reduceIte, Nat.reduceLT, Nat.reduceLeDiff, Nat.reduceEqDiff, Nat.reduceAdd, BitVec.reduceOfInt, BitVec.reduceBEq, BitVec.reduceBNe, BitVec.reduceEq, BitVec.reduceNe, Bool.true_eq_false, Bool.false_eq_true, beq_self_eq_true, Option.map_some, Option.map_none, Option.bind_some, List.getElem?_cons_zero, List.getElem?_cons_succ, List.getElem?_toArray, List.map_cons, List.map_nil, true_and, and_true, forall_const, ne_eq, not_true_eq_false, not_false_eq_true, false_implies, true_implies, reduceCtorEq, Int.toNat_natCast, List.length_map, decide_true, decide_false]
  refine (reverse32_fun _).call (Nat.le_refl _) ?_
  simp (maxSteps := 10000000) (disch := omega) only [go_sem, ↓reduceIte, Nat.reduceLT, Nat.reduceLeDiff, Nat.reduceEqDiff, Nat.reduceAdd, BitVec.reduceOfInt, BitVec.reduceBEq, BitVec.reduceBNe, BitVec.reduceEq, BitVec.reduceNe, Bool.true_eq_false, Bool.false_eq_true, beq_self_eq_true, Option.map_some, Option.map_none, Option.bind_some, List.getElem?_cons_zero, List.getElem?_cons_succ, List.getElem?_toArray, List.map_cons, List.map_nil, true_and, and_true, forall_const, ne_eq, not_true_eq_false, not_false_eq_true, false_implies, true_implies, reduceCtorEq, Int.toNat_natCast, List.length_map, decide_true, decide_false]
  refine (putLow32_fun _ _).call (Nat.le_refl _) ?_
  intro v' H' h1 h2 h3
  simp (maxSteps := 10000000) (disch := omega) only [go_sem, ↓reduceIte, Nat.reduceLT, Nat.reduceLeDiff, Nat.reduceEqDiff, Nat.reduceAdd, BitVec.reduceOfInt, BitVec.reduceBEq, BitVec.reduceBNe, BitVec.reduceEq, BitVec.reduceNe, Bool.true_eq_false, Bool.false_eq_true, beq_self_eq_true, Option.map_some, Option.map_none, Option.bind_some, List.getElem?_cons_zero, List.getElem?_cons_succ, List.getElem?_toArray, List.map_cons, List.map_nil, true_and, and_true, forall_const, ne_eq, not_true_eq_false, not_false_eq_true, false_implies, true_implies, reduceCtorEq, Int.toNat_natCast, List.length_map, decide_true, decide_false]
  exact h3

theorem tmod_bound (n m : Int) (hm : 0 < m) : -m < n.tmod m ∧ n.tmod m < m := by
  have h1 := Int.emod_nonneg n (by omega : m ≠ 0)
  have h2 := Int.emod_lt_of_pos n hm
  rw [Int.tmod_eq_emod]
  split
  · omega
  · rename_i h
    have h3 : n % m ≠ 0 := fun h0 => h (.inr (Int.dvd_of_emod_eq_zero h0))
    omega

theorem right_fun (x : BitVec 32) (n : Int) (hn : I64 n) : FunV 37 [u32 x, .int .i64 n] (u32 (rot x (-(n.tmod 32)))) := by
  intro H
  have h1 := tmod_bound n 32 (by omega)
  refine fun_of Try.func37 rfl (by decide +kernel) (Nat.le_of_ble_eq_true rfl) ?_
  unfold Try.f37
  simp (maxSteps := 10000000) (disch := omega) only [go_sem, ↓reduceIte, Nat.reduceLT, Nat.reduceLeDiff, Nat.reduceEqDiff, Nat.reduceAdd, BitVec.reduceOfInt, BitVec.reduceBEq, BitVec.reduceBNe, BitVec.reduceEq, BitVec.reduceNe, Bool.true_eq_false, Bool.false_eq_true, beq_self_eq_true, Option.map_some, Option.map_none, Option.bind_some, List.getElem?_cons_zero, List.getElem?_cons_succ, List.getElem?_toArray, List.map_cons, List.map_nil, true_and, and_true, forall_const, ne_eq, not_true_eq_false, not_false_eq_true, false_implies, true_implies, reduceCtorEq, Int.toNat_natCast, List.length_map, decide_true, decide_false, wrap_i64]
  refine (rotate_fun _ _).call (Nat.le_refl _) ?_
  simp (maxSteps := 10000000) (disch := omega) only [go_sem, ↓reduceIte, Nat.reduceLT, Nat.reduceLeDiff, Nat.reduceEqDiff, Nat.reduceAdd, BitVec.reduceOfInt, BitVec.reduceBEq, BitVec.reduceBNe, BitVec.reduceEq, BitVec.reduceNe, Bool.true_eq_false, Bool.false_eq_true, beq_self_eq_true, Option.map_some, Option.map_none, Option.bind_some, List.getElem?_cons_zero, List.getElem?_cons_succ, List.getElem?_toArray, List.map_cons, List.map_nil, true_and, and_true, forall_const, ne_eq, not_true_eq_false, not_false_eq_true, false_implies, true_implies, reduceCtorEq, Int.toNat_natCast, List.length_map, decide_true, decide_false, Int.zero_sub]

def equalInv (H : Heap) (v w : Value) (xs ys : List (BitVec 8)) (m : Nat) (a : AAct) (H1 : Heap) : Prop :=
  ∃ (k : Nat) (acc : BitVec 8), k + m = xs.length ∧ H1 = H ∧ a 0 = v ∧ a 1 = w ∧ a 13 = .int .i64 (xs.length : Nat) ∧ a 14 = .int .i64 (k : Nat) ∧ a 5 = u8 acc ∧ (acc = 0#8 ↔ ∀ j, j < k → xs[j]? = ys[j]?)

theorem equal_fun {v w : Value} {xs ys : List (BitVec 8)} {H : Heap} (hv : Sl H v xs) (hw : Sl H w ys) (hl : xs.length ≤ 200000000000000) : Fun Try.prog 68 [v, w] H (fun r H' => r = .bool (decide (xs = ys)) ∧ H' = H) := by
  refine fun_of Try.func68 rfl (by decide +kernel) (Nat.le_of_ble_eq_true rfl) ?_
  unfold Try.f68
  simp (maxSteps := 10000000) (disch := omega) only [go_sem, ↓reduceIte, Nat.reduceLT, Nat.reduceLeDiff, Nat.reduceEqDiff, Nat.reduceAdd, BitVec.reduceOfInt, BitVec.reduceBEq, BitVec.reduceBNe, BitVec.reduceEq, BitVec.reduceNe, Bool.true_eq_false, Bool.false_eq_true, beq_self_eq_true, Option.map_some, Option.map_none, Option.bind_some, List.getElem?_cons_zero, List.getElem?_cons_succ, List.getElem?_toArray, List.map_cons, List.map_nil, true_and, and_true, forall_const, ne_eq, not_true_eq_false, not_false_eq_true, false_implies, true_implies, reduceCtorEq, Int.toNat_natCast, List.length_map, decide_true, decide_false, hv.len, hw.len, decide_eq_true_eq, decide_eq_false_iff_not]
  constructor
  · intro hne
    have : xs ≠ ys := fun e => hne (by rw [e])
    simp (maxSteps := 10000000) (disch := omega) only [go_sem, ↓reduceIte, Nat.reduceLT, Nat.reduceLeDiff, Nat.reduceEqDiff, Nat.reduceAdd, BitVec.reduceOfInt, BitVec.reduceBEq, BitVec.reduceBNe, BitVec.reduceEq, BitVec.reduceNe, Bool.true_eq_false, Bool.false_eq_true, beq_self_eq_true, Option.map_some, Option.map_none, Option.bind_some, List.getElem?_cons_zero, List.getElem?_cons_succ, List.getElem?_toArray, List.map_cons, List.map_nil, true_and, and_true, forall_const, ne_eq, not_true_eq_false, not_false_eq_true, false_implies, true_implies, reduceCtorEq, Int.toNat_natCast, List.length_map, decide_true, decide_false, this]
  · intro he
    have he' : xs.length = ys.length := by omega
    refine wp_loop (equalInv H v w xs ys) ?_ xs.length ?_
    · rintro m a H1 ⟨k, acc, hk, rfl, h0, h1, h13, h14, h5, hacc⟩
      simp (maxSteps := 10000000) (disch := omega) only [go_sem, ↓reduceIte, Nat.reduceLT, Nat.reduceLeDiff, Nat.reduceEqDiff, Nat.reduceAdd, BitVec.reduceOfInt, BitVec.reduceBEq, BitVec.reduceBNe, BitVec.reduceEq, BitVec.reduceNe, Bool.true_eq_false, Bool.false_eq_true, beq_self_eq_true, Option.map_some, Option.map_none, Option.bind_some, List.getElem?_cons_zero, List.getElem?_cons_succ, List.getElem?_toArray, List.map_cons, List.map_nil, true_and, and_true, forall_const, ne_eq, not_true_eq_false, not_false_eq_true, false_implies, true_implies, reduceCtorEq, Int.toNat_natCast, List.length_map, decide_true, decide_false, h0, h1, h13, h14]
      by_cases hlt : k < xs.length
      · have hlt' : (k : Int) < (xs.length : Nat) := by omega
        obtain ⟨ad, e1, e2⟩ := hv.index (k := (k : Int)) (by omega) (by omega)
        obtain ⟨bd, e3, e4⟩ := hw.index (k := (k : Int)) (by omega) (by omega)
        simp (maxSteps := 10000000) (disch := omega) only [go_sem, ↓reduceIte, Nat.reduceLT, Nat.reduceLeDiff, Nat.reduceEqDiff, Nat.reduceAdd, BitVec.reduceOfInt, BitVec.reduceBEq, BitVec.reduceBNe, BitVec.reduceEq, BitVec.reduceNe, Bool.true_eq_false, Bool.false_eq_true, beq_self_eq_true, Option.map_some, Option.map_none, Option.bind_some, List.getElem?_cons_zero, List.getElem?_cons_succ, List.getElem?_toArray, List.map_cons, List.map_nil, true_and, and_true, forall_const, ne_eq, not_true_eq_false, not_false_eq_true, false_implies, true_implies, reduceCtorEq, Int.toNat_natCast, List.length_map, decide_true, decide_false, h0, h1, h13, h14, hlt']
        refine draw_of 12 (by kernel_rfl) ?_
        simp (maxSteps := 10000000) (disch := omega) only [go_sem, ↓reduceIte, Nat.reduceLT, Nat.reduceLeDiff, Nat.reduceEqDiff, Nat.reduceAdd, BitVec.reduceOfInt, BitVec.reduceBEq, BitVec.reduceBNe, BitVec.reduceEq, BitVec.reduceNe, Bool.true_eq_false, Bool.false_eq_true, beq_self_eq_true, Option.map_some, Option.map_none, Option.bind_some, List.getElem?_cons_zero, List.getElem?_cons_succ, List.getElem?_toArray, List.map_cons, List.map_nil, true_and, and_true, forall_const, ne_eq, not_true_eq_false, not_false_eq_true, false_implies, true_implies, reduceCtorEq, Int.toNat_natCast, List.length_map, decide_true, decide_false, h0, h1, h13, h14, h5, e1, e2, e3, e4, wrap_i64]
        refine ⟨m - 1, by omega, k + 1, acc ||| (xs[k]'hlt ^^^ ys[k]'(by omega)), by omega, rfl, ?_⟩
        simp (maxSteps := 10000000) (disch := omega) only [go_sem, ↓reduceIte, Nat.reduceLT, Nat.reduceLeDiff, Nat.reduceEqDiff, Nat.reduceAdd, BitVec.reduceOfInt, BitVec.reduceBEq, BitVec.reduceBNe, BitVec.reduceEq, BitVec.reduceNe, Bool.true_eq_false, Bool.false_eq_true, beq_self_eq_true, Option.map_some, Option.map_none, Option.bind_some, List.getElem?_cons_zero, List.getElem?_cons_succ, List.getElem?_toArray, List.map_cons, List.map_nil, true_and, and_true, forall_const, ne_eq, not_true_eq_false, not_false_eq_true, false_implies, true_implies, reduceCtorEq, Int.toNat_natCast, List.length_map, decide_true, decide_false, h0, h1, h13]
        refine ⟨by push_cast; rfl, ?_⟩
        rw [BitVec.or_eq_zero_iff, BitVec.xor_eq_zero_iff, hacc]
        have hx : xs[k]? = some xs[k] := List.getElem?_eq_getElem hlt
        have hy : ys[k]? = some ys[k] := List.getElem?_eq_getElem (by omega)
        constructor
        · rintro ⟨h1, h2⟩ j hj
          rcases Nat.lt_succ_iff_lt_or_eq.1 hj with h3 | rfl
          · exact h1 j h3
          · rw [hx, hy, h2]
        · intro h1
          refine ⟨fun j hj => h1 j (by omega), ?_⟩
          have := h1 k (by omega)
          rw [hx, hy] at this
          exact Option.some.inj this
      · have hlt' : ¬ (k : Int) < (xs.length : Nat) := by omega
        simp (maxSteps := 10000000) (disch := omega) only [go_sem, ↓reduceIte, Nat.reduceLT, Nat.reduceLeDiff, Nat.reduceEqDiff, Nat.reduceAdd, BitVec.reduceOfInt, BitVec.reduceBEq, BitVec.reduceBNe, BitVec.reduceEq, BitVec.reduceNe, Bool.true_eq_false, Bool.false_eq_true, beq_self_eq_true, Option.map_some, Option.map_none, Option.bind_some, List.getElem?_cons_zero, List.getElem?_cons_succ, List.getElem?_toArray, List.map_cons, List.map_nil, true_and, and_true, forall_const, ne_eq, not_true_eq_false, not_false_eq_true, false_implies, true_implies, reduceCtorEq, Int.toNat_natCast, List.length_map, decide_true, decide_false, h0, h1, h13, h14, h5, hlt']
        have : (acc == 0#8) = decide (xs = ys) := by
          rw [Bool.eq_iff_iff]
          simp only [beq_iff_eq, decide_eq_true_eq]
          rw [hacc]
          constructor
          · intro h
            apply List.ext_getElem?
            intro j
            by_cases hj : j < k
            · exact h j hj
            · rw [List.getElem?_eq_none (by omega), List.getElem?_eq_none (by omega)]
          · rintro rfl j _; rfl
        rw [this]
    · refine ⟨0, 0#8, by omega, rfl, ?_⟩
      simp (maxSteps := 10000000) (disch := omega) only [go_sem, ↓reduceIte, Nat.reduceLT, Nat.reduceLeDiff, Nat.reduceEqDiff, Nat.reduceAdd, BitVec.reduceOfInt, BitVec.reduceBEq, BitVec.reduceBNe, BitVec.reduceEq, BitVec.reduceNe, Bool.true_eq_false, Bool.false_eq_true, beq_self_eq_true, Option.map_some, Option.map_none, Option.bind_some, List.getElem?_cons_zero, List.getElem?_cons_succ, List.getElem?_toArray, List.map_cons, List.map_nil, true_and, and_true, forall_const, ne_eq, not_true_eq_false, not_false_eq_true, false_implies, true_implies, reduceCtorEq, Int.toNat_natCast, List.length_map, decide_true, decide_false]
      exact ⟨rfl, fun _ j hj => by omega, fun _ => trivial⟩

/-! ### Texts out of bytes -/

def textOf (xs : List (BitVec 8)) : ByteArray := ⟨(xs.map fun b => UInt8.ofNat b.toNat).toArray⟩

theorem strA_u8 : ∀ xs : List (BitVec 8), strA (xs.map u8) = some (xs.map fun b => UInt8.ofNat b.toNat)
  | [] => rfl
  | x :: xs => by
    have h := strA_u8 xs
    rw [List.map_cons]
    show (strA (xs.map u8)).map (UInt8.ofNat ((x.toNat : Nat) : Int).toNat :: ·) = _
    rw [h]
    simp

attribute [go_sem] Go.Proofs.Try.underlying9

theorem Ow.sl {H : Heap} {B : Nat} {v : Value} {xs : List (BitVec 8)} (h : Ow H B v xs) : Sl H v xs := OV.sv h

theorem conv_text {N : Nat} {H : Heap} {v : Value} {xs : List (BitVec 8)} (h : Sl H v xs) {K : Value → Heap → Prop} (hK : K (.string (textOf xs)) H) :
    convTo (some .string) (some (.slice 5)) v H K (restK Try.prog N 47 9 v H K) := by
  rcases h with ⟨rfl, he⟩ | ⟨i, o, c, rfl, hc, hx⟩
  · have : xs = [] := by simpa using he
    subst this
    exact ⟨_, H, .strNil 5 Try.underlying47 Try.underlying9 Try.underlying5 rfl, hK⟩
  · by_cases hne : xs = []
    · subst hne
      exact ⟨_, H, .str 5 [] true true i o 0 c [] Try.underlying47 Try.underlying9 Try.underlying5 (by simp) (fun h => absurd rfl h) (by simp [strA]) rfl, hK⟩
    · obtain ⟨vs, ex, tl, h1, h2, h3⟩ := hx (by simpa using hne)
      simp only [List.length_map] at h2
      have hcells : (vs.drop o).take xs.length = xs.map u8 := by
        apply List.ext_getElem?
        intro k
        rw [List.getElem?_take]
        split
        · rename_i hk
          rw [List.getElem?_drop]
          have := h3 k (u8 xs[k]) (by simp [hk])
          rw [this]; simp [hk]
        · rename_i hk
          rw [List.getElem?_eq_none (by simp; omega)]
      exact ⟨_, H, .str 5 vs ex tl i o xs.length c _ Try.underlying47 Try.underlying9 Try.underlying5 (by simp) (fun _ => ⟨h1, h2⟩) (by rw [hcells]; exact strA_u8 xs) (by simp), hK⟩

@[go_sem] theorem bin_eql_s {P : Program} (t : TypeId) (a b : ByteArray) : binA P .eql t (.string a) (.string b) = some (.bool (a.toList == b.toList)) := (rfl)
@[go_sem] theorem bin_neq_s {P : Program} (t : TypeId) (a b : ByteArray) : binA P .neq t (.string a) (.string b) = some (.bool !(a.toList == b.toList)) := (rfl)

end Go.Proofs.Ytcapjjmikapmfaa.M
