/- The law WordTurns. -/
import Derived.Test.YtcapjjmikapmfaaSc
import Derived.Test.YtcapjjmikapmfaaSb
set_option linter.unusedVariables false
set_option linter.unusedSimpArgs false
namespace Go.Proofs.Ytcapjjmikapmfaa.M
open Go Go.Proofs

theorem awake1_fun (H : Heap) : Fun Try.prog 38 [] H (fun r _ => r = .bool true) := by
  refine fun_of Try.func38 rfl (by decide +kernel) (Nat.le_of_ble_eq_true rfl) ?_
  unfold Try.f38
  simp (maxSteps := 10000000) (disch := omega) only [go_sem, ↓reduceIte, Nat.reduceLT, Nat.reduceLeDiff, Nat.reduceEqDiff, Nat.reduceAdd, BitVec.reduceOfInt, BitVec.reduceBEq, BitVec.reduceBNe, BitVec.reduceEq, BitVec.reduceNe, Bool.true_eq_false, Bool.false_eq_true, beq_self_eq_true, Option.map_some, Option.map_none, Option.bind_some, List.getElem?_cons_zero, List.getElem?_cons_succ, List.getElem?_toArray, List.map_cons, List.map_nil, true_and, and_true, forall_const, ne_eq, not_true_eq_false, not_false_eq_true, false_implies, true_implies, reduceCtorEq, Int.toNat_natCast, List.length_map, decide_true, decide_false]
  refine (putHigh32_fun _ _).call (Nat.le_refl _) ?_
  intro v H1 h1 h2 h3
  simp (maxSteps := 10000000) (disch := omega) only [go_sem, ↓reduceIte, Nat.reduceLT, Nat.reduceLeDiff, Nat.reduceEqDiff, Nat.reduceAdd, BitVec.reduceOfInt, BitVec.reduceBEq, BitVec.reduceBNe, BitVec.reduceEq, BitVec.reduceNe, Bool.true_eq_false, Bool.false_eq_true, beq_self_eq_true, Option.map_some, Option.map_none, Option.bind_some, List.getElem?_cons_zero, List.getElem?_cons_succ, List.getElem?_toArray, List.map_cons, List.map_nil, true_and, and_true, forall_const, ne_eq, not_true_eq_false, not_false_eq_true, false_implies, true_implies, reduceCtorEq, Int.toNat_natCast, List.length_map, decide_true, decide_false]
  refine conv_text h3.sl ?_
  have e : ((textOf (lowBytes ((rev32 258#32).setWidth 64) 4)).toList == (ByteArray.mk #[0, 0, 1, 2]).toList) = true := by kernel_rfl
  simp (maxSteps := 10000000) (disch := omega) only [go_sem, ↓reduceIte, Nat.reduceLT, Nat.reduceLeDiff, Nat.reduceEqDiff, Nat.reduceAdd, BitVec.reduceOfInt, BitVec.reduceBEq, BitVec.reduceBNe, BitVec.reduceEq, BitVec.reduceNe, Bool.true_eq_false, Bool.false_eq_true, beq_self_eq_true, Option.map_some, Option.map_none, Option.bind_some, List.getElem?_cons_zero, List.getElem?_cons_succ, List.getElem?_toArray, List.map_cons, List.map_nil, true_and, and_true, forall_const, ne_eq, not_true_eq_false, not_false_eq_true, false_implies, true_implies, reduceCtorEq, Int.toNat_natCast, List.length_map, decide_true, decide_false, e]
  refine (left_fun _ _).call h1 ?_
  have e2 : (rot 2147483648#32 ((1 : Int).tmod 32) == 1#32) = true := by kernel_rfl
  simp (maxSteps := 10000000) (disch := omega) only [go_sem, ↓reduceIte, Nat.reduceLT, Nat.reduceLeDiff, Nat.reduceEqDiff, Nat.reduceAdd, BitVec.reduceOfInt, BitVec.reduceBEq, BitVec.reduceBNe, BitVec.reduceEq, BitVec.reduceNe, Bool.true_eq_false, Bool.false_eq_true, beq_self_eq_true, Option.map_some, Option.map_none, Option.bind_some, List.getElem?_cons_zero, List.getElem?_cons_succ, List.getElem?_toArray, List.map_cons, List.map_nil, true_and, and_true, forall_const, ne_eq, not_true_eq_false, not_false_eq_true, false_implies, true_implies, reduceCtorEq, Int.toNat_natCast, List.length_map, decide_true, decide_false, e2]
  refine (equal_fun (Sl.nil _) (Sl.nil _) (by simp)).call h1 ?_
  rintro _ _ _ _ ⟨rfl, rfl⟩
  simp (maxSteps := 10000000) (disch := omega) only [go_sem, ↓reduceIte, Nat.reduceLT, Nat.reduceLeDiff, Nat.reduceEqDiff, Nat.reduceAdd, BitVec.reduceOfInt, BitVec.reduceBEq, BitVec.reduceBNe, BitVec.reduceEq, BitVec.reduceNe, Bool.true_eq_false, Bool.false_eq_true, beq_self_eq_true, Option.map_some, Option.map_none, Option.bind_some, List.getElem?_cons_zero, List.getElem?_cons_succ, List.getElem?_toArray, List.map_cons, List.map_nil, true_and, and_true, forall_const, ne_eq, not_true_eq_false, not_false_eq_true, false_implies, true_implies, reduceCtorEq, Int.toNat_natCast, List.length_map, decide_true, decide_false]

/-! ### Turns, bit by bit -/

theorem and31 (n : Int) : (BitVec.ofInt 64 n &&& 31#64).toNat = (n % 32).toNat := by
  have h : (31#64 : BitVec 64).toNat = 2 ^ 5 - 1 := rfl
  rw [BitVec.toNat_and, h, Nat.and_two_pow_sub_one_eq_mod, BitVec.toNat_ofInt]
  omega

theorem rot_bit (x : BitVec 32) (n : Int) (i : Nat) (hi : i < 32) : (rot x n).getLsbD i = x.getLsbD (((i : Int) - n) % 32).toNat := by
  have h1 := Int.emod_nonneg n (by omega : (32 : Int) ≠ 0)
  have h2 := Int.emod_lt_of_pos n (by omega : (0 : Int) < 32)
  obtain ⟨k, hk⟩ : ∃ k : Nat, (k : Int) = n % 32 := ⟨(n % 32).toNat, by omega⟩
  have hk32 : k < 32 := by omega
  have e1 : (BitVec.ofInt 64 n &&& 31#64).toNat = k := by rw [and31]; omega
  have e2 : (32#64 - (BitVec.ofInt 64 n &&& 31#64)).toNat = 32 - k := by
    rw [BitVec.toNat_sub, e1, BitVec.toNat_ofNat]
    omega
  unfold rot
  rw [e1, e2, BitVec.getLsbD_or, BitVec.getLsbD_shiftLeft, BitVec.getLsbD_ushiftRight]
  by_cases h : i < k
  · have e3 : (((i : Int) - n) % 32).toNat = 32 - k + i := by omega
    simp [h, e3]
  · have e3 : (((i : Int) - n) % 32).toNat = i - k := by omega
    have e4 : x.getLsbD (32 - k + i) = false := BitVec.getLsbD_of_ge _ _ (by omega)
    simp [h, e3, e4, hi]

theorem rot_eq {x y : BitVec 32} {m n : Int} (h : ∀ i : Nat, i < 32 → x.getLsbD (((i : Int) - m) % 32).toNat = y.getLsbD (((i : Int) - n) % 32).toNat) : rot x m = rot y n := by
  apply BitVec.eq_of_getLsbD_eq
  intro i hi
  rw [rot_bit x m i hi, rot_bit y n i hi]
  exact h i hi

theorem tmod_emod (n m : Int) : n.tmod m % m = n % m := by
  rw [Int.tmod_eq_emod]
  split
  · simp
  · have : (m : Int) ∣ (m.natAbs : Int) := Int.dvd_natAbs.2 (Int.dvd_refl m)
    rw [Int.sub_emod, Int.emod_eq_zero_of_dvd this]
    simp

theorem rot_same {x : BitVec 32} {m n : Int} (h : m % 32 = n % 32) : rot x m = rot x n := rot_eq fun i _ => by
  have : ((i : Int) - m) % 32 = ((i : Int) - n) % 32 := by omega
  rw [this]

theorem rot_rot (x : BitVec 32) (m n : Int) : rot (rot x m) n = rot x (m + n) := by
  apply BitVec.eq_of_getLsbD_eq
  intro i hi
  rw [rot_bit _ n i hi, rot_bit _ (m + n) i hi, rot_bit x m _ (by omega)]
  congr 1
  omega

/-- How many bits are set among the first. -/
def bits (x : BitVec 32) (k : Nat) : Nat := ((List.range k).map fun i => (x >>> i &&& 1#32).toNat).sum

theorem bits_succ (x : BitVec 32) (k : Nat) : bits x (k + 1) = bits x k + (x >>> k &&& 1#32).toNat := by simp [bits, List.range_succ]

theorem bit_val (x : BitVec 32) (i : Nat) : (x >>> i &&& 1#32).toNat = (x.getLsbD i).toNat := by
  rw [BitVec.and_one_eq_setWidth_ofBool_getLsbD, BitVec.getLsbD_ushiftRight, Nat.add_zero]
  cases x.getLsbD i <;> rfl

theorem turn_perm : ∀ k : Nat, k < 32 → ((List.range 32).map fun i => (i + k) % 32).isPerm (List.range 32) = true := by decide

theorem bits_rot (x : BitVec 32) (n : Int) : bits (rot x n) 32 = bits x 32 := by
  have h1 := Int.emod_nonneg (-n) (by omega : (32 : Int) ≠ 0)
  have h2 := Int.emod_lt_of_pos (-n) (by omega : (0 : Int) < 32)
  have hp := List.isPerm_iff.1 (turn_perm ((-n) % 32).toNat (by omega))
  have hs := (hp.map fun i => (x.getLsbD i).toNat).sum_nat
  have g1 : ((List.range 32).map fun i => (x >>> i &&& 1#32).toNat) = (List.range 32).map fun i => (x.getLsbD i).toNat := List.map_congr_left fun i _ => bit_val x i
  have g2 : ((List.range 32).map fun i => (rot x n >>> i &&& 1#32).toNat) = ((List.range 32).map fun i => (i + ((-n) % 32).toNat) % 32).map fun i => (x.getLsbD i).toNat := by
    rw [List.map_map]
    refine List.map_congr_left fun i hi => ?_
    have hi' := List.mem_range.1 hi
    have hj : (((i : Int) - n) % 32).toNat = (i + ((-n) % 32).toNat) % 32 := by omega
    rw [bit_val, rot_bit x n i hi', hj]
    rfl
  unfold bits
  rw [g1, g2, hs]

@[go_sem] theorem toNat_ofInt64 (k : Nat) (h : k < 18446744073709551616) : (BitVec.ofInt 64 (k : Nat)).toNat = k := by
  rw [BitVec.ofInt_natCast, BitVec.toNat_ofNat]; omega

def turnsInv (x y : BitVec 32) (a b : Int) (H : Heap) (m : Nat) (f : AAct) (H1 : Heap) : Prop :=
  ∃ k : Nat, k + m = 32 ∧ H1 = H ∧ f 0 = u32 x ∧ f 1 = .int .i64 a ∧ f 2 = .int .i64 b ∧ f 9 = u32 y ∧ f 18 = .int .i64 (k : Nat) ∧ f 7 = .int .i64 (bits x k : Nat) ∧ f 8 = .int .i64 (bits y k : Nat)

theorem bits_le (x : BitVec 32) : ∀ k, bits x k ≤ k
  | 0 => by simp [bits]
  | k + 1 => by
    have := bits_le x k
    rw [bits_succ, bit_val]
    have : (x.getLsbD k).toNat ≤ 1 := Bool.toNat_le _
    omega

set_option maxRecDepth 20000 in
set_option maxHeartbeats 4000000 in
theorem wordTurns_fun {H : Heap} (x : BitVec 32) (a : Int) (ha : I64 a) (b : Int) (hb : I64 b) : Fun Try.prog 4 [u32 x, .int .i64 a, .int .i64 b] H fun v _ => v = .bool true := by
  have ha' := tmod_bound a 1000 (by omega)
  have hb' := tmod_bound b 1000 (by omega)
  obtain ⟨a', rfl⟩ : ∃ a', a' = a.tmod 1000 := ⟨_, rfl⟩
  refine fun_of Try.func4 rfl (by decide +kernel) (Nat.le_of_ble_eq_true rfl) ?_
  unfold Try.f4
  simp (maxSteps := 10000000) (disch := omega) only [go_sem, ↓reduceIte, Nat.reduceLT, Nat.reduceLeDiff, Nat.reduceEqDiff, Nat.reduceAdd, BitVec.reduceOfInt, BitVec.reduceBEq, BitVec.reduceBNe, BitVec.reduceEq, BitVec.reduceNe, Bool.true_eq_false, Bool.false_eq_true, beq_self_eq_true, Option.map_some, Option.map_none, Option.bind_some, List.getElem?_cons_zero, List.getElem?_cons_succ, List.getElem?_toArray, List.map_cons, List.map_nil, true_and, and_true, forall_const, ne_eq, not_true_eq_false, not_false_eq_true, false_implies, true_implies, reduceCtorEq, Int.toNat_natCast, List.length_map, decide_true, decide_false]
  generalize a.tmod 1000 = a at *
  generalize b.tmod 1000 = b at *
  refine (left_fun _ _).call (Nat.le_refl _) ?_
  simp (maxSteps := 10000000) (disch := omega) only [go_sem, ↓reduceIte, Nat.reduceLT, Nat.reduceLeDiff, Nat.reduceEqDiff, Nat.reduceAdd, BitVec.reduceOfInt, BitVec.reduceBEq, BitVec.reduceBNe, BitVec.reduceEq, BitVec.reduceNe, Bool.true_eq_false, Bool.false_eq_true, beq_self_eq_true, Option.map_some, Option.map_none, Option.bind_some, List.getElem?_cons_zero, List.getElem?_cons_succ, List.getElem?_toArray, List.map_cons, List.map_nil, true_and, and_true, forall_const, ne_eq, not_true_eq_false, not_false_eq_true, false_implies, true_implies, reduceCtorEq, Int.toNat_natCast, List.length_map, decide_true, decide_false]
  refine wp_loop (turnsInv x (rot x (a.tmod 32)) a b H) ?_ 32 ?_
  · rintro m f H1 ⟨k, hk, rfl, h0, h1, h2, h9, h18, h7, h8⟩
    simp (maxSteps := 10000000) (disch := omega) only [go_sem, ↓reduceIte, Nat.reduceLT, Nat.reduceLeDiff, Nat.reduceEqDiff, Nat.reduceAdd, BitVec.reduceOfInt, BitVec.reduceBEq, BitVec.reduceBNe, BitVec.reduceEq, BitVec.reduceNe, Bool.true_eq_false, Bool.false_eq_true, beq_self_eq_true, Option.map_some, Option.map_none, Option.bind_some, List.getElem?_cons_zero, List.getElem?_cons_succ, List.getElem?_toArray, List.map_cons, List.map_nil, true_and, and_true, forall_const, ne_eq, not_true_eq_false, not_false_eq_true, false_implies, true_implies, reduceCtorEq, Int.toNat_natCast, List.length_map, decide_true, decide_false, h0, h1, h2, h9, h18, h7, h8]
    by_cases hlt : k < 32
    · have hlt' : (k : Int) < 32 := by omega
      have b1 := bits_le x k
      have b2 := bits_le (rot x (a.tmod 32)) k
      have c1 : (x >>> k &&& 1#32).toNat ≤ 1 := by rw [bit_val]; exact Bool.toNat_le _
      have c2 : ((rot x (a.tmod 32)) >>> k &&& 1#32).toNat ≤ 1 := by rw [bit_val]; exact Bool.toNat_le _
      simp (maxSteps := 10000000) (disch := omega) only [go_sem, ↓reduceIte, Nat.reduceLT, Nat.reduceLeDiff, Nat.reduceEqDiff, Nat.reduceAdd, BitVec.reduceOfInt, BitVec.reduceBEq, BitVec.reduceBNe, BitVec.reduceEq, BitVec.reduceNe, Bool.true_eq_false, Bool.false_eq_true, beq_self_eq_true, Option.map_some, Option.map_none, Option.bind_some, List.getElem?_cons_zero, List.getElem?_cons_succ, List.getElem?_toArray, List.map_cons, List.map_nil, true_and, and_true, forall_const, ne_eq, not_true_eq_false, not_false_eq_true, false_implies, true_implies, reduceCtorEq, Int.toNat_natCast, List.length_map, decide_true, decide_false, h0, h1, h2, h9, h18, h7, h8, hlt', wrap_i64]
      refine ⟨m - 1, by omega, k + 1, by omega, rfl, ?_⟩
      simp (maxSteps := 10000000) (disch := omega) only [go_sem, ↓reduceIte, Nat.reduceLT, Nat.reduceLeDiff, Nat.reduceEqDiff, Nat.reduceAdd, BitVec.reduceOfInt, BitVec.reduceBEq, BitVec.reduceBNe, BitVec.reduceEq, BitVec.reduceNe, Bool.true_eq_false, Bool.false_eq_true, beq_self_eq_true, Option.map_some, Option.map_none, Option.bind_some, List.getElem?_cons_zero, List.getElem?_cons_succ, List.getElem?_toArray, List.map_cons, List.map_nil, true_and, and_true, forall_const, ne_eq, not_true_eq_false, not_false_eq_true, false_implies, true_implies, reduceCtorEq, Int.toNat_natCast, List.length_map, decide_true, decide_false, h0, h1, h2, h9, h18, h7, h8]
      refine ⟨by push_cast; rfl, by rw [bits_succ]; push_cast; rfl, by rw [bits_succ]; push_cast; rfl⟩
    · have hlt' : ¬ (k : Int) < 32 := by omega
      have hk32 : k = 32 := by omega
      subst hk32
      have e1 := bits_rot x (a.tmod 32)
      have e2 : rot (rot x (a.tmod 32)) (b.tmod 32) = rot x ((a + b).tmod 32) := by
        rw [rot_rot]
        apply rot_same
        have := tmod_emod a 32
        have := tmod_emod b 32
        have := tmod_emod (a + b) 32
        omega
      have e3 : rot x (-(a.tmod 32)) = rot x ((-a).tmod 32) := by
        apply rot_same
        have := tmod_emod a 32
        have := tmod_emod (-a) 32
        omega
      have e4 : rot x ((a + 32).tmod 32) = rot x (a.tmod 32) := by
        apply rot_same
        have := tmod_emod a 32
        have := tmod_emod (a + 32) 32
        omega
      simp (maxSteps := 10000000) (disch := omega) only [go_sem, ↓reduceIte, Nat.reduceLT, Nat.reduceLeDiff, Nat.reduceEqDiff, Nat.reduceAdd, BitVec.reduceOfInt, BitVec.reduceBEq, BitVec.reduceBNe, BitVec.reduceEq, BitVec.reduceNe, Bool.true_eq_false, Bool.false_eq_true, beq_self_eq_true, Option.map_some, Option.map_none, Option.bind_some, List.getElem?_cons_zero, List.getElem?_cons_succ, List.getElem?_toArray, List.map_cons, List.map_nil, true_and, and_true, forall_const, ne_eq, not_true_eq_false, not_false_eq_true, false_implies, true_implies, reduceCtorEq, Int.toNat_natCast, List.length_map, decide_true, decide_false, h0, h1, h2, h9, h18, h7, h8, hlt', e1]
      refine (left_fun _ _).call (Nat.le_refl _) ?_
      simp (maxSteps := 10000000) (disch := omega) only [go_sem, ↓reduceIte, Nat.reduceLT, Nat.reduceLeDiff, Nat.reduceEqDiff, Nat.reduceAdd, BitVec.reduceOfInt, BitVec.reduceBEq, BitVec.reduceBNe, BitVec.reduceEq, BitVec.reduceNe, Bool.true_eq_false, Bool.false_eq_true, beq_self_eq_true, Option.map_some, Option.map_none, Option.bind_some, List.getElem?_cons_zero, List.getElem?_cons_succ, List.getElem?_toArray, List.map_cons, List.map_nil, true_and, and_true, forall_const, ne_eq, not_true_eq_false, not_false_eq_true, false_implies, true_implies, reduceCtorEq, Int.toNat_natCast, List.length_map, decide_true, decide_false, h0, h1, h2, h9, h18, h7, h8]
      refine (left_fun _ _).call (Nat.le_refl _) ?_
      simp (maxSteps := 10000000) (disch := omega) only [go_sem, ↓reduceIte, Nat.reduceLT, Nat.reduceLeDiff, Nat.reduceEqDiff, Nat.reduceAdd, BitVec.reduceOfInt, BitVec.reduceBEq, BitVec.reduceBNe, BitVec.reduceEq, BitVec.reduceNe, Bool.true_eq_false, Bool.false_eq_true, beq_self_eq_true, Option.map_some, Option.map_none, Option.bind_some, List.getElem?_cons_zero, List.getElem?_cons_succ, List.getElem?_toArray, List.map_cons, List.map_nil, true_and, and_true, forall_const, ne_eq, not_true_eq_false, not_false_eq_true, false_implies, true_implies, reduceCtorEq, Int.toNat_natCast, List.length_map, decide_true, decide_false, h0, h1, h2, h9, h18, h7, h8, wrap_i64]
      refine (left_fun _ _).call (Nat.le_refl _) ?_
      simp (maxSteps := 10000000) (disch := omega) only [go_sem, ↓reduceIte, Nat.reduceLT, Nat.reduceLeDiff, Nat.reduceEqDiff, Nat.reduceAdd, BitVec.reduceOfInt, BitVec.reduceBEq, BitVec.reduceBNe, BitVec.reduceEq, BitVec.reduceNe, Bool.true_eq_false, Bool.false_eq_true, beq_self_eq_true, Option.map_some, Option.map_none, Option.bind_some, List.getElem?_cons_zero, List.getElem?_cons_succ, List.getElem?_toArray, List.map_cons, List.map_nil, true_and, and_true, forall_const, ne_eq, not_true_eq_false, not_false_eq_true, false_implies, true_implies, reduceCtorEq, Int.toNat_natCast, List.length_map, decide_true, decide_false, h0, h1, h2, h9, h18, h7, h8, e2]
      refine (right_fun _ _ ⟨by omega, by omega⟩).call (Nat.le_refl _) ?_
      simp (maxSteps := 10000000) (disch := omega) only [go_sem, ↓reduceIte, Nat.reduceLT, Nat.reduceLeDiff, Nat.reduceEqDiff, Nat.reduceAdd, BitVec.reduceOfInt, BitVec.reduceBEq, BitVec.reduceBNe, BitVec.reduceEq, BitVec.reduceNe, Bool.true_eq_false, Bool.false_eq_true, beq_self_eq_true, Option.map_some, Option.map_none, Option.bind_some, List.getElem?_cons_zero, List.getElem?_cons_succ, List.getElem?_toArray, List.map_cons, List.map_nil, true_and, and_true, forall_const, ne_eq, not_true_eq_false, not_false_eq_true, false_implies, true_implies, reduceCtorEq, Int.toNat_natCast, List.length_map, decide_true, decide_false, h0, h1, h2, h9, h18, h7, h8, wrap_i64, Int.zero_sub]
      refine (left_fun _ _).call (Nat.le_refl _) ?_
      simp (maxSteps := 10000000) (disch := omega) only [go_sem, ↓reduceIte, Nat.reduceLT, Nat.reduceLeDiff, Nat.reduceEqDiff, Nat.reduceAdd, BitVec.reduceOfInt, BitVec.reduceBEq, BitVec.reduceBNe, BitVec.reduceEq, BitVec.reduceNe, Bool.true_eq_false, Bool.false_eq_true, beq_self_eq_true, Option.map_some, Option.map_none, Option.bind_some, List.getElem?_cons_zero, List.getElem?_cons_succ, List.getElem?_toArray, List.map_cons, List.map_nil, true_and, and_true, forall_const, ne_eq, not_true_eq_false, not_false_eq_true, false_implies, true_implies, reduceCtorEq, Int.toNat_natCast, List.length_map, decide_true, decide_false, h0, h1, h2, h9, h18, h7, h8, e3, wrap_i64]
      refine (left_fun _ _).call (Nat.le_refl _) ?_
      simp (maxSteps := 10000000) (disch := omega) only [go_sem, ↓reduceIte, Nat.reduceLT, Nat.reduceLeDiff, Nat.reduceEqDiff, Nat.reduceAdd, BitVec.reduceOfInt, BitVec.reduceBEq, BitVec.reduceBNe, BitVec.reduceEq, BitVec.reduceNe, Bool.true_eq_false, Bool.false_eq_true, beq_self_eq_true, Option.map_some, Option.map_none, Option.bind_some, List.getElem?_cons_zero, List.getElem?_cons_succ, List.getElem?_toArray, List.map_cons, List.map_nil, true_and, and_true, forall_const, ne_eq, not_true_eq_false, not_false_eq_true, false_implies, true_implies, reduceCtorEq, Int.toNat_natCast, List.length_map, decide_true, decide_false, h0, h1, h2, h9, h18, h7, h8, e4]
      refine (awake1_fun _).call (Nat.le_refl _) ?_
      rintro _ H2 g1 g2 rfl
      simp (maxSteps := 10000000) (disch := omega) only [go_sem, ↓reduceIte, Nat.reduceLT, Nat.reduceLeDiff, Nat.reduceEqDiff, Nat.reduceAdd, BitVec.reduceOfInt, BitVec.reduceBEq, BitVec.reduceBNe, BitVec.reduceEq, BitVec.reduceNe, Bool.true_eq_false, Bool.false_eq_true, beq_self_eq_true, Option.map_some, Option.map_none, Option.bind_some, List.getElem?_cons_zero, List.getElem?_cons_succ, List.getElem?_toArray, List.map_cons, List.map_nil, true_and, and_true, forall_const, ne_eq, not_true_eq_false, not_false_eq_true, false_implies, true_implies, reduceCtorEq, Int.toNat_natCast, List.length_map, decide_true, decide_false]
  · refine ⟨0, by omega, rfl, ?_⟩
    simp (maxSteps := 10000000) (disch := omega) only [go_sem, ↓reduceIte, Nat.reduceLT, Nat.reduceLeDiff, Nat.reduceEqDiff, Nat.reduceAdd, BitVec.reduceOfInt, BitVec.reduceBEq, BitVec.reduceBNe, BitVec.reduceEq, BitVec.reduceNe, Bool.true_eq_false, Bool.false_eq_true, beq_self_eq_true, Option.map_some, Option.map_none, Option.bind_some, List.getElem?_cons_zero, List.getElem?_cons_succ, List.getElem?_toArray, List.map_cons, List.map_nil, true_and, and_true, forall_const, ne_eq, not_true_eq_false, not_false_eq_true, false_implies, true_implies, reduceCtorEq, Int.toNat_natCast, List.length_map, decide_true, decide_false]
    exact ⟨rfl, rfl, rfl⟩

end Go.Proofs.Ytcapjjmikapmfaa.M
