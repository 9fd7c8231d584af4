/- ChachaTwice, ChachaBlocks. -/
import Derived.Test.YtcapjjmikapmfaaYe
import Derived.Test.YtcapjjmikapmfaaSb
set_option linter.unusedVariables false
set_option linter.unusedSimpArgs false
namespace Go.Proofs.Ytcapjjmikapmfaa.M
open Go Go.Proofs

/-! ### The stream -/

def cst (key nonce : List (BitVec 8)) (n : BitVec 32) : Nat → List (BitVec 8)
  | 0 => []
  | j + 1 => cst key nonce n j ++ cblock key nonce (n + BitVec.ofNat 32 j)
theorem cst_length (key nonce : List (BitVec 8)) (n : BitVec 32) : ∀ j, (cst key nonce n j).length = 64 * j
  | 0 => rfl
  | j + 1 => by rw [cst, List.length_append, cst_length key nonce n j, cblock_length]; omega

theorem xorB_over {xs ys zs : List (BitVec 8)} (h : xs.length ≤ ys.length) : xorB xs (ys ++ zs) = xorB xs ys := by
  apply List.ext_getElem
  · simp [xorB]; omega
  · intro i h1 h2
    simp [xorB] at h1 h2
    simp [xorB, List.getElem_append_left (show i < ys.length by omega)]

theorem cxs_st (key nonce : List (BitVec 8)) (n : BitVec 32) (b : List (BitVec 8)) : ∀ j, cxs key nonce n b j = xorB b (cst key nonce n j)
  | 0 => by simp [cxs, cst, xorB]
  | j + 1 => by
    rw [cxs, cst, cxs_st key nonce n b j, chunk, xorB_take (by rw [cblock_length]; omega)]
    have hl := cst_length key nonce n j
    by_cases h : b.length ≤ 64 * j
    · rw [xorB_over (by omega), List.drop_eq_nil_of_le (by omega)]
      simp [xorB]
    · have e : b = b.take (64 * j) ++ b.drop (64 * j) := (List.take_append_drop _ _).symm
      have e1 : xorB b (cst key nonce n j) = xorB (b.take (64 * j)) (cst key nonce n j) := (xorB_take (by omega)).symm
      rw [e1]
      conv => rhs; rw [e]
      unfold xorB
      rw [List.zipWith_append (by simp; omega)]

theorem cxor_st (key nonce : List (BitVec 8)) (n : BitVec 32) (b : List (BitVec 8)) : cxor key nonce n b = xorB b (cst key nonce n ((b.length + 63) / 64)) := cxs_st _ _ _ _ _
theorem cxor_length (key nonce : List (BitVec 8)) (n : BitVec 32) (b : List (BitVec 8)) : (cxor key nonce n b).length = b.length := by
  rw [cxor, cxs_length]; omega
theorem cxor_back (key nonce : List (BitVec 8)) (n : BitVec 32) (b : List (BitVec 8)) : cxor key nonce n (cxor key nonce n b) = b := by
  rw [cxor_st _ _ _ (cxor _ _ _ _), cxor_length, cxor_st, xorB_back, List.take_of_length_le]
  rw [cst_length]; omega

theorem cst_pre (key nonce : List (BitVec 8)) (n : BitVec 32) (i : Nat) : ∀ d, ∃ r, cst key nonce n (i + d) = cst key nonce n i ++ r
  | 0 => ⟨[], by simp⟩
  | d + 1 => by
    obtain ⟨r, e⟩ := cst_pre key nonce n i d
    exact ⟨r ++ cblock key nonce (n + BitVec.ofNat 32 (i + d)), by rw [← Nat.add_assoc, cst, e, List.append_assoc]⟩

theorem cxor_take (key nonce : List (BitVec 8)) (n : BitVec 32) (b : List (BitVec 8)) (i : Nat) (hi : i ≤ b.length) : cxor key nonce n (b.take i) = (cxor key nonce n b).take i := by
  rw [cxor_st, cxor_st]
  have hl : (b.take i).length = i := by simp; omega
  rw [hl]
  obtain ⟨r, e⟩ := cst_pre key nonce n ((i + 63) / 64) ((b.length + 63) / 64 - (i + 63) / 64)
  rw [show (i + 63) / 64 + ((b.length + 63) / 64 - (i + 63) / 64) = (b.length + 63) / 64 by omega] at e
  rw [e]
  unfold xorB
  rw [List.take_zipWith]
  have hc := cst_length key nonce n ((i + 63) / 64)
  rw [List.take_append_of_le_length (by omega)]
  apply List.ext_getElem
  · simp; omega
  · intro k h1 h2
    simp

theorem shift_one (n : BitVec 32) (j : Nat) : n + BitVec.ofNat 32 (j + 1) = n + 1#32 + BitVec.ofNat 32 j := by
  rw [BitVec.add_assoc]
  congr 1
  apply BitVec.eq_of_toNat_eq
  simp [BitVec.toNat_add, BitVec.toNat_ofNat]
  omega
theorem cst_shift (key nonce : List (BitVec 8)) (n : BitVec 32) (j : Nat) : cst key nonce n (j + 1) = cblock key nonce n ++ cst key nonce (n + 1#32) j := by
  induction j with
  | zero =>
    have e : n + BitVec.ofNat 32 0 = n := BitVec.add_zero n
    show [] ++ cblock key nonce (n + BitVec.ofNat 32 0) = cblock key nonce n ++ []
    rw [e, List.append_nil, List.nil_append]
  | succ j ih =>
    show cst key nonce n (j + 1) ++ cblock key nonce (n + BitVec.ofNat 32 (j + 1)) = cblock key nonce n ++ (cst key nonce (n + 1#32) j ++ cblock key nonce (n + 1#32 + BitVec.ofNat 32 j))
    have e := shift_one n j
    rw [ih, List.append_assoc, e]

theorem cxor_drop (key nonce : List (BitVec 8)) (n : BitVec 32) (b : List (BitVec 8)) (h : 64 ≤ b.length) : cxor key nonce (n + 1#32) (b.drop 64) = (cxor key nonce n b).drop 64 := by
  rw [cxor_st, cxor_st]
  have e : (b.length + 63) / 64 = ((b.drop 64).length + 63) / 64 + 1 := by rw [List.length_drop]; omega
  rw [e, cst_shift]
  unfold xorB
  rw [List.drop_zipWith, List.drop_append_of_le_length (by rw [cblock_length]; omega), show (cblock key nonce n).drop 64 = [] from List.drop_eq_nil_of_le (by rw [cblock_length]; omega), List.nil_append]

theorem xorB_zero (m : Nat) (ys : List (BitVec 8)) (h : m ≤ ys.length) : xorB (List.replicate m 0#8) ys = ys.take m := by
  apply List.ext_getElem
  · simp [xorB]
  · intro i h1 h2
    simp [xorB]

/-! ### ChachaTwice -/

set_option maxRecDepth 20000 in
set_option maxHeartbeats 4000000 in
theorem chachaTwice_fun {H : Heap} {v : Value} {key : List (BitVec 8)} (hv : Sl H v key) (hl : key.length ≤ 140737488351232) {v2 : Value} {nonce : List (BitVec 8)} (hv2 : Sl H v2 nonce) (hl2 : nonce.length ≤ 140737488351232) {v3 : Value} {bs : List (BitVec 8)} (hv3 : Sl H v3 bs) (hl3 : bs.length ≤ 140737488351232) (n : BitVec 32) (i : Int) (hi : I64 i) : Fun Try.prog 15 [v, v2, v3, u32 n, .int .i64 i] H fun r _ => r = .bool true := by
  refine fun_of Try.func15 rfl (by decide +kernel) (Nat.le_of_ble_eq_true rfl) ?_
  unfold Try.f15
  simp (maxSteps := 10000000) (disch := omega) only [go_sem, ↓reduceIte, Nat.reduceLT, Nat.reduceLeDiff, Nat.reduceEqDiff, Nat.reduceAdd, BitVec.reduceOfInt, BitVec.reduceSetWidth, BitVec.reduceBEq, BitVec.reduceBNe, BitVec.reduceEq, BitVec.reduceNe, Bool.true_eq_false, Bool.false_eq_true, beq_self_eq_true, Option.map_some, Option.map_none, Option.bind_some, List.getElem?_cons_zero, List.getElem?_cons_succ, List.getElem?_toArray, List.map_cons, List.map_nil, true_and, and_true, forall_const, ne_eq, not_true_eq_false, not_false_eq_true, false_implies, true_implies, reduceCtorEq, Int.reduceToNat, Int.cast_ofNat_Int, Int.natCast_zero, Int.natCast_one, bne_self_eq_false, Int.reduceLT, Int.reduceLE, Int.reduceEq, Int.reduceNe, Bool.not_true, Bool.not_false, if_true, if_false, false_and, and_false, or_false, or_true, true_or, false_or, List.length_cons, List.length_nil, Int.toNat_natCast, List.length_map, decide_true, decide_false, hv3.len]
  by_cases g1 : (500 : Int) < bs.length
  · simp (maxSteps := 10000000) (disch := omega) only [go_sem, ↓reduceIte, Nat.reduceLT, Nat.reduceLeDiff, Nat.reduceEqDiff, Nat.reduceAdd, BitVec.reduceOfInt, BitVec.reduceSetWidth, BitVec.reduceBEq, BitVec.reduceBNe, BitVec.reduceEq, BitVec.reduceNe, Bool.true_eq_false, Bool.false_eq_true, beq_self_eq_true, Option.map_some, Option.map_none, Option.bind_some, List.getElem?_cons_zero, List.getElem?_cons_succ, List.getElem?_toArray, List.map_cons, List.map_nil, true_and, and_true, forall_const, ne_eq, not_true_eq_false, not_false_eq_true, false_implies, true_implies, reduceCtorEq, Int.reduceToNat, Int.cast_ofNat_Int, Int.natCast_zero, Int.natCast_one, bne_self_eq_false, Int.reduceLT, Int.reduceLE, Int.reduceEq, Int.reduceNe, Bool.not_true, Bool.not_false, if_true, if_false, false_and, and_false, or_false, or_true, true_or, false_or, List.length_cons, List.length_nil, Int.toNat_natCast, List.length_map, decide_true, decide_false, g1]
    refine awake7_fun.call (Nat.le_refl _) ?_
    simp (maxSteps := 10000000) (disch := omega) only [go_sem, ↓reduceIte, Nat.reduceLT, Nat.reduceLeDiff, Nat.reduceEqDiff, Nat.reduceAdd, BitVec.reduceOfInt, BitVec.reduceSetWidth, BitVec.reduceBEq, BitVec.reduceBNe, BitVec.reduceEq, BitVec.reduceNe, Bool.true_eq_false, Bool.false_eq_true, beq_self_eq_true, Option.map_some, Option.map_none, Option.bind_some, List.getElem?_cons_zero, List.getElem?_cons_succ, List.getElem?_toArray, List.map_cons, List.map_nil, true_and, and_true, forall_const, ne_eq, not_true_eq_false, not_false_eq_true, false_implies, true_implies, reduceCtorEq, Int.reduceToNat, Int.cast_ofNat_Int, Int.natCast_zero, Int.natCast_one, bne_self_eq_false, Int.reduceLT, Int.reduceLE, Int.reduceEq, Int.reduceNe, Bool.not_true, Bool.not_false, if_true, if_false, false_and, and_false, or_false, or_true, true_or, false_or, List.length_cons, List.length_nil, Int.toNat_natCast, List.length_map, decide_true, decide_false]
  · simp (maxSteps := 10000000) (disch := omega) only [go_sem, ↓reduceIte, Nat.reduceLT, Nat.reduceLeDiff, Nat.reduceEqDiff, Nat.reduceAdd, BitVec.reduceOfInt, BitVec.reduceSetWidth, BitVec.reduceBEq, BitVec.reduceBNe, BitVec.reduceEq, BitVec.reduceNe, Bool.true_eq_false, Bool.false_eq_true, beq_self_eq_true, Option.map_some, Option.map_none, Option.bind_some, List.getElem?_cons_zero, List.getElem?_cons_succ, List.getElem?_toArray, List.map_cons, List.map_nil, true_and, and_true, forall_const, ne_eq, not_true_eq_false, not_false_eq_true, false_implies, true_implies, reduceCtorEq, Int.reduceToNat, Int.cast_ofNat_Int, Int.natCast_zero, Int.natCast_one, bne_self_eq_false, Int.reduceLT, Int.reduceLE, Int.reduceEq, Int.reduceNe, Bool.not_true, Bool.not_false, if_true, if_false, false_and, and_false, or_false, or_true, true_or, false_or, List.length_cons, List.length_nil, Int.toNat_natCast, List.length_map, decide_true, decide_false, g1]
    refine (bytes7_fun 32 (by omega) hv).call (Nat.le_refl _) ?_
    intro x1 H1 a1 a2 a3
    simp (maxSteps := 10000000) (disch := omega) only [go_sem, ↓reduceIte, Nat.reduceLT, Nat.reduceLeDiff, Nat.reduceEqDiff, Nat.reduceAdd, BitVec.reduceOfInt, BitVec.reduceSetWidth, BitVec.reduceBEq, BitVec.reduceBNe, BitVec.reduceEq, BitVec.reduceNe, Bool.true_eq_false, Bool.false_eq_true, beq_self_eq_true, Option.map_some, Option.map_none, Option.bind_some, List.getElem?_cons_zero, List.getElem?_cons_succ, List.getElem?_toArray, List.map_cons, List.map_nil, true_and, and_true, forall_const, ne_eq, not_true_eq_false, not_false_eq_true, false_implies, true_implies, reduceCtorEq, Int.reduceToNat, Int.cast_ofNat_Int, Int.natCast_zero, Int.natCast_one, bne_self_eq_false, Int.reduceLT, Int.reduceLE, Int.reduceEq, Int.reduceNe, Bool.not_true, Bool.not_false, if_true, if_false, false_and, and_false, or_false, or_true, true_or, false_or, List.length_cons, List.length_nil, Int.toNat_natCast, List.length_map, decide_true, decide_false]
    refine (bytes7_fun 12 (by omega) (hv2.keep_old2 a2)).call a1 ?_
    intro x2 H2 b1 b2 b3
    have k2 : ∀ j, j < H.size → H2[j]? = H[j]? := fun j hj => by rw [b2 j (by omega), a2 j hj]
    obtain ⟨kk, hkk⟩ : ∃ k, k = fit 32 key := ⟨_, rfl⟩
    obtain ⟨nn, hnn⟩ : ∃ k, k = fit 12 nonce := ⟨_, rfl⟩
    have kl : kk.length = 32 := by rw [hkk, fit_length]
    have nl : nn.length = 12 := by rw [hnn, fit_length]
    rw [← hkk] at a3
    rw [← hnn] at b3
    have s1 := a3.sl.keep_old2 b2
    have s2 := b3.sl
    have s3 := hv3.keep_old2 k2
    simp (maxSteps := 10000000) (disch := omega) only [go_sem, ↓reduceIte, Nat.reduceLT, Nat.reduceLeDiff, Nat.reduceEqDiff, Nat.reduceAdd, BitVec.reduceOfInt, BitVec.reduceSetWidth, BitVec.reduceBEq, BitVec.reduceBNe, BitVec.reduceEq, BitVec.reduceNe, Bool.true_eq_false, Bool.false_eq_true, beq_self_eq_true, Option.map_some, Option.map_none, Option.bind_some, List.getElem?_cons_zero, List.getElem?_cons_succ, List.getElem?_toArray, List.map_cons, List.map_nil, true_and, and_true, forall_const, ne_eq, not_true_eq_false, not_false_eq_true, false_implies, true_implies, reduceCtorEq, Int.reduceToNat, Int.cast_ofNat_Int, Int.natCast_zero, Int.natCast_one, bne_self_eq_false, Int.reduceLT, Int.reduceLE, Int.reduceEq, Int.reduceNe, Bool.not_true, Bool.not_false, if_true, if_false, false_and, and_false, or_false, or_true, true_or, false_or, List.length_cons, List.length_nil, Int.toNat_natCast, List.length_map, decide_true, decide_false]
    refine (cXor_fun n s1 s2 s3 (by omega)).call (by omega) ?_
    rintro r H3 c1 c2 q
    obtain ⟨w1, rfl, o1⟩ := q.1 ⟨kl, nl⟩
    have o1 := o1.sl
    simp (maxSteps := 10000000) (disch := omega) only [go_sem, ↓reduceIte, Nat.reduceLT, Nat.reduceLeDiff, Nat.reduceEqDiff, Nat.reduceAdd, BitVec.reduceOfInt, BitVec.reduceSetWidth, BitVec.reduceBEq, BitVec.reduceBNe, BitVec.reduceEq, BitVec.reduceNe, Bool.true_eq_false, Bool.false_eq_true, beq_self_eq_true, Option.map_some, Option.map_none, Option.bind_some, List.getElem?_cons_zero, List.getElem?_cons_succ, List.getElem?_toArray, List.map_cons, List.map_nil, true_and, and_true, forall_const, ne_eq, not_true_eq_false, not_false_eq_true, false_implies, true_implies, reduceCtorEq, Int.reduceToNat, Int.cast_ofNat_Int, Int.natCast_zero, Int.natCast_one, bne_self_eq_false, Int.reduceLT, Int.reduceLE, Int.reduceEq, Int.reduceNe, Bool.not_true, Bool.not_false, if_true, if_false, false_and, and_false, or_false, or_true, true_or, false_or, List.length_cons, List.length_nil, Int.toNat_natCast, List.length_map, decide_true, decide_false]
    refine (cXor_fun n (s1.keep_old2 c2) (s2.keep_old2 c2) o1 (by rw [cxor_length]; omega)).call (by omega) ?_
    rintro r H4 d1 d2 q
    obtain ⟨w2, rfl, o2⟩ := q.1 ⟨kl, nl⟩
    have o2 := o2.sl
    rw [cxor_back] at o2
    have k4 : ∀ j, j < H2.size → H4[j]? = H2[j]? := fun j hj => by rw [d2 j (by omega), c2 j hj]
    obtain ⟨d, hd, hd2⟩ : ∃ d : Nat, (BitVec.ofInt 64 i % BitVec.ofInt 64 ((bs.length : Int) + 1)).toInt = (d : Nat) ∧ d ≤ bs.length := by
      have w1 : (BitVec.ofInt 64 ((bs.length : Int) + 1)).toNat = bs.length + 1 := by rw [BitVec.toNat_ofInt]; omega
      have h1 : (BitVec.ofInt 64 i % BitVec.ofInt 64 ((bs.length : Int) + 1)).toNat < bs.length + 1 := by
        rw [BitVec.toNat_umod, w1]
        exact Nat.mod_lt _ (by omega)
      exact ⟨(BitVec.ofInt 64 i % BitVec.ofInt 64 ((bs.length : Int) + 1)).toNat, by rw [BitVec.toInt_eq_toNat_of_lt (by omega)], by omega⟩
    have hne : BitVec.ofInt 64 ((bs.length : Int) + 1) ≠ 0#64 := fun e => by
      have w1 : (BitVec.ofInt 64 ((bs.length : Int) + 1)).toNat = bs.length + 1 := by rw [BitVec.toNat_ofInt]; omega
      rw [e] at w1
      simp at w1
    have s3' := s3.keep_old2 k4
    obtain ⟨t, ht1, ht2, ht3⟩ := s3'.hi (k := (d : Nat)) (by omega) (by omega)
    rw [Int.toNat_natCast] at ht2
    simp (maxSteps := 10000000) (disch := omega) only [go_sem, ↓reduceIte, Nat.reduceLT, Nat.reduceLeDiff, Nat.reduceEqDiff, Nat.reduceAdd, BitVec.reduceOfInt, BitVec.reduceSetWidth, BitVec.reduceBEq, BitVec.reduceBNe, BitVec.reduceEq, BitVec.reduceNe, Bool.true_eq_false, Bool.false_eq_true, beq_self_eq_true, Option.map_some, Option.map_none, Option.bind_some, List.getElem?_cons_zero, List.getElem?_cons_succ, List.getElem?_toArray, List.map_cons, List.map_nil, true_and, and_true, forall_const, ne_eq, not_true_eq_false, not_false_eq_true, false_implies, true_implies, reduceCtorEq, Int.reduceToNat, Int.cast_ofNat_Int, Int.natCast_zero, Int.natCast_one, bne_self_eq_false, Int.reduceLT, Int.reduceLE, Int.reduceEq, Int.reduceNe, Bool.not_true, Bool.not_false, if_true, if_false, false_and, and_false, or_false, or_true, true_or, false_or, List.length_cons, List.length_nil, Int.toNat_natCast, List.length_map, decide_true, decide_false, hv3.len, wrap_i64, hne, hd, ht1]
    refine (cXor_fun n (s1.keep_old2 k4) (s2.keep_old2 k4) ht2 (by simp; omega)).call (by omega) ?_
    rintro r H5 e1 e2 q
    obtain ⟨w3, rfl, o3⟩ := q.1 ⟨kl, nl⟩
    have o3 := o3.sl
    rw [cxor_take _ _ _ _ _ hd2] at o3
    have k5 : ∀ j, j < H2.size → H5[j]? = H2[j]? := fun j hj => by rw [e2 j (by omega), k4 j hj]
    have o1' := (o1.keep_old2 d2).keep_old2 e2
    have l1 := o1'.len
    rw [cxor_length] at l1
    obtain ⟨t2, ht4, ht5, ht6⟩ := o1'.hi (k := (d : Nat)) (by omega) (by rw [cxor_length]; omega)
    rw [Int.toNat_natCast] at ht5
    simp (maxSteps := 10000000) (disch := omega) only [go_sem, ↓reduceIte, Nat.reduceLT, Nat.reduceLeDiff, Nat.reduceEqDiff, Nat.reduceAdd, BitVec.reduceOfInt, BitVec.reduceSetWidth, BitVec.reduceBEq, BitVec.reduceBNe, BitVec.reduceEq, BitVec.reduceNe, Bool.true_eq_false, Bool.false_eq_true, beq_self_eq_true, Option.map_some, Option.map_none, Option.bind_some, List.getElem?_cons_zero, List.getElem?_cons_succ, List.getElem?_toArray, List.map_cons, List.map_nil, true_and, and_true, forall_const, ne_eq, not_true_eq_false, not_false_eq_true, false_implies, true_implies, reduceCtorEq, Int.reduceToNat, Int.cast_ofNat_Int, Int.natCast_zero, Int.natCast_one, bne_self_eq_false, Int.reduceLT, Int.reduceLE, Int.reduceEq, Int.reduceNe, Bool.not_true, Bool.not_false, if_true, if_false, false_and, and_false, or_false, or_true, true_or, false_or, List.length_cons, List.length_nil, Int.toNat_natCast, List.length_map, decide_true, decide_false, hv3.len]
    refine draw_of 31 (by kernel_rfl) ?_
    simp (maxSteps := 10000000) (disch := omega) only [go_sem, ↓reduceIte, Nat.reduceLT, Nat.reduceLeDiff, Nat.reduceEqDiff, Nat.reduceAdd, BitVec.reduceOfInt, BitVec.reduceSetWidth, BitVec.reduceBEq, BitVec.reduceBNe, BitVec.reduceEq, BitVec.reduceNe, Bool.true_eq_false, Bool.false_eq_true, beq_self_eq_true, Option.map_some, Option.map_none, Option.bind_some, List.getElem?_cons_zero, List.getElem?_cons_succ, List.getElem?_toArray, List.map_cons, List.map_nil, true_and, and_true, forall_const, ne_eq, not_true_eq_false, not_false_eq_true, false_implies, true_implies, reduceCtorEq, Int.reduceToNat, Int.cast_ofNat_Int, Int.natCast_zero, Int.natCast_one, bne_self_eq_false, Int.reduceLT, Int.reduceLE, Int.reduceEq, Int.reduceNe, Bool.not_true, Bool.not_false, if_true, if_false, false_and, and_false, or_false, or_true, true_or, false_or, List.length_cons, List.length_nil, Int.toNat_natCast, List.length_map, decide_true, decide_false, hv3.len]
    refine conv_text (o2.keep_old2 e2) ?_
    simp (maxSteps := 10000000) (disch := omega) only [go_sem, ↓reduceIte, Nat.reduceLT, Nat.reduceLeDiff, Nat.reduceEqDiff, Nat.reduceAdd, BitVec.reduceOfInt, BitVec.reduceSetWidth, BitVec.reduceBEq, BitVec.reduceBNe, BitVec.reduceEq, BitVec.reduceNe, Bool.true_eq_false, Bool.false_eq_true, beq_self_eq_true, Option.map_some, Option.map_none, Option.bind_some, List.getElem?_cons_zero, List.getElem?_cons_succ, List.getElem?_toArray, List.map_cons, List.map_nil, true_and, and_true, forall_const, ne_eq, not_true_eq_false, not_false_eq_true, false_implies, true_implies, reduceCtorEq, Int.reduceToNat, Int.cast_ofNat_Int, Int.natCast_zero, Int.natCast_one, bne_self_eq_false, Int.reduceLT, Int.reduceLE, Int.reduceEq, Int.reduceNe, Bool.not_true, Bool.not_false, if_true, if_false, false_and, and_false, or_false, or_true, true_or, false_or, List.length_cons, List.length_nil, Int.toNat_natCast, List.length_map, decide_true, decide_false]
    refine conv_text (s3.keep_old2 k5) ?_
    simp (maxSteps := 10000000) (disch := omega) only [go_sem, ↓reduceIte, Nat.reduceLT, Nat.reduceLeDiff, Nat.reduceEqDiff, Nat.reduceAdd, BitVec.reduceOfInt, BitVec.reduceSetWidth, BitVec.reduceBEq, BitVec.reduceBNe, BitVec.reduceEq, BitVec.reduceNe, Bool.true_eq_false, Bool.false_eq_true, beq_self_eq_true, Option.map_some, Option.map_none, Option.bind_some, List.getElem?_cons_zero, List.getElem?_cons_succ, List.getElem?_toArray, List.map_cons, List.map_nil, true_and, and_true, forall_const, ne_eq, not_true_eq_false, not_false_eq_true, false_implies, true_implies, reduceCtorEq, Int.reduceToNat, Int.cast_ofNat_Int, Int.natCast_zero, Int.natCast_one, bne_self_eq_false, Int.reduceLT, Int.reduceLE, Int.reduceEq, Int.reduceNe, Bool.not_true, Bool.not_false, if_true, if_false, false_and, and_false, or_false, or_true, true_or, false_or, List.length_cons, List.length_nil, Int.toNat_natCast, List.length_map, decide_true, decide_false, l1, hv3.len]
    refine conv_text o3 ?_
    simp (maxSteps := 10000000) (disch := omega) only [go_sem, ↓reduceIte, Nat.reduceLT, Nat.reduceLeDiff, Nat.reduceEqDiff, Nat.reduceAdd, BitVec.reduceOfInt, BitVec.reduceSetWidth, BitVec.reduceBEq, BitVec.reduceBNe, BitVec.reduceEq, BitVec.reduceNe, Bool.true_eq_false, Bool.false_eq_true, beq_self_eq_true, Option.map_some, Option.map_none, Option.bind_some, List.getElem?_cons_zero, List.getElem?_cons_succ, List.getElem?_toArray, List.map_cons, List.map_nil, true_and, and_true, forall_const, ne_eq, not_true_eq_false, not_false_eq_true, false_implies, true_implies, reduceCtorEq, Int.reduceToNat, Int.cast_ofNat_Int, Int.natCast_zero, Int.natCast_one, bne_self_eq_false, Int.reduceLT, Int.reduceLE, Int.reduceEq, Int.reduceNe, Bool.not_true, Bool.not_false, if_true, if_false, false_and, and_false, or_false, or_true, true_or, false_or, List.length_cons, List.length_nil, Int.toNat_natCast, List.length_map, decide_true, decide_false, ht4]
    refine conv_text ht5 ?_
    simp (maxSteps := 10000000) (disch := omega) only [go_sem, ↓reduceIte, Nat.reduceLT, Nat.reduceLeDiff, Nat.reduceEqDiff, Nat.reduceAdd, BitVec.reduceOfInt, BitVec.reduceSetWidth, BitVec.reduceBEq, BitVec.reduceBNe, BitVec.reduceEq, BitVec.reduceNe, Bool.true_eq_false, Bool.false_eq_true, beq_self_eq_true, Option.map_some, Option.map_none, Option.bind_some, List.getElem?_cons_zero, List.getElem?_cons_succ, List.getElem?_toArray, List.map_cons, List.map_nil, true_and, and_true, forall_const, ne_eq, not_true_eq_false, not_false_eq_true, false_implies, true_implies, reduceCtorEq, Int.reduceToNat, Int.cast_ofNat_Int, Int.natCast_zero, Int.natCast_one, bne_self_eq_false, Int.reduceLT, Int.reduceLE, Int.reduceEq, Int.reduceNe, Bool.not_true, Bool.not_false, if_true, if_false, false_and, and_false, or_false, or_true, true_or, false_or, List.length_cons, List.length_nil, Int.toNat_natCast, List.length_map, decide_true, decide_false, hv3.len]
    by_cases g2 : (bs.length : Int) < 64
    · simp (maxSteps := 10000000) (disch := omega) only [go_sem, ↓reduceIte, Nat.reduceLT, Nat.reduceLeDiff, Nat.reduceEqDiff, Nat.reduceAdd, BitVec.reduceOfInt, BitVec.reduceSetWidth, BitVec.reduceBEq, BitVec.reduceBNe, BitVec.reduceEq, BitVec.reduceNe, Bool.true_eq_false, Bool.false_eq_true, beq_self_eq_true, Option.map_some, Option.map_none, Option.bind_some, List.getElem?_cons_zero, List.getElem?_cons_succ, List.getElem?_toArray, List.map_cons, List.map_nil, true_and, and_true, forall_const, ne_eq, not_true_eq_false, not_false_eq_true, false_implies, true_implies, reduceCtorEq, Int.reduceToNat, Int.cast_ofNat_Int, Int.natCast_zero, Int.natCast_one, bne_self_eq_false, Int.reduceLT, Int.reduceLE, Int.reduceEq, Int.reduceNe, Bool.not_true, Bool.not_false, if_true, if_false, false_and, and_false, or_false, or_true, true_or, false_or, List.length_cons, List.length_nil, Int.toNat_natCast, List.length_map, decide_true, decide_false, g2]
      refine awake7_fun.call (by first | omega | (show H.size ≤ _; omega)) ?_
      simp (maxSteps := 10000000) (disch := omega) only [go_sem, ↓reduceIte, Nat.reduceLT, Nat.reduceLeDiff, Nat.reduceEqDiff, Nat.reduceAdd, BitVec.reduceOfInt, BitVec.reduceSetWidth, BitVec.reduceBEq, BitVec.reduceBNe, BitVec.reduceEq, BitVec.reduceNe, Bool.true_eq_false, Bool.false_eq_true, beq_self_eq_true, Option.map_some, Option.map_none, Option.bind_some, List.getElem?_cons_zero, List.getElem?_cons_succ, List.getElem?_toArray, List.map_cons, List.map_nil, true_and, and_true, forall_const, ne_eq, not_true_eq_false, not_false_eq_true, false_implies, true_implies, reduceCtorEq, Int.reduceToNat, Int.cast_ofNat_Int, Int.natCast_zero, Int.natCast_one, bne_self_eq_false, Int.reduceLT, Int.reduceLE, Int.reduceEq, Int.reduceNe, Bool.not_true, Bool.not_false, if_true, if_false, false_and, and_false, or_false, or_true, true_or, false_or, List.length_cons, List.length_nil, Int.toNat_natCast, List.length_map, decide_true, decide_false]
    · obtain ⟨t3, hu1, hu2, hu3⟩ := (s3.keep_old2 k5).lo (k := 64) (by omega) (by omega)
      simp (maxSteps := 10000000) (disch := omega) only [go_sem, ↓reduceIte, Nat.reduceLT, Nat.reduceLeDiff, Nat.reduceEqDiff, Nat.reduceAdd, BitVec.reduceOfInt, BitVec.reduceSetWidth, BitVec.reduceBEq, BitVec.reduceBNe, BitVec.reduceEq, BitVec.reduceNe, Bool.true_eq_false, Bool.false_eq_true, beq_self_eq_true, Option.map_some, Option.map_none, Option.bind_some, List.getElem?_cons_zero, List.getElem?_cons_succ, List.getElem?_toArray, List.map_cons, List.map_nil, true_and, and_true, forall_const, ne_eq, not_true_eq_false, not_false_eq_true, false_implies, true_implies, reduceCtorEq, Int.reduceToNat, Int.cast_ofNat_Int, Int.natCast_zero, Int.natCast_one, bne_self_eq_false, Int.reduceLT, Int.reduceLE, Int.reduceEq, Int.reduceNe, Bool.not_true, Bool.not_false, if_true, if_false, false_and, and_false, or_false, or_true, true_or, false_or, List.length_cons, List.length_nil, Int.toNat_natCast, List.length_map, decide_true, decide_false, g2, hu1]
      refine (cXor_fun (n + 1#32) (s1.keep_old2 k5) (s2.keep_old2 k5) hu2 (by simp; omega)).call (by first | omega | (show H.size ≤ _; omega)) ?_
      rintro r H6 f1 f2 q
      obtain ⟨w4, rfl, o4⟩ := q.1 ⟨kl, nl⟩
      have o4 := o4.sl
      rw [show (64 : Int).toNat = 64 from rfl, cxor_drop _ _ _ _ (by omega)] at o4
      obtain ⟨t4, hu4, hu5, hu6⟩ := (o1'.keep_old2 f2).lo (k := 64) (by omega) (by rw [cxor_length]; omega)
      rw [show (64 : Int).toNat = 64 from rfl] at hu5
      simp (maxSteps := 10000000) (disch := omega) only [go_sem, ↓reduceIte, Nat.reduceLT, Nat.reduceLeDiff, Nat.reduceEqDiff, Nat.reduceAdd, BitVec.reduceOfInt, BitVec.reduceSetWidth, BitVec.reduceBEq, BitVec.reduceBNe, BitVec.reduceEq, BitVec.reduceNe, Bool.true_eq_false, Bool.false_eq_true, beq_self_eq_true, Option.map_some, Option.map_none, Option.bind_some, List.getElem?_cons_zero, List.getElem?_cons_succ, List.getElem?_toArray, List.map_cons, List.map_nil, true_and, and_true, forall_const, ne_eq, not_true_eq_false, not_false_eq_true, false_implies, true_implies, reduceCtorEq, Int.reduceToNat, Int.cast_ofNat_Int, Int.natCast_zero, Int.natCast_one, bne_self_eq_false, Int.reduceLT, Int.reduceLE, Int.reduceEq, Int.reduceNe, Bool.not_true, Bool.not_false, if_true, if_false, false_and, and_false, or_false, or_true, true_or, false_or, List.length_cons, List.length_nil, Int.toNat_natCast, List.length_map, decide_true, decide_false]
      refine draw_of 8 (by kernel_rfl) ?_
      simp (maxSteps := 10000000) (disch := omega) only [go_sem, ↓reduceIte, Nat.reduceLT, Nat.reduceLeDiff, Nat.reduceEqDiff, Nat.reduceAdd, BitVec.reduceOfInt, BitVec.reduceSetWidth, BitVec.reduceBEq, BitVec.reduceBNe, BitVec.reduceEq, BitVec.reduceNe, Bool.true_eq_false, Bool.false_eq_true, beq_self_eq_true, Option.map_some, Option.map_none, Option.bind_some, List.getElem?_cons_zero, List.getElem?_cons_succ, List.getElem?_toArray, List.map_cons, List.map_nil, true_and, and_true, forall_const, ne_eq, not_true_eq_false, not_false_eq_true, false_implies, true_implies, reduceCtorEq, Int.reduceToNat, Int.cast_ofNat_Int, Int.natCast_zero, Int.natCast_one, bne_self_eq_false, Int.reduceLT, Int.reduceLE, Int.reduceEq, Int.reduceNe, Bool.not_true, Bool.not_false, if_true, if_false, false_and, and_false, or_false, or_true, true_or, false_or, List.length_cons, List.length_nil, Int.toNat_natCast, List.length_map, decide_true, decide_false]
      refine conv_text o4 ?_
      simp (maxSteps := 10000000) (disch := omega) only [go_sem, ↓reduceIte, Nat.reduceLT, Nat.reduceLeDiff, Nat.reduceEqDiff, Nat.reduceAdd, BitVec.reduceOfInt, BitVec.reduceSetWidth, BitVec.reduceBEq, BitVec.reduceBNe, BitVec.reduceEq, BitVec.reduceNe, Bool.true_eq_false, Bool.false_eq_true, beq_self_eq_true, Option.map_some, Option.map_none, Option.bind_some, List.getElem?_cons_zero, List.getElem?_cons_succ, List.getElem?_toArray, List.map_cons, List.map_nil, true_and, and_true, forall_const, ne_eq, not_true_eq_false, not_false_eq_true, false_implies, true_implies, reduceCtorEq, Int.reduceToNat, Int.cast_ofNat_Int, Int.natCast_zero, Int.natCast_one, bne_self_eq_false, Int.reduceLT, Int.reduceLE, Int.reduceEq, Int.reduceNe, Bool.not_true, Bool.not_false, if_true, if_false, false_and, and_false, or_false, or_true, true_or, false_or, List.length_cons, List.length_nil, Int.toNat_natCast, List.length_map, decide_true, decide_false, hu4]
      refine conv_text hu5 ?_
      simp (maxSteps := 10000000) (disch := omega) only [go_sem, ↓reduceIte, Nat.reduceLT, Nat.reduceLeDiff, Nat.reduceEqDiff, Nat.reduceAdd, BitVec.reduceOfInt, BitVec.reduceSetWidth, BitVec.reduceBEq, BitVec.reduceBNe, BitVec.reduceEq, BitVec.reduceNe, Bool.true_eq_false, Bool.false_eq_true, beq_self_eq_true, Option.map_some, Option.map_none, Option.bind_some, List.getElem?_cons_zero, List.getElem?_cons_succ, List.getElem?_toArray, List.map_cons, List.map_nil, true_and, and_true, forall_const, ne_eq, not_true_eq_false, not_false_eq_true, false_implies, true_implies, reduceCtorEq, Int.reduceToNat, Int.cast_ofNat_Int, Int.natCast_zero, Int.natCast_one, bne_self_eq_false, Int.reduceLT, Int.reduceLE, Int.reduceEq, Int.reduceNe, Bool.not_true, Bool.not_false, if_true, if_false, false_and, and_false, or_false, or_true, true_or, false_or, List.length_cons, List.length_nil, Int.toNat_natCast, List.length_map, decide_true, decide_false]
      refine awake7_fun.call (by first | omega | (show H.size ≤ _; omega)) ?_
      simp (maxSteps := 10000000) (disch := omega) only [go_sem, ↓reduceIte, Nat.reduceLT, Nat.reduceLeDiff, Nat.reduceEqDiff, Nat.reduceAdd, BitVec.reduceOfInt, BitVec.reduceSetWidth, BitVec.reduceBEq, BitVec.reduceBNe, BitVec.reduceEq, BitVec.reduceNe, Bool.true_eq_false, Bool.false_eq_true, beq_self_eq_true, Option.map_some, Option.map_none, Option.bind_some, List.getElem?_cons_zero, List.getElem?_cons_succ, List.getElem?_toArray, List.map_cons, List.map_nil, true_and, and_true, forall_const, ne_eq, not_true_eq_false, not_false_eq_true, false_implies, true_implies, reduceCtorEq, Int.reduceToNat, Int.cast_ofNat_Int, Int.natCast_zero, Int.natCast_one, bne_self_eq_false, Int.reduceLT, Int.reduceLE, Int.reduceEq, Int.reduceNe, Bool.not_true, Bool.not_false, if_true, if_false, false_and, and_false, or_false, or_true, true_or, false_or, List.length_cons, List.length_nil, Int.toNat_natCast, List.length_map, decide_true, decide_false]

/-! ### ChachaBlocks -/

theorem textOf_append (xs ys : List (BitVec 8)) : textOf xs ++ textOf ys = textOf (xs ++ ys) := by
  apply ByteArray.ext
  simp [textOf, ByteArray.data_append]
theorem textOf_size (xs : List (BitVec 8)) : (textOf xs).size = xs.length := by simp [textOf, ByteArray.size]
theorem bin_add_t {P : Program} (t : TypeId) {xs ys : List (BitVec 8)} (h : xs.length + ys.length ≤ 1000000) : binA P .add t (.string (textOf xs)) (.string (textOf ys)) = some (.string (textOf (xs ++ ys))) := by
  have h2 : ¬ (((textOf xs).size + (textOf ys).size : Nat) : Int) > IntKind.i64.max := by
    rw [textOf_size, textOf_size]
    show ¬ _ > (9223372036854775807 : Int)
    omega
  simp only [binA]
  rw [if_neg h2, textOf_append]
theorem textOf_extract (xs : List (BitVec 8)) (k : Nat) : (textOf xs).extract 0 k = textOf (xs.take k) := by
  apply ByteArray.ext
  simp [textOf, ByteArray.data_extract, List.map_take]
theorem slice_t {xs : List (BitVec 8)} {k : Int} (h0 : 0 ≤ k) (hk : k.toNat ≤ xs.length) : sliceA Try.prog 9 (.string (textOf xs)) none (some (.int .i64 k)) none = some (.string (textOf (xs.take k.toNat))) := by
  have h2 : k ≤ xs.length := by omega
  simp [sliceA, Try.underlying9, boundsA, boundA, intA, h0, h2, textOf_size, textOf_extract]

def cbInv (x1 x2 x3 : Value) (kk nn xs : List (BitVec 8)) (n : BitVec 32) (B : Nat) (m : Nat) (a : AAct) (H : Heap) : Prop :=
  ∃ j : Nat, j + m = 3 ∧ a 2 = u32 n ∧ a 7 = x1 ∧ a 8 = x2 ∧ a 9 = x3 ∧ a 11 = .string (textOf (cst kk nn n j)) ∧ a 34 = u32 (BitVec.ofNat 32 j) ∧ B ≤ H.size ∧ Sl H x1 kk ∧ Sl H x2 nn ∧ Sl H x3 xs

set_option maxRecDepth 20000 in
set_option maxHeartbeats 4000000 in
theorem chachaBlocks_fun {H : Heap} {v : Value} {key : List (BitVec 8)} (hv : Sl H v key) (hl : key.length ≤ 140737488351232) {v2 : Value} {nonce : List (BitVec 8)} (hv2 : Sl H v2 nonce) (hl2 : nonce.length ≤ 140737488351232) (n : BitVec 32) : Fun Try.prog 17 [v, v2, u32 n] H fun r _ => r = .bool true := by
  refine fun_of Try.func17 rfl (by decide +kernel) (Nat.le_of_ble_eq_true rfl) ?_
  unfold Try.f17
  simp (maxSteps := 10000000) (disch := omega) only [go_sem, ↓reduceIte, Nat.reduceLT, Nat.reduceLeDiff, Nat.reduceEqDiff, Nat.reduceAdd, BitVec.reduceOfInt, BitVec.reduceSetWidth, BitVec.reduceBEq, BitVec.reduceBNe, BitVec.reduceEq, BitVec.reduceNe, Bool.true_eq_false, Bool.false_eq_true, beq_self_eq_true, Option.map_some, Option.map_none, Option.bind_some, List.getElem?_cons_zero, List.getElem?_cons_succ, List.getElem?_toArray, List.map_cons, List.map_nil, true_and, and_true, forall_const, ne_eq, not_true_eq_false, not_false_eq_true, false_implies, true_implies, reduceCtorEq, Int.reduceToNat, Int.cast_ofNat_Int, Int.natCast_zero, Int.natCast_one, bne_self_eq_false, Int.reduceLT, Int.reduceLE, Int.reduceEq, Int.reduceNe, Bool.not_true, Bool.not_false, if_true, if_false, false_and, and_false, or_false, or_true, true_or, false_or, List.length_cons, List.length_nil, Int.toNat_natCast, List.length_map, decide_true, decide_false]
  refine (bytes7_fun 32 (by omega) hv).call (Nat.le_refl _) ?_
  intro x1 H1 a1 a2 a3
  simp (maxSteps := 10000000) (disch := omega) only [go_sem, ↓reduceIte, Nat.reduceLT, Nat.reduceLeDiff, Nat.reduceEqDiff, Nat.reduceAdd, BitVec.reduceOfInt, BitVec.reduceSetWidth, BitVec.reduceBEq, BitVec.reduceBNe, BitVec.reduceEq, BitVec.reduceNe, Bool.true_eq_false, Bool.false_eq_true, beq_self_eq_true, Option.map_some, Option.map_none, Option.bind_some, List.getElem?_cons_zero, List.getElem?_cons_succ, List.getElem?_toArray, List.map_cons, List.map_nil, true_and, and_true, forall_const, ne_eq, not_true_eq_false, not_false_eq_true, false_implies, true_implies, reduceCtorEq, Int.reduceToNat, Int.cast_ofNat_Int, Int.natCast_zero, Int.natCast_one, bne_self_eq_false, Int.reduceLT, Int.reduceLE, Int.reduceEq, Int.reduceNe, Bool.not_true, Bool.not_false, if_true, if_false, false_and, and_false, or_false, or_true, true_or, false_or, List.length_cons, List.length_nil, Int.toNat_natCast, List.length_map, decide_true, decide_false]
  refine (bytes7_fun 12 (by omega) (hv2.keep_old2 a2)).call a1 ?_
  intro x2 H2 b1 b2 b3
  obtain ⟨kk, hkk⟩ : ∃ k, k = fit 32 key := ⟨_, rfl⟩
  obtain ⟨nn, hnn⟩ : ∃ k, k = fit 12 nonce := ⟨_, rfl⟩
  have kl : kk.length = 32 := by rw [hkk, fit_length]
  have nl : nn.length = 12 := by rw [hnn, fit_length]
  rw [← hkk] at a3
  rw [← hnn] at b3
  have s1 := a3.sl.keep_old2 b2
  have s2 := b3.sl
  simp (maxSteps := 10000000) (disch := omega) only [go_sem, ↓reduceIte, Nat.reduceLT, Nat.reduceLeDiff, Nat.reduceEqDiff, Nat.reduceAdd, BitVec.reduceOfInt, BitVec.reduceSetWidth, BitVec.reduceBEq, BitVec.reduceBNe, BitVec.reduceEq, BitVec.reduceNe, Bool.true_eq_false, Bool.false_eq_true, beq_self_eq_true, Option.map_some, Option.map_none, Option.bind_some, List.getElem?_cons_zero, List.getElem?_cons_succ, List.getElem?_toArray, List.map_cons, List.map_nil, true_and, and_true, forall_const, ne_eq, not_true_eq_false, not_false_eq_true, false_implies, true_implies, reduceCtorEq, Int.reduceToNat, Int.cast_ofNat_Int, Int.natCast_zero, Int.natCast_one, bne_self_eq_false, Int.reduceLT, Int.reduceLE, Int.reduceEq, Int.reduceNe, Bool.not_true, Bool.not_false, if_true, if_false, false_and, and_false, or_false, or_true, true_or, false_or, List.length_cons, List.length_nil, Int.toNat_natCast, List.length_map, decide_true, decide_false]
  refine make_bytes (by omega) (by omega) ?_
  intro w H3 e3 o3 hb3
  have r3 : Rd H2 H3 := by rw [e3]; exact Rd.push _ _
  have z3 : H.size ≤ H3.size := by rw [e3]; simp; omega
  simp (maxSteps := 10000000) (disch := omega) only [go_sem, ↓reduceIte, Nat.reduceLT, Nat.reduceLeDiff, Nat.reduceEqDiff, Nat.reduceAdd, BitVec.reduceOfInt, BitVec.reduceSetWidth, BitVec.reduceBEq, BitVec.reduceBNe, BitVec.reduceEq, BitVec.reduceNe, Bool.true_eq_false, Bool.false_eq_true, beq_self_eq_true, Option.map_some, Option.map_none, Option.bind_some, List.getElem?_cons_zero, List.getElem?_cons_succ, List.getElem?_toArray, List.map_cons, List.map_nil, true_and, and_true, forall_const, ne_eq, not_true_eq_false, not_false_eq_true, false_implies, true_implies, reduceCtorEq, Int.reduceToNat, Int.cast_ofNat_Int, Int.natCast_zero, Int.natCast_one, bne_self_eq_false, Int.reduceLT, Int.reduceLE, Int.reduceEq, Int.reduceNe, Bool.not_true, Bool.not_false, if_true, if_false, false_and, and_false, or_false, or_true, true_or, false_or, List.length_cons, List.length_nil, Int.toNat_natCast, List.length_map, decide_true, decide_false]
  refine (cXor_fun n (s1.mono r3) (s2.mono r3) o3.sl (by simp)).call z3 ?_
  rintro r H4 c1 c2 q
  obtain ⟨w1, rfl, o1⟩ := q.1 ⟨kl, nl⟩
  have o1 := o1.sl
  have l1 := o1.len
  rw [cxor_length, List.length_replicate] at l1
  have e : cxor kk nn n (List.replicate (150 : Int).toNat 0#8) = (cst kk nn n 3).take 150 := by
    have hc := cst_length kk nn n 3
    have e150 : (150 : Int).toNat = 150 := rfl
    rw [cxor_st, List.length_replicate, e150]
    show xorB _ (cst kk nn n 3) = _
    exact xorB_zero _ _ (by omega)
  rw [e] at o1
  simp (maxSteps := 10000000) (disch := omega) only [go_sem, ↓reduceIte, Nat.reduceLT, Nat.reduceLeDiff, Nat.reduceEqDiff, Nat.reduceAdd, BitVec.reduceOfInt, BitVec.reduceSetWidth, BitVec.reduceBEq, BitVec.reduceBNe, BitVec.reduceEq, BitVec.reduceNe, Bool.true_eq_false, Bool.false_eq_true, beq_self_eq_true, Option.map_some, Option.map_none, Option.bind_some, List.getElem?_cons_zero, List.getElem?_cons_succ, List.getElem?_toArray, List.map_cons, List.map_nil, true_and, and_true, forall_const, ne_eq, not_true_eq_false, not_false_eq_true, false_implies, true_implies, reduceCtorEq, Int.reduceToNat, Int.cast_ofNat_Int, Int.natCast_zero, Int.natCast_one, bne_self_eq_false, Int.reduceLT, Int.reduceLE, Int.reduceEq, Int.reduceNe, Bool.not_true, Bool.not_false, if_true, if_false, false_and, and_false, or_false, or_true, true_or, false_or, List.length_cons, List.length_nil, Int.toNat_natCast, List.length_map, decide_true, decide_false, l1]
  have t0 : (ByteArray.mk #[]) = textOf (cst kk nn n 0) := rfl
  rw [t0]
  refine wp_loop (cbInv x1 x2 w1 kk nn ((cst kk nn n 3).take 150) n H.size) ?_ 3 ?_
  · rintro m a H5 ⟨j, hj, h2, h7, h8, h9, h11, h34, hB, g1, g2, g3⟩
    simp (maxSteps := 10000000) (disch := omega) only [go_sem, ↓reduceIte, Nat.reduceLT, Nat.reduceLeDiff, Nat.reduceEqDiff, Nat.reduceAdd, BitVec.reduceOfInt, BitVec.reduceSetWidth, BitVec.reduceBEq, BitVec.reduceBNe, BitVec.reduceEq, BitVec.reduceNe, Bool.true_eq_false, Bool.false_eq_true, beq_self_eq_true, Option.map_some, Option.map_none, Option.bind_some, List.getElem?_cons_zero, List.getElem?_cons_succ, List.getElem?_toArray, List.map_cons, List.map_nil, true_and, and_true, forall_const, ne_eq, not_true_eq_false, not_false_eq_true, false_implies, true_implies, reduceCtorEq, Int.reduceToNat, Int.cast_ofNat_Int, Int.natCast_zero, Int.natCast_one, bne_self_eq_false, Int.reduceLT, Int.reduceLE, Int.reduceEq, Int.reduceNe, Bool.not_true, Bool.not_false, if_true, if_false, false_and, and_false, or_false, or_true, true_or, false_or, List.length_cons, List.length_nil, Int.toNat_natCast, List.length_map, decide_true, decide_false, h34]
    by_cases hlt : j < 3
    · have hlt' : (BitVec.ofNat 32 j).toNat < (3#32).toNat := by simp; omega
      simp (maxSteps := 10000000) (disch := omega) only [go_sem, ↓reduceIte, Nat.reduceLT, Nat.reduceLeDiff, Nat.reduceEqDiff, Nat.reduceAdd, BitVec.reduceOfInt, BitVec.reduceSetWidth, BitVec.reduceBEq, BitVec.reduceBNe, BitVec.reduceEq, BitVec.reduceNe, Bool.true_eq_false, Bool.false_eq_true, beq_self_eq_true, Option.map_some, Option.map_none, Option.bind_some, List.getElem?_cons_zero, List.getElem?_cons_succ, List.getElem?_toArray, List.map_cons, List.map_nil, true_and, and_true, forall_const, ne_eq, not_true_eq_false, not_false_eq_true, false_implies, true_implies, reduceCtorEq, Int.reduceToNat, Int.cast_ofNat_Int, Int.natCast_zero, Int.natCast_one, bne_self_eq_false, Int.reduceLT, Int.reduceLE, Int.reduceEq, Int.reduceNe, Bool.not_true, Bool.not_false, if_true, if_false, false_and, and_false, or_false, or_true, true_or, false_or, List.length_cons, List.length_nil, Int.toNat_natCast, List.length_map, decide_true, decide_false, h34, h2, h7, h8, hlt']
      refine (cBlock_fun (n + BitVec.ofNat 32 j) g1 g2).call hB ?_
      rintro r H6 d1 d2 q
      obtain ⟨w2, rfl, o2⟩ := q.1 ⟨kl, nl⟩
      have l2 := o2.sl.len
      rw [cblock_length] at l2
      simp (maxSteps := 10000000) (disch := omega) only [go_sem, ↓reduceIte, Nat.reduceLT, Nat.reduceLeDiff, Nat.reduceEqDiff, Nat.reduceAdd, BitVec.reduceOfInt, BitVec.reduceSetWidth, BitVec.reduceBEq, BitVec.reduceBNe, BitVec.reduceEq, BitVec.reduceNe, Bool.true_eq_false, Bool.false_eq_true, beq_self_eq_true, Option.map_some, Option.map_none, Option.bind_some, List.getElem?_cons_zero, List.getElem?_cons_succ, List.getElem?_toArray, List.map_cons, List.map_nil, true_and, and_true, forall_const, ne_eq, not_true_eq_false, not_false_eq_true, false_implies, true_implies, reduceCtorEq, Int.reduceToNat, Int.cast_ofNat_Int, Int.natCast_zero, Int.natCast_one, bne_self_eq_false, Int.reduceLT, Int.reduceLE, Int.reduceEq, Int.reduceNe, Bool.not_true, Bool.not_false, if_true, if_false, false_and, and_false, or_false, or_true, true_or, false_or, List.length_cons, List.length_nil, Int.toNat_natCast, List.length_map, decide_true, decide_false, l2]
      refine conv_text o2.sl ?_
      have hcl := cst_length kk nn n j
      have hb := cblock_length kk nn (n + BitVec.ofNat 32 j)
      have ha := bin_add_t (P := Try.prog) 9 (show (cst kk nn n j).length + (cblock kk nn (n + BitVec.ofNat 32 j)).length ≤ 1000000 by omega)
      simp (maxSteps := 10000000) (disch := omega) only [go_sem, ↓reduceIte, Nat.reduceLT, Nat.reduceLeDiff, Nat.reduceEqDiff, Nat.reduceAdd, BitVec.reduceOfInt, BitVec.reduceSetWidth, BitVec.reduceBEq, BitVec.reduceBNe, BitVec.reduceEq, BitVec.reduceNe, Bool.true_eq_false, Bool.false_eq_true, beq_self_eq_true, Option.map_some, Option.map_none, Option.bind_some, List.getElem?_cons_zero, List.getElem?_cons_succ, List.getElem?_toArray, List.map_cons, List.map_nil, true_and, and_true, forall_const, ne_eq, not_true_eq_false, not_false_eq_true, false_implies, true_implies, reduceCtorEq, Int.reduceToNat, Int.cast_ofNat_Int, Int.natCast_zero, Int.natCast_one, bne_self_eq_false, Int.reduceLT, Int.reduceLE, Int.reduceEq, Int.reduceNe, Bool.not_true, Bool.not_false, if_true, if_false, false_and, and_false, or_false, or_true, true_or, false_or, List.length_cons, List.length_nil, Int.toNat_natCast, List.length_map, decide_true, decide_false, h11, h34, ha]
      have e1 : BitVec.ofNat 32 j + 1#32 = BitVec.ofNat 32 (j + 1) := by
        apply BitVec.eq_of_toNat_eq
        simp [BitVec.toNat_add, BitVec.toNat_ofNat]
      refine ⟨m - 1, by omega, j + 1, by omega, by simp (maxSteps := 10000000) (disch := omega) only [go_sem, ↓reduceIte, Nat.reduceLT, Nat.reduceLeDiff, Nat.reduceEqDiff, Nat.reduceAdd, BitVec.reduceOfInt, BitVec.reduceSetWidth, BitVec.reduceBEq, BitVec.reduceBNe, BitVec.reduceEq, BitVec.reduceNe, Bool.true_eq_false, Bool.false_eq_true, beq_self_eq_true, Option.map_some, Option.map_none, Option.bind_some, List.getElem?_cons_zero, List.getElem?_cons_succ, List.getElem?_toArray, List.map_cons, List.map_nil, true_and, and_true, forall_const, ne_eq, not_true_eq_false, not_false_eq_true, false_implies, true_implies, reduceCtorEq, Int.reduceToNat, Int.cast_ofNat_Int, Int.natCast_zero, Int.natCast_one, bne_self_eq_false, Int.reduceLT, Int.reduceLE, Int.reduceEq, Int.reduceNe, Bool.not_true, Bool.not_false, if_true, if_false, false_and, and_false, or_false, or_true, true_or, false_or, List.length_cons, List.length_nil, Int.toNat_natCast, List.length_map, decide_true, decide_false, h2], by simp (maxSteps := 10000000) (disch := omega) only [go_sem, ↓reduceIte, Nat.reduceLT, Nat.reduceLeDiff, Nat.reduceEqDiff, Nat.reduceAdd, BitVec.reduceOfInt, BitVec.reduceSetWidth, BitVec.reduceBEq, BitVec.reduceBNe, BitVec.reduceEq, BitVec.reduceNe, Bool.true_eq_false, Bool.false_eq_true, beq_self_eq_true, Option.map_some, Option.map_none, Option.bind_some, List.getElem?_cons_zero, List.getElem?_cons_succ, List.getElem?_toArray, List.map_cons, List.map_nil, true_and, and_true, forall_const, ne_eq, not_true_eq_false, not_false_eq_true, false_implies, true_implies, reduceCtorEq, Int.reduceToNat, Int.cast_ofNat_Int, Int.natCast_zero, Int.natCast_one, bne_self_eq_false, Int.reduceLT, Int.reduceLE, Int.reduceEq, Int.reduceNe, Bool.not_true, Bool.not_false, if_true, if_false, false_and, and_false, or_false, or_true, true_or, false_or, List.length_cons, List.length_nil, Int.toNat_natCast, List.length_map, decide_true, decide_false, h7], by simp (maxSteps := 10000000) (disch := omega) only [go_sem, ↓reduceIte, Nat.reduceLT, Nat.reduceLeDiff, Nat.reduceEqDiff, Nat.reduceAdd, BitVec.reduceOfInt, BitVec.reduceSetWidth, BitVec.reduceBEq, BitVec.reduceBNe, BitVec.reduceEq, BitVec.reduceNe, Bool.true_eq_false, Bool.false_eq_true, beq_self_eq_true, Option.map_some, Option.map_none, Option.bind_some, List.getElem?_cons_zero, List.getElem?_cons_succ, List.getElem?_toArray, List.map_cons, List.map_nil, true_and, and_true, forall_const, ne_eq, not_true_eq_false, not_false_eq_true, false_implies, true_implies, reduceCtorEq, Int.reduceToNat, Int.cast_ofNat_Int, Int.natCast_zero, Int.natCast_one, bne_self_eq_false, Int.reduceLT, Int.reduceLE, Int.reduceEq, Int.reduceNe, Bool.not_true, Bool.not_false, if_true, if_false, false_and, and_false, or_false, or_true, true_or, false_or, List.length_cons, List.length_nil, Int.toNat_natCast, List.length_map, decide_true, decide_false, h8], by simp (maxSteps := 10000000) (disch := omega) only [go_sem, ↓reduceIte, Nat.reduceLT, Nat.reduceLeDiff, Nat.reduceEqDiff, Nat.reduceAdd, BitVec.reduceOfInt, BitVec.reduceSetWidth, BitVec.reduceBEq, BitVec.reduceBNe, BitVec.reduceEq, BitVec.reduceNe, Bool.true_eq_false, Bool.false_eq_true, beq_self_eq_true, Option.map_some, Option.map_none, Option.bind_some, List.getElem?_cons_zero, List.getElem?_cons_succ, List.getElem?_toArray, List.map_cons, List.map_nil, true_and, and_true, forall_const, ne_eq, not_true_eq_false, not_false_eq_true, false_implies, true_implies, reduceCtorEq, Int.reduceToNat, Int.cast_ofNat_Int, Int.natCast_zero, Int.natCast_one, bne_self_eq_false, Int.reduceLT, Int.reduceLE, Int.reduceEq, Int.reduceNe, Bool.not_true, Bool.not_false, if_true, if_false, false_and, and_false, or_false, or_true, true_or, false_or, List.length_cons, List.length_nil, Int.toNat_natCast, List.length_map, decide_true, decide_false, h9], by simp (maxSteps := 10000000) (disch := omega) only [go_sem, ↓reduceIte, Nat.reduceLT, Nat.reduceLeDiff, Nat.reduceEqDiff, Nat.reduceAdd, BitVec.reduceOfInt, BitVec.reduceSetWidth, BitVec.reduceBEq, BitVec.reduceBNe, BitVec.reduceEq, BitVec.reduceNe, Bool.true_eq_false, Bool.false_eq_true, beq_self_eq_true, Option.map_some, Option.map_none, Option.bind_some, List.getElem?_cons_zero, List.getElem?_cons_succ, List.getElem?_toArray, List.map_cons, List.map_nil, true_and, and_true, forall_const, ne_eq, not_true_eq_false, not_false_eq_true, false_implies, true_implies, reduceCtorEq, Int.reduceToNat, Int.cast_ofNat_Int, Int.natCast_zero, Int.natCast_one, bne_self_eq_false, Int.reduceLT, Int.reduceLE, Int.reduceEq, Int.reduceNe, Bool.not_true, Bool.not_false, if_true, if_false, false_and, and_false, or_false, or_true, true_or, false_or, List.length_cons, List.length_nil, Int.toNat_natCast, List.length_map, decide_true, decide_false]; rfl, by simp (maxSteps := 10000000) (disch := omega) only [go_sem, ↓reduceIte, Nat.reduceLT, Nat.reduceLeDiff, Nat.reduceEqDiff, Nat.reduceAdd, BitVec.reduceOfInt, BitVec.reduceSetWidth, BitVec.reduceBEq, BitVec.reduceBNe, BitVec.reduceEq, BitVec.reduceNe, Bool.true_eq_false, Bool.false_eq_true, beq_self_eq_true, Option.map_some, Option.map_none, Option.bind_some, List.getElem?_cons_zero, List.getElem?_cons_succ, List.getElem?_toArray, List.map_cons, List.map_nil, true_and, and_true, forall_const, ne_eq, not_true_eq_false, not_false_eq_true, false_implies, true_implies, reduceCtorEq, Int.reduceToNat, Int.cast_ofNat_Int, Int.natCast_zero, Int.natCast_one, bne_self_eq_false, Int.reduceLT, Int.reduceLE, Int.reduceEq, Int.reduceNe, Bool.not_true, Bool.not_false, if_true, if_false, false_and, and_false, or_false, or_true, true_or, false_or, List.length_cons, List.length_nil, Int.toNat_natCast, List.length_map, decide_true, decide_false, e1], by omega, g1.keep_old2 d2, g2.keep_old2 d2, g3.keep_old2 d2⟩
    · have hj3 : j = 3 := by omega
      subst hj3
      have hlt' : ¬ (BitVec.ofNat 32 3).toNat < (3#32).toNat := by decide
      simp (maxSteps := 10000000) (disch := omega) only [go_sem, ↓reduceIte, Nat.reduceLT, Nat.reduceLeDiff, Nat.reduceEqDiff, Nat.reduceAdd, BitVec.reduceOfInt, BitVec.reduceSetWidth, BitVec.reduceBEq, BitVec.reduceBNe, BitVec.reduceEq, BitVec.reduceNe, Bool.true_eq_false, Bool.false_eq_true, beq_self_eq_true, Option.map_some, Option.map_none, Option.bind_some, List.getElem?_cons_zero, List.getElem?_cons_succ, List.getElem?_toArray, List.map_cons, List.map_nil, true_and, and_true, forall_const, ne_eq, not_true_eq_false, not_false_eq_true, false_implies, true_implies, reduceCtorEq, Int.reduceToNat, Int.cast_ofNat_Int, Int.natCast_zero, Int.natCast_one, bne_self_eq_false, Int.reduceLT, Int.reduceLE, Int.reduceEq, Int.reduceNe, Bool.not_true, Bool.not_false, if_true, if_false, false_and, and_false, or_false, or_true, true_or, false_or, List.length_cons, List.length_nil, Int.toNat_natCast, List.length_map, decide_true, decide_false, h34, hlt']
      refine draw_of 5 (by kernel_rfl) ?_
      simp (maxSteps := 10000000) (disch := omega) only [go_sem, ↓reduceIte, Nat.reduceLT, Nat.reduceLeDiff, Nat.reduceEqDiff, Nat.reduceAdd, BitVec.reduceOfInt, BitVec.reduceSetWidth, BitVec.reduceBEq, BitVec.reduceBNe, BitVec.reduceEq, BitVec.reduceNe, Bool.true_eq_false, Bool.false_eq_true, beq_self_eq_true, Option.map_some, Option.map_none, Option.bind_some, List.getElem?_cons_zero, List.getElem?_cons_succ, List.getElem?_toArray, List.map_cons, List.map_nil, true_and, and_true, forall_const, ne_eq, not_true_eq_false, not_false_eq_true, false_implies, true_implies, reduceCtorEq, Int.reduceToNat, Int.cast_ofNat_Int, Int.natCast_zero, Int.natCast_one, bne_self_eq_false, Int.reduceLT, Int.reduceLE, Int.reduceEq, Int.reduceNe, Bool.not_true, Bool.not_false, if_true, if_false, false_and, and_false, or_false, or_true, true_or, false_or, List.length_cons, List.length_nil, Int.toNat_natCast, List.length_map, decide_true, decide_false, h9]
      refine conv_text g3 ?_
      have hs := slice_t (xs := cst kk nn n 3) (k := 150) (by omega) (by rw [cst_length]; decide)
      have e150 : (150 : Int).toNat = 150 := rfl
      rw [e150] at hs
      simp (maxSteps := 10000000) (disch := omega) only [go_sem, ↓reduceIte, Nat.reduceLT, Nat.reduceLeDiff, Nat.reduceEqDiff, Nat.reduceAdd, BitVec.reduceOfInt, BitVec.reduceSetWidth, BitVec.reduceBEq, BitVec.reduceBNe, BitVec.reduceEq, BitVec.reduceNe, Bool.true_eq_false, Bool.false_eq_true, beq_self_eq_true, Option.map_some, Option.map_none, Option.bind_some, List.getElem?_cons_zero, List.getElem?_cons_succ, List.getElem?_toArray, List.map_cons, List.map_nil, true_and, and_true, forall_const, ne_eq, not_true_eq_false, not_false_eq_true, false_implies, true_implies, reduceCtorEq, Int.reduceToNat, Int.cast_ofNat_Int, Int.natCast_zero, Int.natCast_one, bne_self_eq_false, Int.reduceLT, Int.reduceLE, Int.reduceEq, Int.reduceNe, Bool.not_true, Bool.not_false, if_true, if_false, false_and, and_false, or_false, or_true, true_or, false_or, List.length_cons, List.length_nil, Int.toNat_natCast, List.length_map, decide_true, decide_false, h11, hs]
      refine awake7_fun.call (by first | omega | (show H.size ≤ _; omega)) ?_
      simp (maxSteps := 10000000) (disch := omega) only [go_sem, ↓reduceIte, Nat.reduceLT, Nat.reduceLeDiff, Nat.reduceEqDiff, Nat.reduceAdd, BitVec.reduceOfInt, BitVec.reduceSetWidth, BitVec.reduceBEq, BitVec.reduceBNe, BitVec.reduceEq, BitVec.reduceNe, Bool.true_eq_false, Bool.false_eq_true, beq_self_eq_true, Option.map_some, Option.map_none, Option.bind_some, List.getElem?_cons_zero, List.getElem?_cons_succ, List.getElem?_toArray, List.map_cons, List.map_nil, true_and, and_true, forall_const, ne_eq, not_true_eq_false, not_false_eq_true, false_implies, true_implies, reduceCtorEq, Int.reduceToNat, Int.cast_ofNat_Int, Int.natCast_zero, Int.natCast_one, bne_self_eq_false, Int.reduceLT, Int.reduceLE, Int.reduceEq, Int.reduceNe, Bool.not_true, Bool.not_false, if_true, if_false, false_and, and_false, or_false, or_true, true_or, false_or, List.length_cons, List.length_nil, Int.toNat_natCast, List.length_map, decide_true, decide_false]
  · have k4 : ∀ j, j < H3.size → H4[j]? = H3[j]? := c2
    exact ⟨0, by omega, by simp (maxSteps := 10000000) (disch := omega) only [go_sem, ↓reduceIte, Nat.reduceLT, Nat.reduceLeDiff, Nat.reduceEqDiff, Nat.reduceAdd, BitVec.reduceOfInt, BitVec.reduceSetWidth, BitVec.reduceBEq, BitVec.reduceBNe, BitVec.reduceEq, BitVec.reduceNe, Bool.true_eq_false, Bool.false_eq_true, beq_self_eq_true, Option.map_some, Option.map_none, Option.bind_some, List.getElem?_cons_zero, List.getElem?_cons_succ, List.getElem?_toArray, List.map_cons, List.map_nil, true_and, and_true, forall_const, ne_eq, not_true_eq_false, not_false_eq_true, false_implies, true_implies, reduceCtorEq, Int.reduceToNat, Int.cast_ofNat_Int, Int.natCast_zero, Int.natCast_one, bne_self_eq_false, Int.reduceLT, Int.reduceLE, Int.reduceEq, Int.reduceNe, Bool.not_true, Bool.not_false, if_true, if_false, false_and, and_false, or_false, or_true, true_or, false_or, List.length_cons, List.length_nil, Int.toNat_natCast, List.length_map, decide_true, decide_false], by simp (maxSteps := 10000000) (disch := omega) only [go_sem, ↓reduceIte, Nat.reduceLT, Nat.reduceLeDiff, Nat.reduceEqDiff, Nat.reduceAdd, BitVec.reduceOfInt, BitVec.reduceSetWidth, BitVec.reduceBEq, BitVec.reduceBNe, BitVec.reduceEq, BitVec.reduceNe, Bool.true_eq_false, Bool.false_eq_true, beq_self_eq_true, Option.map_some, Option.map_none, Option.bind_some, List.getElem?_cons_zero, List.getElem?_cons_succ, List.getElem?_toArray, List.map_cons, List.map_nil, true_and, and_true, forall_const, ne_eq, not_true_eq_false, not_false_eq_true, false_implies, true_implies, reduceCtorEq, Int.reduceToNat, Int.cast_ofNat_Int, Int.natCast_zero, Int.natCast_one, bne_self_eq_false, Int.reduceLT, Int.reduceLE, Int.reduceEq, Int.reduceNe, Bool.not_true, Bool.not_false, if_true, if_false, false_and, and_false, or_false, or_true, true_or, false_or, List.length_cons, List.length_nil, Int.toNat_natCast, List.length_map, decide_true, decide_false], by simp (maxSteps := 10000000) (disch := omega) only [go_sem, ↓reduceIte, Nat.reduceLT, Nat.reduceLeDiff, Nat.reduceEqDiff, Nat.reduceAdd, BitVec.reduceOfInt, BitVec.reduceSetWidth, BitVec.reduceBEq, BitVec.reduceBNe, BitVec.reduceEq, BitVec.reduceNe, Bool.true_eq_false, Bool.false_eq_true, beq_self_eq_true, Option.map_some, Option.map_none, Option.bind_some, List.getElem?_cons_zero, List.getElem?_cons_succ, List.getElem?_toArray, List.map_cons, List.map_nil, true_and, and_true, forall_const, ne_eq, not_true_eq_false, not_false_eq_true, false_implies, true_implies, reduceCtorEq, Int.reduceToNat, Int.cast_ofNat_Int, Int.natCast_zero, Int.natCast_one, bne_self_eq_false, Int.reduceLT, Int.reduceLE, Int.reduceEq, Int.reduceNe, Bool.not_true, Bool.not_false, if_true, if_false, false_and, and_false, or_false, or_true, true_or, false_or, List.length_cons, List.length_nil, Int.toNat_natCast, List.length_map, decide_true, decide_false], by simp (maxSteps := 10000000) (disch := omega) only [go_sem, ↓reduceIte, Nat.reduceLT, Nat.reduceLeDiff, Nat.reduceEqDiff, Nat.reduceAdd, BitVec.reduceOfInt, BitVec.reduceSetWidth, BitVec.reduceBEq, BitVec.reduceBNe, BitVec.reduceEq, BitVec.reduceNe, Bool.true_eq_false, Bool.false_eq_true, beq_self_eq_true, Option.map_some, Option.map_none, Option.bind_some, List.getElem?_cons_zero, List.getElem?_cons_succ, List.getElem?_toArray, List.map_cons, List.map_nil, true_and, and_true, forall_const, ne_eq, not_true_eq_false, not_false_eq_true, false_implies, true_implies, reduceCtorEq, Int.reduceToNat, Int.cast_ofNat_Int, Int.natCast_zero, Int.natCast_one, bne_self_eq_false, Int.reduceLT, Int.reduceLE, Int.reduceEq, Int.reduceNe, Bool.not_true, Bool.not_false, if_true, if_false, false_and, and_false, or_false, or_true, true_or, false_or, List.length_cons, List.length_nil, Int.toNat_natCast, List.length_map, decide_true, decide_false], by simp (maxSteps := 10000000) (disch := omega) only [go_sem, ↓reduceIte, Nat.reduceLT, Nat.reduceLeDiff, Nat.reduceEqDiff, Nat.reduceAdd, BitVec.reduceOfInt, BitVec.reduceSetWidth, BitVec.reduceBEq, BitVec.reduceBNe, BitVec.reduceEq, BitVec.reduceNe, Bool.true_eq_false, Bool.false_eq_true, beq_self_eq_true, Option.map_some, Option.map_none, Option.bind_some, List.getElem?_cons_zero, List.getElem?_cons_succ, List.getElem?_toArray, List.map_cons, List.map_nil, true_and, and_true, forall_const, ne_eq, not_true_eq_false, not_false_eq_true, false_implies, true_implies, reduceCtorEq, Int.reduceToNat, Int.cast_ofNat_Int, Int.natCast_zero, Int.natCast_one, bne_self_eq_false, Int.reduceLT, Int.reduceLE, Int.reduceEq, Int.reduceNe, Bool.not_true, Bool.not_false, if_true, if_false, false_and, and_false, or_false, or_true, true_or, false_or, List.length_cons, List.length_nil, Int.toNat_natCast, List.length_map, decide_true, decide_false], by simp (maxSteps := 10000000) (disch := omega) only [go_sem, ↓reduceIte, Nat.reduceLT, Nat.reduceLeDiff, Nat.reduceEqDiff, Nat.reduceAdd, BitVec.reduceOfInt, BitVec.reduceSetWidth, BitVec.reduceBEq, BitVec.reduceBNe, BitVec.reduceEq, BitVec.reduceNe, Bool.true_eq_false, Bool.false_eq_true, beq_self_eq_true, Option.map_some, Option.map_none, Option.bind_some, List.getElem?_cons_zero, List.getElem?_cons_succ, List.getElem?_toArray, List.map_cons, List.map_nil, true_and, and_true, forall_const, ne_eq, not_true_eq_false, not_false_eq_true, false_implies, true_implies, reduceCtorEq, Int.reduceToNat, Int.cast_ofNat_Int, Int.natCast_zero, Int.natCast_one, bne_self_eq_false, Int.reduceLT, Int.reduceLE, Int.reduceEq, Int.reduceNe, Bool.not_true, Bool.not_false, if_true, if_false, false_and, and_false, or_false, or_true, true_or, false_or, List.length_cons, List.length_nil, Int.toNat_natCast, List.length_map, decide_true, decide_false], by omega, (s1.mono r3).keep_old2 c2, (s2.mono r3).keep_old2 c2, o1⟩

end Go.Proofs.Ytcapjjmikapmfaa.M
