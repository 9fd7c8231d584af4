/- word.Xor, PutLow64 and the law WordBack. -/
import Derived.Test.YtcapjjmikapmfaaSe
import Derived.Test.YtcapjjmikapmfaaSd
set_option linter.unusedVariables false
set_option linter.unusedSimpArgs false
namespace Go.Proofs.Ytcapjjmikapmfaa.M
open Go Go.Proofs

theorem putLow64_fun (x : BitVec 64) (H : Heap) : Fun Try.prog 60 [u64 x] H (fun v H' => Ow H' H.size v (lowBytes x 8)) := by
  refine fun_of Try.func60 rfl (by decide +kernel) (Nat.le_of_ble_eq_true rfl) ?_
  unfold Try.f60
  simp (maxSteps := 10000000) (disch := omega) only [go_sem, ↓reduceIte, Nat.reduceLT, Nat.reduceLeDiff, Nat.reduceEqDiff, Nat.reduceAdd, BitVec.reduceOfInt, BitVec.reduceSetWidth, BitVec.reduceBEq, BitVec.reduceBNe, BitVec.reduceEq, BitVec.reduceNe, Bool.true_eq_false, Bool.false_eq_true, beq_self_eq_true, Option.map_some, Option.map_none, Option.bind_some, List.getElem?_cons_zero, List.getElem?_cons_succ, List.getElem?_toArray, List.map_cons, List.map_nil, true_and, and_true, forall_const, ne_eq, not_true_eq_false, not_false_eq_true, false_implies, true_implies, reduceCtorEq, Int.reduceToNat, Int.cast_ofNat_Int, Int.natCast_zero, Int.natCast_one, bne_self_eq_false, Int.reduceLT, Int.reduceLE, Int.reduceEq, Int.reduceNe, Bool.not_true, Bool.not_false, if_true, if_false, false_and, and_false, or_false, or_true, true_or, false_or, List.length_cons, List.length_nil, Int.toNat_natCast, List.length_map, decide_true, decide_false]
  refine (put_fun _ 8 (by omega) _).call (Nat.le_refl _) ?_
  intro v' H' h1 h2 h3
  simp (maxSteps := 10000000) (disch := omega) only [go_sem, ↓reduceIte, Nat.reduceLT, Nat.reduceLeDiff, Nat.reduceEqDiff, Nat.reduceAdd, BitVec.reduceOfInt, BitVec.reduceSetWidth, BitVec.reduceBEq, BitVec.reduceBNe, BitVec.reduceEq, BitVec.reduceNe, Bool.true_eq_false, Bool.false_eq_true, beq_self_eq_true, Option.map_some, Option.map_none, Option.bind_some, List.getElem?_cons_zero, List.getElem?_cons_succ, List.getElem?_toArray, List.map_cons, List.map_nil, true_and, and_true, forall_const, ne_eq, not_true_eq_false, not_false_eq_true, false_implies, true_implies, reduceCtorEq, Int.reduceToNat, Int.cast_ofNat_Int, Int.natCast_zero, Int.natCast_one, bne_self_eq_false, Int.reduceLT, Int.reduceLE, Int.reduceEq, Int.reduceNe, Bool.not_true, Bool.not_false, if_true, if_false, false_and, and_false, or_false, or_true, true_or, false_or, List.length_cons, List.length_nil, Int.toNat_natCast, List.length_map, decide_true, decide_false]
  exact h3

def xorB (xs ys : List (BitVec 8)) : List (BitVec 8) := List.zipWith (· ^^^ ·) xs ys

theorem zip_take_succ {xs ys : List (BitVec 8)} {k : Nat} (hx : k < xs.length) (hy : k < ys.length) : (xorB xs ys).take (k + 1) = (xorB xs ys).take k ++ [xs[k] ^^^ ys[k]] := by
  have hk : k < (xorB xs ys).length := by simp [xorB]; omega
  rw [List.take_succ_eq_append_getElem hk]
  simp [xorB]

def xorInv (v w : Value) (xs ys : List (BitVec 8)) (B n : Nat) (m : Nat) (a : AAct) (H : Heap) : Prop :=
  ∃ k : Nat, k + m = n ∧ a 0 = v ∧ a 1 = w ∧ a 11 = .int .i64 (n : Nat) ∧ a 12 = .int .i64 (k : Nat) ∧ B ≤ H.size ∧ Sl H v xs ∧ Sl H w ys ∧ Ow H B (a 5) ((xorB xs ys).take k)

theorem xor_fun {v w : Value} {xs ys : List (BitVec 8)} {H : Heap} (hv : Sl H v xs) (hw : Sl H w ys) (hl : xs.length ≤ 140737488351232) (hl2 : ys.length ≤ 140737488351232) : Fun Try.prog 61 [v, w] H (fun r H' => Ow H' H.size r (xorB xs ys)) := by
  obtain ⟨n, hn⟩ : ∃ n, n = min xs.length ys.length := ⟨_, rfl⟩
  have hmin : (if (ys.length : Int) < xs.length then (ys.length : Int) else xs.length) = (n : Nat) := by split <;> omega
  have hlen : (xorB xs ys).length = n := by simp [xorB]; omega
  refine fun_of Try.func61 rfl (by decide +kernel) (Nat.le_of_ble_eq_true rfl) ?_
  unfold Try.f61
  simp (maxSteps := 10000000) (disch := omega) only [go_sem, ↓reduceIte, Nat.reduceLT, Nat.reduceLeDiff, Nat.reduceEqDiff, Nat.reduceAdd, BitVec.reduceOfInt, BitVec.reduceSetWidth, BitVec.reduceBEq, BitVec.reduceBNe, BitVec.reduceEq, BitVec.reduceNe, Bool.true_eq_false, Bool.false_eq_true, beq_self_eq_true, Option.map_some, Option.map_none, Option.bind_some, List.getElem?_cons_zero, List.getElem?_cons_succ, List.getElem?_toArray, List.map_cons, List.map_nil, true_and, and_true, forall_const, ne_eq, not_true_eq_false, not_false_eq_true, false_implies, true_implies, reduceCtorEq, Int.reduceToNat, Int.cast_ofNat_Int, Int.natCast_zero, Int.natCast_one, bne_self_eq_false, Int.reduceLT, Int.reduceLE, Int.reduceEq, Int.reduceNe, Bool.not_true, Bool.not_false, if_true, if_false, false_and, and_false, or_false, or_true, true_or, false_or, List.length_cons, List.length_nil, Int.toNat_natCast, List.length_map, decide_true, decide_false, hv.len, hw.len, hmin]
  refine wp_loop (xorInv v w xs ys H.size n) ?_ n ?_
  · rintro m a H1 ⟨k, hk, h0, h1, h11, h12, hB, hv1, hw1, hO⟩
    simp (maxSteps := 10000000) (disch := omega) only [go_sem, ↓reduceIte, Nat.reduceLT, Nat.reduceLeDiff, Nat.reduceEqDiff, Nat.reduceAdd, BitVec.reduceOfInt, BitVec.reduceSetWidth, BitVec.reduceBEq, BitVec.reduceBNe, BitVec.reduceEq, BitVec.reduceNe, Bool.true_eq_false, Bool.false_eq_true, beq_self_eq_true, Option.map_some, Option.map_none, Option.bind_some, List.getElem?_cons_zero, List.getElem?_cons_succ, List.getElem?_toArray, List.map_cons, List.map_nil, true_and, and_true, forall_const, ne_eq, not_true_eq_false, not_false_eq_true, false_implies, true_implies, reduceCtorEq, Int.reduceToNat, Int.cast_ofNat_Int, Int.natCast_zero, Int.natCast_one, bne_self_eq_false, Int.reduceLT, Int.reduceLE, Int.reduceEq, Int.reduceNe, Bool.not_true, Bool.not_false, if_true, if_false, false_and, and_false, or_false, or_true, true_or, false_or, List.length_cons, List.length_nil, Int.toNat_natCast, List.length_map, decide_true, decide_false, h0, h1, h11, h12]
    by_cases hlt : k < n
    · have hlt' : (k : Int) < (n : Nat) := by omega
      obtain ⟨ad, e1, e2⟩ := hv1.index (k := (k : Int)) (by omega) (by omega)
      obtain ⟨bd, e3, e4⟩ := hw1.index (k := (k : Int)) (by omega) (by omega)
      simp (maxSteps := 10000000) (disch := omega) only [go_sem, ↓reduceIte, Nat.reduceLT, Nat.reduceLeDiff, Nat.reduceEqDiff, Nat.reduceAdd, BitVec.reduceOfInt, BitVec.reduceSetWidth, BitVec.reduceBEq, BitVec.reduceBNe, BitVec.reduceEq, BitVec.reduceNe, Bool.true_eq_false, Bool.false_eq_true, beq_self_eq_true, Option.map_some, Option.map_none, Option.bind_some, List.getElem?_cons_zero, List.getElem?_cons_succ, List.getElem?_toArray, List.map_cons, List.map_nil, true_and, and_true, forall_const, ne_eq, not_true_eq_false, not_false_eq_true, false_implies, true_implies, reduceCtorEq, Int.reduceToNat, Int.cast_ofNat_Int, Int.natCast_zero, Int.natCast_one, bne_self_eq_false, Int.reduceLT, Int.reduceLE, Int.reduceEq, Int.reduceNe, Bool.not_true, Bool.not_false, if_true, if_false, false_and, and_false, or_false, or_true, true_or, false_or, List.length_cons, List.length_nil, Int.toNat_natCast, List.length_map, decide_true, decide_false, h0, h1, h11, h12, hlt']
      refine draw_of 11 (by kernel_rfl) ?_
      simp (maxSteps := 10000000) (disch := omega) only [go_sem, ↓reduceIte, Nat.reduceLT, Nat.reduceLeDiff, Nat.reduceEqDiff, Nat.reduceAdd, BitVec.reduceOfInt, BitVec.reduceSetWidth, BitVec.reduceBEq, BitVec.reduceBNe, BitVec.reduceEq, BitVec.reduceNe, Bool.true_eq_false, Bool.false_eq_true, beq_self_eq_true, Option.map_some, Option.map_none, Option.bind_some, List.getElem?_cons_zero, List.getElem?_cons_succ, List.getElem?_toArray, List.map_cons, List.map_nil, true_and, and_true, forall_const, ne_eq, not_true_eq_false, not_false_eq_true, false_implies, true_implies, reduceCtorEq, Int.reduceToNat, Int.cast_ofNat_Int, Int.natCast_zero, Int.natCast_one, bne_self_eq_false, Int.reduceLT, Int.reduceLE, Int.reduceEq, Int.reduceNe, Bool.not_true, Bool.not_false, if_true, if_false, false_and, and_false, or_false, or_true, true_or, false_or, List.length_cons, List.length_nil, Int.toNat_natCast, List.length_map, decide_true, decide_false, h0, h1, h11, h12, e1, e2, e3, e4]
      refine append_byte hO (Nat.le_refl _) hB (by simp; omega) ?_
      intro v' H2 g1 g2 g3 g4
      simp (maxSteps := 10000000) (disch := omega) only [go_sem, ↓reduceIte, Nat.reduceLT, Nat.reduceLeDiff, Nat.reduceEqDiff, Nat.reduceAdd, BitVec.reduceOfInt, BitVec.reduceSetWidth, BitVec.reduceBEq, BitVec.reduceBNe, BitVec.reduceEq, BitVec.reduceNe, Bool.true_eq_false, Bool.false_eq_true, beq_self_eq_true, Option.map_some, Option.map_none, Option.bind_some, List.getElem?_cons_zero, List.getElem?_cons_succ, List.getElem?_toArray, List.map_cons, List.map_nil, true_and, and_true, forall_const, ne_eq, not_true_eq_false, not_false_eq_true, false_implies, true_implies, reduceCtorEq, Int.reduceToNat, Int.cast_ofNat_Int, Int.natCast_zero, Int.natCast_one, bne_self_eq_false, Int.reduceLT, Int.reduceLE, Int.reduceEq, Int.reduceNe, Bool.not_true, Bool.not_false, if_true, if_false, false_and, and_false, or_false, or_true, true_or, false_or, List.length_cons, List.length_nil, Int.toNat_natCast, List.length_map, decide_true, decide_false, h12, wrap_i64]
      refine ⟨m - 1, by omega, k + 1, by omega, ?_⟩
      simp (maxSteps := 10000000) (disch := omega) only [go_sem, ↓reduceIte, Nat.reduceLT, Nat.reduceLeDiff, Nat.reduceEqDiff, Nat.reduceAdd, BitVec.reduceOfInt, BitVec.reduceSetWidth, BitVec.reduceBEq, BitVec.reduceBNe, BitVec.reduceEq, BitVec.reduceNe, Bool.true_eq_false, Bool.false_eq_true, beq_self_eq_true, Option.map_some, Option.map_none, Option.bind_some, List.getElem?_cons_zero, List.getElem?_cons_succ, List.getElem?_toArray, List.map_cons, List.map_nil, true_and, and_true, forall_const, ne_eq, not_true_eq_false, not_false_eq_true, false_implies, true_implies, reduceCtorEq, Int.reduceToNat, Int.cast_ofNat_Int, Int.natCast_zero, Int.natCast_one, bne_self_eq_false, Int.reduceLT, Int.reduceLE, Int.reduceEq, Int.reduceNe, Bool.not_true, Bool.not_false, if_true, if_false, false_and, and_false, or_false, or_true, true_or, false_or, List.length_cons, List.length_nil, Int.toNat_natCast, List.length_map, decide_true, decide_false, h0, h1, h11]
      refine ⟨by push_cast; rfl, by omega, hv1.mono g2, hw1.mono g2, ?_⟩
      rw [zip_take_succ (by omega) (by omega)]
      exact g4
    · have hlt' : ¬ (k : Int) < (n : Nat) := by omega
      have hkn : k = n := by omega
      subst hkn
      simp (maxSteps := 10000000) (disch := omega) only [go_sem, ↓reduceIte, Nat.reduceLT, Nat.reduceLeDiff, Nat.reduceEqDiff, Nat.reduceAdd, BitVec.reduceOfInt, BitVec.reduceSetWidth, BitVec.reduceBEq, BitVec.reduceBNe, BitVec.reduceEq, BitVec.reduceNe, Bool.true_eq_false, Bool.false_eq_true, beq_self_eq_true, Option.map_some, Option.map_none, Option.bind_some, List.getElem?_cons_zero, List.getElem?_cons_succ, List.getElem?_toArray, List.map_cons, List.map_nil, true_and, and_true, forall_const, ne_eq, not_true_eq_false, not_false_eq_true, false_implies, true_implies, reduceCtorEq, Int.reduceToNat, Int.cast_ofNat_Int, Int.natCast_zero, Int.natCast_one, bne_self_eq_false, Int.reduceLT, Int.reduceLE, Int.reduceEq, Int.reduceNe, Bool.not_true, Bool.not_false, if_true, if_false, false_and, and_false, or_false, or_true, true_or, false_or, List.length_cons, List.length_nil, Int.toNat_natCast, List.length_map, decide_true, decide_false, h0, h1, h11, h12, hlt']
      rw [List.take_of_length_le (by omega)] at hO
      exact hO
  · refine ⟨0, by omega, ?_⟩
    simp (maxSteps := 10000000) (disch := omega) only [go_sem, ↓reduceIte, Nat.reduceLT, Nat.reduceLeDiff, Nat.reduceEqDiff, Nat.reduceAdd, BitVec.reduceOfInt, BitVec.reduceSetWidth, BitVec.reduceBEq, BitVec.reduceBNe, BitVec.reduceEq, BitVec.reduceNe, Bool.true_eq_false, Bool.false_eq_true, beq_self_eq_true, Option.map_some, Option.map_none, Option.bind_some, List.getElem?_cons_zero, List.getElem?_cons_succ, List.getElem?_toArray, List.map_cons, List.map_nil, true_and, and_true, forall_const, ne_eq, not_true_eq_false, not_false_eq_true, false_implies, true_implies, reduceCtorEq, Int.reduceToNat, Int.cast_ofNat_Int, Int.natCast_zero, Int.natCast_one, bne_self_eq_false, Int.reduceLT, Int.reduceLE, Int.reduceEq, Int.reduceNe, Bool.not_true, Bool.not_false, if_true, if_false, false_and, and_false, or_false, or_true, true_or, false_or, List.length_cons, List.length_nil, Int.toNat_natCast, List.length_map, decide_true, decide_false]
    exact ⟨Nat.le_refl _, hv, hw, OV.nil _ _⟩

/-! ### There and back -/

theorem byteAt_get {xs : List (BitVec 8)} {k : Nat} (h : k < xs.length) : byteAt xs 0 k = xs[k] := by
  have h1 : (0 : Int) ≤ 0 ∧ (0 : Int) ≤ (xs.length : Nat) ∧ (0 : Int) + (k : Nat) < (xs.length : Nat) := by omega
  unfold byteAt
  rw [if_pos h1, List.getD_eq_getElem?_getD]
  have e : ((0 : Int) + (k : Nat)).toNat = k := by omega
  rw [e, List.getElem?_eq_getElem h]; rfl

theorem lowAt_bit (xs : List (BitVec 8)) : ∀ (n : Nat), n ≤ 8 → ∀ i, i < 64 → (lowAt xs 0 n).getLsbD i = (decide (i < 8 * n) && (byteAt xs 0 (i / 8)).getLsbD (i % 8))
  | 0, _, i, _ => by simp [lowAt]
  | n + 1, h, i, hi => by
    rw [lowAt_succ, BitVec.getLsbD_or, lowAt_bit xs n (by omega) i hi, BitVec.getLsbD_shiftLeft, BitVec.getLsbD_setWidth]
    by_cases h1 : i < 8 * n
    · have h2 : i < 8 * (n + 1) := by omega
      simp [h1, h2]
    · by_cases h2 : i < 8 * (n + 1)
      · have h3 : i / 8 = n := by omega
        have h4 : i - 8 * n = i % 8 := by omega
        have h5 : i % 8 < 64 := by omega
        simp [h1, h2, h3, h4, h5, hi]
      · have h3 : (byteAt xs 0 n).getLsbD (i - 8 * n) = false := BitVec.getLsbD_of_ge _ _ (by omega)
        simp [h1, h2, h3]

theorem lowAt_lowBytes (x : BitVec 64) (n : Nat) (hn : n ≤ 8) (i : Nat) (hi : i < 64) : (lowAt (lowBytes x n) 0 n).getLsbD i = (decide (i < 8 * n) && x.getLsbD i) := by
  rw [lowAt_bit _ n hn i hi]
  by_cases h : i < 8 * n
  · have h1 : i / 8 < (lowBytes x n).length := by rw [lowBytes_length]; omega
    rw [byteAt_get h1]
    have h2 : 8 * (i / 8) + i % 8 = i := by omega
    have h3 : i % 8 < 8 := by omega
    simp [lowBytes, h, BitVec.getLsbD_setWidth, BitVec.getLsbD_ushiftRight, h2, h3]
  · simp [h]

theorem low32_back (x : BitVec 32) : (lowAt (lowBytes (x.setWidth 64) 4) 0 4).setWidth 32 = x := by
  apply BitVec.eq_of_getLsbD_eq
  intro i hi
  rw [BitVec.getLsbD_setWidth, lowAt_lowBytes _ 4 (by omega) i (by omega), BitVec.getLsbD_setWidth]
  have h1 : i < 8 * 4 := by omega
  have h2 : i < 64 := by omega
  simp [hi, h2]
theorem low64_back (x : BitVec 64) : lowAt (lowBytes x 8) 0 8 = x := by
  apply BitVec.eq_of_getLsbD_eq
  intro i hi
  rw [lowAt_lowBytes _ 8 (by omega) i hi]
  have h1 : i < 8 * 8 := by omega
  simp [h1]

theorem rev32_rev (x : BitVec 32) : rev32 (rev32 x) = x := by
  apply BitVec.eq_of_getLsbD_eq
  intro i hi
  have h2 : i = 0 ∨ i = 1 ∨ i = 2 ∨ i = 3 ∨ i = 4 ∨ i = 5 ∨ i = 6 ∨ i = 7 ∨ i = 8 ∨ i = 9 ∨ i = 10 ∨ i = 11 ∨ i = 12 ∨ i = 13 ∨ i = 14 ∨ i = 15 ∨ i = 16 ∨ i = 17 ∨ i = 18 ∨ i = 19 ∨ i = 20 ∨ i = 21 ∨ i = 22 ∨ i = 23 ∨ i = 24 ∨ i = 25 ∨ i = 26 ∨ i = 27 ∨ i = 28 ∨ i = 29 ∨ i = 30 ∨ i = 31 := by omega
  rcases h2 with rfl | rfl | rfl | rfl | rfl | rfl | rfl | rfl | rfl | rfl | rfl | rfl | rfl | rfl | rfl | rfl | rfl | rfl | rfl | rfl | rfl | rfl | rfl | rfl | rfl | rfl | rfl | rfl | rfl | rfl | rfl | rfl <;> simp [rev32, BitVec.getLsbD_ushiftRight]

theorem xorB_back (xs ys : List (BitVec 8)) : xorB (xorB xs ys) ys = xs.take (min xs.length ys.length) := by
  apply List.ext_getElem
  · simp [xorB]
  · intro i h1 h2
    simp only [xorB, List.getElem_zipWith, List.getElem_take]
    rw [BitVec.xor_assoc, BitVec.xor_self, BitVec.xor_zero]

/-! ### Parts of slices -/

theorem Sl.hi {H : Heap} {v : Value} {xs : List (BitVec 8)} (h : Sl H v xs) {k : Int} (h0 : 0 ≤ k) (hk : k.toNat ≤ xs.length) :
    ∃ w, sliceA Try.prog 47 v none (some (.int .i64 k)) none = some w ∧ Sl H w (xs.take k.toNat) ∧ isNil w = isNil v := by
  obtain ⟨w, e1, e2, e3⟩ := SV.slice h Try.underlying47 sz_5 (lo := none) (hi := some (.int .i64 k)) (mx := none) (l := 0) (h := k.toNat) (m := fun c => c) (by omega) (by simpa using hk) (by
    intro c hc
    simp only [List.length_map] at hc ⊢
    refine ⟨?_, by omega⟩
    have : k ≤ c := by omega
    simp [boundsA, boundA, intA, h0, this])
  exact ⟨w, e1, by simpa [Sl, List.map_take] using e2, e3⟩

theorem Sl.lo {H : Heap} {v : Value} {xs : List (BitVec 8)} (h : Sl H v xs) {k : Int} (h0 : 0 ≤ k) (hk : k.toNat ≤ xs.length) :
    ∃ w, sliceA Try.prog 47 v (some (.int .i64 k)) none none = some w ∧ Sl H w (xs.drop k.toNat) ∧ isNil w = isNil v := by
  obtain ⟨w, e1, e2, e3⟩ := SV.slice h Try.underlying47 sz_5 (lo := some (.int .i64 k)) (hi := none) (mx := none) (l := k.toNat) (h := xs.length) (m := fun c => c) (by simpa using hk) (by simp) (by
    intro c hc
    simp only [List.length_map] at hc ⊢
    refine ⟨?_, by omega⟩
    have : k ≤ xs.length := by omega
    simp [boundsA, boundA, intA, h0, this])
  refine ⟨w, e1, ?_, e3⟩
  have e : xs.map u8 = (xs.map u8).take xs.length := by rw [List.take_of_length_le (by simp)]
  rw [← e] at e2
  simpa [Sl, List.map_drop] using e2

theorem Sl.mid {H : Heap} {v : Value} {xs : List (BitVec 8)} (h : Sl H v xs) {j k : Int} (h0 : 0 ≤ j) (hjk : j ≤ k) (hk : k.toNat ≤ xs.length) :
    ∃ w, sliceA Try.prog 47 v (some (.int .i64 j)) (some (.int .i64 k)) none = some w ∧ Sl H w ((xs.take k.toNat).drop j.toNat) ∧ isNil w = isNil v := by
  obtain ⟨w, e1, e2, e3⟩ := SV.slice h Try.underlying47 sz_5 (lo := some (.int .i64 j)) (hi := some (.int .i64 k)) (mx := none) (l := j.toNat) (h := k.toNat) (m := fun c => c) (by omega) (by simpa using hk) (by
    intro c hc
    simp only [List.length_map] at hc ⊢
    refine ⟨?_, by omega⟩
    have h1 : k ≤ c := by omega
    have h2 : 0 ≤ k := by omega
    have h3 : j ≤ (k.toNat : Nat) := by omega
    have h4 : j ≤ max k 0 := by omega
    simp [boundsA, boundA, intA, h0, h1, h2, h3, h4])
  exact ⟨w, e1, by simpa [Sl, List.map_take, List.map_drop] using e2, e3⟩

theorem Sl.mid3 {H : Heap} {v : Value} {xs : List (BitVec 8)} (h : Sl H v xs) {j k : Int} (h0 : 0 ≤ j) (hjk : j ≤ k) (hk : k.toNat ≤ xs.length) :
    ∃ w, sliceA Try.prog 47 v (some (.int .i64 j)) (some (.int .i64 k)) (some (.int .i64 k)) = some w ∧ Sl H w ((xs.take k.toNat).drop j.toNat) ∧ isNil w = isNil v := by
  obtain ⟨w, e1, e2, e3⟩ := SV.slice h Try.underlying47 sz_5 (lo := some (.int .i64 j)) (hi := some (.int .i64 k)) (mx := some (.int .i64 k)) (l := j.toNat) (h := k.toNat) (m := fun c => k.toNat) (by omega) (by simpa using hk) (by
    intro c hc
    simp only [List.length_map] at hc ⊢
    refine ⟨?_, by omega⟩
    have h1 : k ≤ c := by omega
    have h2 : 0 ≤ k := by omega
    have h3 : j ≤ (k.toNat : Nat) := by omega
    have h4 : j ≤ max k 0 := by omega
    have h5 : k ≤ max k 0 := by omega
    simp [boundsA, boundA, intA, h0, h1, h2, h3, h4, h5])
  exact ⟨w, e1, by simpa [Sl, List.map_take, List.map_drop] using e2, e3⟩

/-- What is left of a slice that may be appended to may be appended to. -/
theorem Ow.lo {H : Heap} {B : Nat} {v : Value} {xs : List (BitVec 8)} (h : Ow H B v xs) {k : Int} (h0 : 0 ≤ k) (hk : k.toNat ≤ xs.length) :
    ∃ w, sliceA Try.prog 47 v (some (.int .i64 k)) none none = some w ∧ Ow H B w (xs.drop k.toNat) ∧ blockOf w = blockOf v := by
  rcases h with ⟨rfl, hx⟩ | ⟨i, o, c, ex, vs, rfl, hc, hBi, hi, hd, ho⟩
  · have hx' : xs = [] := by simpa using hx
    subst hx'
    have hk0 : k = 0 := by simp at hk; omega
    subst hk0
    exact ⟨.slice none 0 0, by simp [sliceA, Try.underlying47, sz_5, boundsA, boundA, intA], .inl ⟨rfl, by simp⟩, rfl⟩
  · have h2 : k ≤ xs.length := by omega
    refine ⟨.slice (some ⟨i, o + k.toNat * 1, some 1⟩) (xs.length - k.toNat) (c - k.toNat), by simp [sliceA, Try.underlying47, sz_5, boundsA, boundA, intA, h0, h2], .inr ⟨i, o + k.toNat * 1, c - k.toNat, ex, vs, by simp, by simp at hc ⊢; omega, hBi, hi, ?_, ?_⟩, rfl⟩
    · rw [Nat.mul_one, ← List.drop_drop, hd, List.map_drop]
    · have := congrArg List.length hd
      simp at this; omega

/-! ### The law WordBack -/

theorem left32 (x : BitVec 32) : rot x ((32 : Int).tmod 32) = x := by
  have h : rot x ((32 : Int).tmod 32) = rot x 0 := rot_same (by decide)
  rw [h]
  apply BitVec.eq_of_getLsbD_eq
  intro i hi
  rw [rot_bit x 0 i hi]
  congr 1; omega

theorem turn_back (x : BitVec 32) (k : Int) : rot (rot x (k.tmod 32)) (-(k.tmod 32)) = x := by
  rw [rot_rot]
  have h : rot x (k.tmod 32 + -(k.tmod 32)) = rot x ((32 : Int).tmod 32) := rot_same (by have : (32 : Int).tmod 32 = 0 := rfl; omega)
  rw [h]; exact left32 x

theorem turn_more (x : BitVec 32) (k : Int) : rot (rot x (k.tmod 32)) ((5 : Int).tmod 32) = rot x ((k + 5).tmod 32) := by
  rw [rot_rot]
  apply rot_same
  have := tmod_emod k 32
  have := tmod_emod (k + 5) 32
  have : (5 : Int).tmod 32 = 5 := rfl
  omega

set_option maxRecDepth 20000 in
set_option maxHeartbeats 4000000 in
theorem wordBack_fun {H : Heap} (x : BitVec 32) (y : BitVec 64) (n : Int) (hn : I64 n) {v w : Value} {xs ys : List (BitVec 8)} (hv : Sl H v xs) (hl : xs.length ≤ 140737488351232) (hw : Sl H w ys) (hl2 : ys.length ≤ 140737488351232) : Fun Try.prog 13 [u32 x, u64 y, .int .i64 n, v, w] H fun r _ => r = .bool true := by
  have hn' := tmod_bound n 1000 (by omega)
  obtain ⟨m, hm⟩ : ∃ m, m = n.tmod 1000 := ⟨_, rfl⟩
  have hmin : (if (ys.length : Int) < xs.length then (ys.length : Int) else xs.length) = (min xs.length ys.length : Nat) := by split <;> omega
  refine fun_of Try.func13 rfl (by decide +kernel) (Nat.le_of_ble_eq_true rfl) ?_
  unfold Try.f13
  simp (maxSteps := 10000000) (disch := omega) only [go_sem, ↓reduceIte, Nat.reduceLT, Nat.reduceLeDiff, Nat.reduceEqDiff, Nat.reduceAdd, BitVec.reduceOfInt, BitVec.reduceSetWidth, BitVec.reduceBEq, BitVec.reduceBNe, BitVec.reduceEq, BitVec.reduceNe, Bool.true_eq_false, Bool.false_eq_true, beq_self_eq_true, Option.map_some, Option.map_none, Option.bind_some, List.getElem?_cons_zero, List.getElem?_cons_succ, List.getElem?_toArray, List.map_cons, List.map_nil, true_and, and_true, forall_const, ne_eq, not_true_eq_false, not_false_eq_true, false_implies, true_implies, reduceCtorEq, Int.reduceToNat, Int.cast_ofNat_Int, Int.natCast_zero, Int.natCast_one, bne_self_eq_false, Int.reduceLT, Int.reduceLE, Int.reduceEq, Int.reduceNe, Bool.not_true, Bool.not_false, if_true, if_false, false_and, and_false, or_false, or_true, true_or, false_or, List.length_cons, List.length_nil, Int.toNat_natCast, List.length_map, decide_true, decide_false, hv.len]
  have early : ∀ {K : Value → Heap → Prop}, (∀ H', H.size ≤ H'.size → K (.bool true) H') → callK Try.prog H.size (.func 38) [] H K := fun hK =>
    (awake1_fun _).call (Nat.le_refl _) (by rintro _ H3 g7 g8 rfl; exact hK H3 g7)
  by_cases h1 : (200 : Int) < xs.length
  · simp (maxSteps := 10000000) (disch := omega) only [go_sem, ↓reduceIte, Nat.reduceLT, Nat.reduceLeDiff, Nat.reduceEqDiff, Nat.reduceAdd, BitVec.reduceOfInt, BitVec.reduceSetWidth, BitVec.reduceBEq, BitVec.reduceBNe, BitVec.reduceEq, BitVec.reduceNe, Bool.true_eq_false, Bool.false_eq_true, beq_self_eq_true, Option.map_some, Option.map_none, Option.bind_some, List.getElem?_cons_zero, List.getElem?_cons_succ, List.getElem?_toArray, List.map_cons, List.map_nil, true_and, and_true, forall_const, ne_eq, not_true_eq_false, not_false_eq_true, false_implies, true_implies, reduceCtorEq, Int.reduceToNat, Int.cast_ofNat_Int, Int.natCast_zero, Int.natCast_one, bne_self_eq_false, Int.reduceLT, Int.reduceLE, Int.reduceEq, Int.reduceNe, Bool.not_true, Bool.not_false, if_true, if_false, false_and, and_false, or_false, or_true, true_or, false_or, List.length_cons, List.length_nil, Int.toNat_natCast, List.length_map, decide_true, decide_false, h1]
    refine early fun H' _ => ?_
    simp (maxSteps := 10000000) (disch := omega) only [go_sem, ↓reduceIte, Nat.reduceLT, Nat.reduceLeDiff, Nat.reduceEqDiff, Nat.reduceAdd, BitVec.reduceOfInt, BitVec.reduceSetWidth, BitVec.reduceBEq, BitVec.reduceBNe, BitVec.reduceEq, BitVec.reduceNe, Bool.true_eq_false, Bool.false_eq_true, beq_self_eq_true, Option.map_some, Option.map_none, Option.bind_some, List.getElem?_cons_zero, List.getElem?_cons_succ, List.getElem?_toArray, List.map_cons, List.map_nil, true_and, and_true, forall_const, ne_eq, not_true_eq_false, not_false_eq_true, false_implies, true_implies, reduceCtorEq, Int.reduceToNat, Int.cast_ofNat_Int, Int.natCast_zero, Int.natCast_one, bne_self_eq_false, Int.reduceLT, Int.reduceLE, Int.reduceEq, Int.reduceNe, Bool.not_true, Bool.not_false, if_true, if_false, false_and, and_false, or_false, or_true, true_or, false_or, List.length_cons, List.length_nil, Int.toNat_natCast, List.length_map, decide_true, decide_false]
  · simp (maxSteps := 10000000) (disch := omega) only [go_sem, ↓reduceIte, Nat.reduceLT, Nat.reduceLeDiff, Nat.reduceEqDiff, Nat.reduceAdd, BitVec.reduceOfInt, BitVec.reduceSetWidth, BitVec.reduceBEq, BitVec.reduceBNe, BitVec.reduceEq, BitVec.reduceNe, Bool.true_eq_false, Bool.false_eq_true, beq_self_eq_true, Option.map_some, Option.map_none, Option.bind_some, List.getElem?_cons_zero, List.getElem?_cons_succ, List.getElem?_toArray, List.map_cons, List.map_nil, true_and, and_true, forall_const, ne_eq, not_true_eq_false, not_false_eq_true, false_implies, true_implies, reduceCtorEq, Int.reduceToNat, Int.cast_ofNat_Int, Int.natCast_zero, Int.natCast_one, bne_self_eq_false, Int.reduceLT, Int.reduceLE, Int.reduceEq, Int.reduceNe, Bool.not_true, Bool.not_false, if_true, if_false, false_and, and_false, or_false, or_true, true_or, false_or, List.length_cons, List.length_nil, Int.toNat_natCast, List.length_map, decide_true, decide_false, h1, hw.len]
    by_cases h2 : (200 : Int) < ys.length
    · simp (maxSteps := 10000000) (disch := omega) only [go_sem, ↓reduceIte, Nat.reduceLT, Nat.reduceLeDiff, Nat.reduceEqDiff, Nat.reduceAdd, BitVec.reduceOfInt, BitVec.reduceSetWidth, BitVec.reduceBEq, BitVec.reduceBNe, BitVec.reduceEq, BitVec.reduceNe, Bool.true_eq_false, Bool.false_eq_true, beq_self_eq_true, Option.map_some, Option.map_none, Option.bind_some, List.getElem?_cons_zero, List.getElem?_cons_succ, List.getElem?_toArray, List.map_cons, List.map_nil, true_and, and_true, forall_const, ne_eq, not_true_eq_false, not_false_eq_true, false_implies, true_implies, reduceCtorEq, Int.reduceToNat, Int.cast_ofNat_Int, Int.natCast_zero, Int.natCast_one, bne_self_eq_false, Int.reduceLT, Int.reduceLE, Int.reduceEq, Int.reduceNe, Bool.not_true, Bool.not_false, if_true, if_false, false_and, and_false, or_false, or_true, true_or, false_or, List.length_cons, List.length_nil, Int.toNat_natCast, List.length_map, decide_true, decide_false, h2]
      refine early fun H' _ => ?_
      simp (maxSteps := 10000000) (disch := omega) only [go_sem, ↓reduceIte, Nat.reduceLT, Nat.reduceLeDiff, Nat.reduceEqDiff, Nat.reduceAdd, BitVec.reduceOfInt, BitVec.reduceSetWidth, BitVec.reduceBEq, BitVec.reduceBNe, BitVec.reduceEq, BitVec.reduceNe, Bool.true_eq_false, Bool.false_eq_true, beq_self_eq_true, Option.map_some, Option.map_none, Option.bind_some, List.getElem?_cons_zero, List.getElem?_cons_succ, List.getElem?_toArray, List.map_cons, List.map_nil, true_and, and_true, forall_const, ne_eq, not_true_eq_false, not_false_eq_true, false_implies, true_implies, reduceCtorEq, Int.reduceToNat, Int.cast_ofNat_Int, Int.natCast_zero, Int.natCast_one, bne_self_eq_false, Int.reduceLT, Int.reduceLE, Int.reduceEq, Int.reduceNe, Bool.not_true, Bool.not_false, if_true, if_false, false_and, and_false, or_false, or_true, true_or, false_or, List.length_cons, List.length_nil, Int.toNat_natCast, List.length_map, decide_true, decide_false]
    · simp (maxSteps := 10000000) (disch := omega) only [go_sem, ↓reduceIte, Nat.reduceLT, Nat.reduceLeDiff, Nat.reduceEqDiff, Nat.reduceAdd, BitVec.reduceOfInt, BitVec.reduceSetWidth, BitVec.reduceBEq, BitVec.reduceBNe, BitVec.reduceEq, BitVec.reduceNe, Bool.true_eq_false, Bool.false_eq_true, beq_self_eq_true, Option.map_some, Option.map_none, Option.bind_some, List.getElem?_cons_zero, List.getElem?_cons_succ, List.getElem?_toArray, List.map_cons, List.map_nil, true_and, and_true, forall_const, ne_eq, not_true_eq_false, not_false_eq_true, false_implies, true_implies, reduceCtorEq, Int.reduceToNat, Int.cast_ofNat_Int, Int.natCast_zero, Int.natCast_one, bne_self_eq_false, Int.reduceLT, Int.reduceLE, Int.reduceEq, Int.reduceNe, Bool.not_true, Bool.not_false, if_true, if_false, false_and, and_false, or_false, or_true, true_or, false_or, List.length_cons, List.length_nil, Int.toNat_natCast, List.length_map, decide_true, decide_false, h2, hv.len, hw.len, hmin, ← hm]
      refine draw_of 62 (by kernel_rfl) ?_
      simp (maxSteps := 10000000) (disch := omega) only [go_sem, ↓reduceIte, Nat.reduceLT, Nat.reduceLeDiff, Nat.reduceEqDiff, Nat.reduceAdd, BitVec.reduceOfInt, BitVec.reduceSetWidth, BitVec.reduceBEq, BitVec.reduceBNe, BitVec.reduceEq, BitVec.reduceNe, Bool.true_eq_false, Bool.false_eq_true, beq_self_eq_true, Option.map_some, Option.map_none, Option.bind_some, List.getElem?_cons_zero, List.getElem?_cons_succ, List.getElem?_toArray, List.map_cons, List.map_nil, true_and, and_true, forall_const, ne_eq, not_true_eq_false, not_false_eq_true, false_implies, true_implies, reduceCtorEq, Int.reduceToNat, Int.cast_ofNat_Int, Int.natCast_zero, Int.natCast_one, bne_self_eq_false, Int.reduceLT, Int.reduceLE, Int.reduceEq, Int.reduceNe, Bool.not_true, Bool.not_false, if_true, if_false, false_and, and_false, or_false, or_true, true_or, false_or, List.length_cons, List.length_nil, Int.toNat_natCast, List.length_map, decide_true, decide_false]
      refine (putLow32_fun _ _).call (Nat.le_refl _) ?_
      intro v1 H1 a1 a2 a3
      simp (maxSteps := 10000000) (disch := omega) only [go_sem, ↓reduceIte, Nat.reduceLT, Nat.reduceLeDiff, Nat.reduceEqDiff, Nat.reduceAdd, BitVec.reduceOfInt, BitVec.reduceSetWidth, BitVec.reduceBEq, BitVec.reduceBNe, BitVec.reduceEq, BitVec.reduceNe, Bool.true_eq_false, Bool.false_eq_true, beq_self_eq_true, Option.map_some, Option.map_none, Option.bind_some, List.getElem?_cons_zero, List.getElem?_cons_succ, List.getElem?_toArray, List.map_cons, List.map_nil, true_and, and_true, forall_const, ne_eq, not_true_eq_false, not_false_eq_true, false_implies, true_implies, reduceCtorEq, Int.reduceToNat, Int.cast_ofNat_Int, Int.natCast_zero, Int.natCast_one, bne_self_eq_false, Int.reduceLT, Int.reduceLE, Int.reduceEq, Int.reduceNe, Bool.not_true, Bool.not_false, if_true, if_false, false_and, and_false, or_false, or_true, true_or, false_or, List.length_cons, List.length_nil, Int.toNat_natCast, List.length_map, decide_true, decide_false]
      refine (low32_fun a3.sl (by rw [lowBytes_length]; omega) 0).call (Nat.le_refl _) ?_
      simp (maxSteps := 10000000) (disch := omega) only [go_sem, ↓reduceIte, Nat.reduceLT, Nat.reduceLeDiff, Nat.reduceEqDiff, Nat.reduceAdd, BitVec.reduceOfInt, BitVec.reduceSetWidth, BitVec.reduceBEq, BitVec.reduceBNe, BitVec.reduceEq, BitVec.reduceNe, Bool.true_eq_false, Bool.false_eq_true, beq_self_eq_true, Option.map_some, Option.map_none, Option.bind_some, List.getElem?_cons_zero, List.getElem?_cons_succ, List.getElem?_toArray, List.map_cons, List.map_nil, true_and, and_true, forall_const, ne_eq, not_true_eq_false, not_false_eq_true, false_implies, true_implies, reduceCtorEq, Int.reduceToNat, Int.cast_ofNat_Int, Int.natCast_zero, Int.natCast_one, bne_self_eq_false, Int.reduceLT, Int.reduceLE, Int.reduceEq, Int.reduceNe, Bool.not_true, Bool.not_false, if_true, if_false, false_and, and_false, or_false, or_true, true_or, false_or, List.length_cons, List.length_nil, Int.toNat_natCast, List.length_map, decide_true, decide_false, low32_back]
      refine (putHigh32_fun _ _).call (Nat.le_refl _) ?_
      intro v2 H2 b1 b2 b3
      simp (maxSteps := 10000000) (disch := omega) only [go_sem, ↓reduceIte, Nat.reduceLT, Nat.reduceLeDiff, Nat.reduceEqDiff, Nat.reduceAdd, BitVec.reduceOfInt, BitVec.reduceSetWidth, BitVec.reduceBEq, BitVec.reduceBNe, BitVec.reduceEq, BitVec.reduceNe, Bool.true_eq_false, Bool.false_eq_true, beq_self_eq_true, Option.map_some, Option.map_none, Option.bind_some, List.getElem?_cons_zero, List.getElem?_cons_succ, List.getElem?_toArray, List.map_cons, List.map_nil, true_and, and_true, forall_const, ne_eq, not_true_eq_false, not_false_eq_true, false_implies, true_implies, reduceCtorEq, Int.reduceToNat, Int.cast_ofNat_Int, Int.natCast_zero, Int.natCast_one, bne_self_eq_false, Int.reduceLT, Int.reduceLE, Int.reduceEq, Int.reduceNe, Bool.not_true, Bool.not_false, if_true, if_false, false_and, and_false, or_false, or_true, true_or, false_or, List.length_cons, List.length_nil, Int.toNat_natCast, List.length_map, decide_true, decide_false]
      refine (high32_fun b3.sl (by rw [lowBytes_length]; omega) 0).call (Nat.le_refl _) ?_
      simp (maxSteps := 10000000) (disch := omega) only [go_sem, ↓reduceIte, Nat.reduceLT, Nat.reduceLeDiff, Nat.reduceEqDiff, Nat.reduceAdd, BitVec.reduceOfInt, BitVec.reduceSetWidth, BitVec.reduceBEq, BitVec.reduceBNe, BitVec.reduceEq, BitVec.reduceNe, Bool.true_eq_false, Bool.false_eq_true, beq_self_eq_true, Option.map_some, Option.map_none, Option.bind_some, List.getElem?_cons_zero, List.getElem?_cons_succ, List.getElem?_toArray, List.map_cons, List.map_nil, true_and, and_true, forall_const, ne_eq, not_true_eq_false, not_false_eq_true, false_implies, true_implies, reduceCtorEq, Int.reduceToNat, Int.cast_ofNat_Int, Int.natCast_zero, Int.natCast_one, bne_self_eq_false, Int.reduceLT, Int.reduceLE, Int.reduceEq, Int.reduceNe, Bool.not_true, Bool.not_false, if_true, if_false, false_and, and_false, or_false, or_true, true_or, false_or, List.length_cons, List.length_nil, Int.toNat_natCast, List.length_map, decide_true, decide_false, low32_back, rev32_rev]
      refine (putLow64_fun _ _).call (Nat.le_refl _) ?_
      intro v3 H3 c1 c2 c3
      simp (maxSteps := 10000000) (disch := omega) only [go_sem, ↓reduceIte, Nat.reduceLT, Nat.reduceLeDiff, Nat.reduceEqDiff, Nat.reduceAdd, BitVec.reduceOfInt, BitVec.reduceSetWidth, BitVec.reduceBEq, BitVec.reduceBNe, BitVec.reduceEq, BitVec.reduceNe, Bool.true_eq_false, Bool.false_eq_true, beq_self_eq_true, Option.map_some, Option.map_none, Option.bind_some, List.getElem?_cons_zero, List.getElem?_cons_succ, List.getElem?_toArray, List.map_cons, List.map_nil, true_and, and_true, forall_const, ne_eq, not_true_eq_false, not_false_eq_true, false_implies, true_implies, reduceCtorEq, Int.reduceToNat, Int.cast_ofNat_Int, Int.natCast_zero, Int.natCast_one, bne_self_eq_false, Int.reduceLT, Int.reduceLE, Int.reduceEq, Int.reduceNe, Bool.not_true, Bool.not_false, if_true, if_false, false_and, and_false, or_false, or_true, true_or, false_or, List.length_cons, List.length_nil, Int.toNat_natCast, List.length_map, decide_true, decide_false]
      refine (low64_fun c3.sl (by rw [lowBytes_length]; omega) 0).call (Nat.le_refl _) ?_
      simp (maxSteps := 10000000) (disch := omega) only [go_sem, ↓reduceIte, Nat.reduceLT, Nat.reduceLeDiff, Nat.reduceEqDiff, Nat.reduceAdd, BitVec.reduceOfInt, BitVec.reduceSetWidth, BitVec.reduceBEq, BitVec.reduceBNe, BitVec.reduceEq, BitVec.reduceNe, Bool.true_eq_false, Bool.false_eq_true, beq_self_eq_true, Option.map_some, Option.map_none, Option.bind_some, List.getElem?_cons_zero, List.getElem?_cons_succ, List.getElem?_toArray, List.map_cons, List.map_nil, true_and, and_true, forall_const, ne_eq, not_true_eq_false, not_false_eq_true, false_implies, true_implies, reduceCtorEq, Int.reduceToNat, Int.cast_ofNat_Int, Int.natCast_zero, Int.natCast_one, bne_self_eq_false, Int.reduceLT, Int.reduceLE, Int.reduceEq, Int.reduceNe, Bool.not_true, Bool.not_false, if_true, if_false, false_and, and_false, or_false, or_true, true_or, false_or, List.length_cons, List.length_nil, Int.toNat_natCast, List.length_map, decide_true, decide_false, low64_back]
      refine (left_fun _ _).call (Nat.le_refl _) ?_
      simp (maxSteps := 10000000) (disch := omega) only [go_sem, ↓reduceIte, Nat.reduceLT, Nat.reduceLeDiff, Nat.reduceEqDiff, Nat.reduceAdd, BitVec.reduceOfInt, BitVec.reduceSetWidth, BitVec.reduceBEq, BitVec.reduceBNe, BitVec.reduceEq, BitVec.reduceNe, Bool.true_eq_false, Bool.false_eq_true, beq_self_eq_true, Option.map_some, Option.map_none, Option.bind_some, List.getElem?_cons_zero, List.getElem?_cons_succ, List.getElem?_toArray, List.map_cons, List.map_nil, true_and, and_true, forall_const, ne_eq, not_true_eq_false, not_false_eq_true, false_implies, true_implies, reduceCtorEq, Int.reduceToNat, Int.cast_ofNat_Int, Int.natCast_zero, Int.natCast_one, bne_self_eq_false, Int.reduceLT, Int.reduceLE, Int.reduceEq, Int.reduceNe, Bool.not_true, Bool.not_false, if_true, if_false, false_and, and_false, or_false, or_true, true_or, false_or, List.length_cons, List.length_nil, Int.toNat_natCast, List.length_map, decide_true, decide_false]
      refine (right_fun _ _ ⟨by omega, by omega⟩).call (Nat.le_refl _) ?_
      simp (maxSteps := 10000000) (disch := omega) only [go_sem, ↓reduceIte, Nat.reduceLT, Nat.reduceLeDiff, Nat.reduceEqDiff, Nat.reduceAdd, BitVec.reduceOfInt, BitVec.reduceSetWidth, BitVec.reduceBEq, BitVec.reduceBNe, BitVec.reduceEq, BitVec.reduceNe, Bool.true_eq_false, Bool.false_eq_true, beq_self_eq_true, Option.map_some, Option.map_none, Option.bind_some, List.getElem?_cons_zero, List.getElem?_cons_succ, List.getElem?_toArray, List.map_cons, List.map_nil, true_and, and_true, forall_const, ne_eq, not_true_eq_false, not_false_eq_true, false_implies, true_implies, reduceCtorEq, Int.reduceToNat, Int.cast_ofNat_Int, Int.natCast_zero, Int.natCast_one, bne_self_eq_false, Int.reduceLT, Int.reduceLE, Int.reduceEq, Int.reduceNe, Bool.not_true, Bool.not_false, if_true, if_false, false_and, and_false, or_false, or_true, true_or, false_or, List.length_cons, List.length_nil, Int.toNat_natCast, List.length_map, decide_true, decide_false, turn_back]
      refine (left_fun _ _).call (Nat.le_refl _) ?_
      simp (maxSteps := 10000000) (disch := omega) only [go_sem, ↓reduceIte, Nat.reduceLT, Nat.reduceLeDiff, Nat.reduceEqDiff, Nat.reduceAdd, BitVec.reduceOfInt, BitVec.reduceSetWidth, BitVec.reduceBEq, BitVec.reduceBNe, BitVec.reduceEq, BitVec.reduceNe, Bool.true_eq_false, Bool.false_eq_true, beq_self_eq_true, Option.map_some, Option.map_none, Option.bind_some, List.getElem?_cons_zero, List.getElem?_cons_succ, List.getElem?_toArray, List.map_cons, List.map_nil, true_and, and_true, forall_const, ne_eq, not_true_eq_false, not_false_eq_true, false_implies, true_implies, reduceCtorEq, Int.reduceToNat, Int.cast_ofNat_Int, Int.natCast_zero, Int.natCast_one, bne_self_eq_false, Int.reduceLT, Int.reduceLE, Int.reduceEq, Int.reduceNe, Bool.not_true, Bool.not_false, if_true, if_false, false_and, and_false, or_false, or_true, true_or, false_or, List.length_cons, List.length_nil, Int.toNat_natCast, List.length_map, decide_true, decide_false, left32]
      refine (left_fun _ _).call (Nat.le_refl _) ?_
      simp (maxSteps := 10000000) (disch := omega) only [go_sem, ↓reduceIte, Nat.reduceLT, Nat.reduceLeDiff, Nat.reduceEqDiff, Nat.reduceAdd, BitVec.reduceOfInt, BitVec.reduceSetWidth, BitVec.reduceBEq, BitVec.reduceBNe, BitVec.reduceEq, BitVec.reduceNe, Bool.true_eq_false, Bool.false_eq_true, beq_self_eq_true, Option.map_some, Option.map_none, Option.bind_some, List.getElem?_cons_zero, List.getElem?_cons_succ, List.getElem?_toArray, List.map_cons, List.map_nil, true_and, and_true, forall_const, ne_eq, not_true_eq_false, not_false_eq_true, false_implies, true_implies, reduceCtorEq, Int.reduceToNat, Int.cast_ofNat_Int, Int.natCast_zero, Int.natCast_one, bne_self_eq_false, Int.reduceLT, Int.reduceLE, Int.reduceEq, Int.reduceNe, Bool.not_true, Bool.not_false, if_true, if_false, false_and, and_false, or_false, or_true, true_or, false_or, List.length_cons, List.length_nil, Int.toNat_natCast, List.length_map, decide_true, decide_false]
      refine (left_fun _ _).call (Nat.le_refl _) ?_
      simp (maxSteps := 10000000) (disch := omega) only [go_sem, ↓reduceIte, Nat.reduceLT, Nat.reduceLeDiff, Nat.reduceEqDiff, Nat.reduceAdd, BitVec.reduceOfInt, BitVec.reduceSetWidth, BitVec.reduceBEq, BitVec.reduceBNe, BitVec.reduceEq, BitVec.reduceNe, Bool.true_eq_false, Bool.false_eq_true, beq_self_eq_true, Option.map_some, Option.map_none, Option.bind_some, List.getElem?_cons_zero, List.getElem?_cons_succ, List.getElem?_toArray, List.map_cons, List.map_nil, true_and, and_true, forall_const, ne_eq, not_true_eq_false, not_false_eq_true, false_implies, true_implies, reduceCtorEq, Int.reduceToNat, Int.cast_ofNat_Int, Int.natCast_zero, Int.natCast_one, bne_self_eq_false, Int.reduceLT, Int.reduceLE, Int.reduceEq, Int.reduceNe, Bool.not_true, Bool.not_false, if_true, if_false, false_and, and_false, or_false, or_true, true_or, false_or, List.length_cons, List.length_nil, Int.toNat_natCast, List.length_map, decide_true, decide_false, turn_more, wrap_i64]
      refine (left_fun _ _).call (Nat.le_refl _) ?_
      simp (maxSteps := 10000000) (disch := omega) only [go_sem, ↓reduceIte, Nat.reduceLT, Nat.reduceLeDiff, Nat.reduceEqDiff, Nat.reduceAdd, BitVec.reduceOfInt, BitVec.reduceSetWidth, BitVec.reduceBEq, BitVec.reduceBNe, BitVec.reduceEq, BitVec.reduceNe, Bool.true_eq_false, Bool.false_eq_true, beq_self_eq_true, Option.map_some, Option.map_none, Option.bind_some, List.getElem?_cons_zero, List.getElem?_cons_succ, List.getElem?_toArray, List.map_cons, List.map_nil, true_and, and_true, forall_const, ne_eq, not_true_eq_false, not_false_eq_true, false_implies, true_implies, reduceCtorEq, Int.reduceToNat, Int.cast_ofNat_Int, Int.natCast_zero, Int.natCast_one, bne_self_eq_false, Int.reduceLT, Int.reduceLE, Int.reduceEq, Int.reduceNe, Bool.not_true, Bool.not_false, if_true, if_false, false_and, and_false, or_false, or_true, true_or, false_or, List.length_cons, List.length_nil, Int.toNat_natCast, List.length_map, decide_true, decide_false]
      have r1 : Sl H3 v xs := ((hv.mono (.keep a2)).mono (.keep b2)).mono (.keep c2)
      have r2 : Sl H3 w ys := ((hw.mono (.keep a2)).mono (.keep b2)).mono (.keep c2)
      refine (xor_fun r1 r2 hl hl2).call (Nat.le_refl _) ?_
      intro v4 H4 d1 d2 d3
      simp (maxSteps := 10000000) (disch := omega) only [go_sem, ↓reduceIte, Nat.reduceLT, Nat.reduceLeDiff, Nat.reduceEqDiff, Nat.reduceAdd, BitVec.reduceOfInt, BitVec.reduceSetWidth, BitVec.reduceBEq, BitVec.reduceBNe, BitVec.reduceEq, BitVec.reduceNe, Bool.true_eq_false, Bool.false_eq_true, beq_self_eq_true, Option.map_some, Option.map_none, Option.bind_some, List.getElem?_cons_zero, List.getElem?_cons_succ, List.getElem?_toArray, List.map_cons, List.map_nil, true_and, and_true, forall_const, ne_eq, not_true_eq_false, not_false_eq_true, false_implies, true_implies, reduceCtorEq, Int.reduceToNat, Int.cast_ofNat_Int, Int.natCast_zero, Int.natCast_one, bne_self_eq_false, Int.reduceLT, Int.reduceLE, Int.reduceEq, Int.reduceNe, Bool.not_true, Bool.not_false, if_true, if_false, false_and, and_false, or_false, or_true, true_or, false_or, List.length_cons, List.length_nil, Int.toNat_natCast, List.length_map, decide_true, decide_false]
      refine (xor_fun d3.sl (r2.mono (.keep d2)) (by simp [xorB]; omega) hl2).call (Nat.le_refl _) ?_
      intro v5 H5 e1 e2 e3
      simp (maxSteps := 10000000) (disch := omega) only [go_sem, ↓reduceIte, Nat.reduceLT, Nat.reduceLeDiff, Nat.reduceEqDiff, Nat.reduceAdd, BitVec.reduceOfInt, BitVec.reduceSetWidth, BitVec.reduceBEq, BitVec.reduceBNe, BitVec.reduceEq, BitVec.reduceNe, Bool.true_eq_false, Bool.false_eq_true, beq_self_eq_true, Option.map_some, Option.map_none, Option.bind_some, List.getElem?_cons_zero, List.getElem?_cons_succ, List.getElem?_toArray, List.map_cons, List.map_nil, true_and, and_true, forall_const, ne_eq, not_true_eq_false, not_false_eq_true, false_implies, true_implies, reduceCtorEq, Int.reduceToNat, Int.cast_ofNat_Int, Int.natCast_zero, Int.natCast_one, bne_self_eq_false, Int.reduceLT, Int.reduceLE, Int.reduceEq, Int.reduceNe, Bool.not_true, Bool.not_false, if_true, if_false, false_and, and_false, or_false, or_true, true_or, false_or, List.length_cons, List.length_nil, Int.toNat_natCast, List.length_map, decide_true, decide_false]
      refine conv_text e3.sl ?_
      have r3 : Sl H5 v xs := (r1.mono (.keep d2)).mono (.keep e2)
      obtain ⟨z, f1, f2, f3⟩ := r3.hi (k := (min xs.length ys.length : Nat)) (by omega) (by omega)
      simp (maxSteps := 10000000) (disch := omega) only [go_sem, ↓reduceIte, Nat.reduceLT, Nat.reduceLeDiff, Nat.reduceEqDiff, Nat.reduceAdd, BitVec.reduceOfInt, BitVec.reduceSetWidth, BitVec.reduceBEq, BitVec.reduceBNe, BitVec.reduceEq, BitVec.reduceNe, Bool.true_eq_false, Bool.false_eq_true, beq_self_eq_true, Option.map_some, Option.map_none, Option.bind_some, List.getElem?_cons_zero, List.getElem?_cons_succ, List.getElem?_toArray, List.map_cons, List.map_nil, true_and, and_true, forall_const, ne_eq, not_true_eq_false, not_false_eq_true, false_implies, true_implies, reduceCtorEq, Int.reduceToNat, Int.cast_ofNat_Int, Int.natCast_zero, Int.natCast_one, bne_self_eq_false, Int.reduceLT, Int.reduceLE, Int.reduceEq, Int.reduceNe, Bool.not_true, Bool.not_false, if_true, if_false, false_and, and_false, or_false, or_true, true_or, false_or, List.length_cons, List.length_nil, Int.toNat_natCast, List.length_map, decide_true, decide_false, f1]
      refine conv_text f2 ?_
      have f4 : textOf (xorB (xorB xs ys) ys) = textOf (xs.take (min xs.length ys.length)) := by rw [xorB_back]
      simp (maxSteps := 10000000) (disch := omega) only [go_sem, ↓reduceIte, Nat.reduceLT, Nat.reduceLeDiff, Nat.reduceEqDiff, Nat.reduceAdd, BitVec.reduceOfInt, BitVec.reduceSetWidth, BitVec.reduceBEq, BitVec.reduceBNe, BitVec.reduceEq, BitVec.reduceNe, Bool.true_eq_false, Bool.false_eq_true, beq_self_eq_true, Option.map_some, Option.map_none, Option.bind_some, List.getElem?_cons_zero, List.getElem?_cons_succ, List.getElem?_toArray, List.map_cons, List.map_nil, true_and, and_true, forall_const, ne_eq, not_true_eq_false, not_false_eq_true, false_implies, true_implies, reduceCtorEq, Int.reduceToNat, Int.cast_ofNat_Int, Int.natCast_zero, Int.natCast_one, bne_self_eq_false, Int.reduceLT, Int.reduceLE, Int.reduceEq, Int.reduceNe, Bool.not_true, Bool.not_false, if_true, if_false, false_and, and_false, or_false, or_true, true_or, false_or, List.length_cons, List.length_nil, Int.toNat_natCast, List.length_map, decide_true, decide_false, f4]
      refine (awake1_fun _).call (Nat.le_refl _) ?_
      rintro _ H6 g1 g2 rfl
      simp (maxSteps := 10000000) (disch := omega) only [go_sem, ↓reduceIte, Nat.reduceLT, Nat.reduceLeDiff, Nat.reduceEqDiff, Nat.reduceAdd, BitVec.reduceOfInt, BitVec.reduceSetWidth, BitVec.reduceBEq, BitVec.reduceBNe, BitVec.reduceEq, BitVec.reduceNe, Bool.true_eq_false, Bool.false_eq_true, beq_self_eq_true, Option.map_some, Option.map_none, Option.bind_some, List.getElem?_cons_zero, List.getElem?_cons_succ, List.getElem?_toArray, List.map_cons, List.map_nil, true_and, and_true, forall_const, ne_eq, not_true_eq_false, not_false_eq_true, false_implies, true_implies, reduceCtorEq, Int.reduceToNat, Int.cast_ofNat_Int, Int.natCast_zero, Int.natCast_one, bne_self_eq_false, Int.reduceLT, Int.reduceLE, Int.reduceEq, Int.reduceNe, Bool.not_true, Bool.not_false, if_true, if_false, false_and, and_false, or_false, or_true, true_or, false_or, List.length_cons, List.length_nil, Int.toNat_natCast, List.length_map, decide_true, decide_false]

end Go.Proofs.Ytcapjjmikapmfaa.M
