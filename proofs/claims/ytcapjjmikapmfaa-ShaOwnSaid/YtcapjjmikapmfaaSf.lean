/- The law WordEnds. -/
import Derived.Test.YtcapjjmikapmfaaSe
import Derived.Test.YtcapjjmikapmfaaSd
set_option linter.unusedVariables false
set_option linter.unusedSimpArgs false
namespace Go.Proofs.Ytcapjjmikapmfaa.M
open Go Go.Proofs

theorem rev32_byte (x : BitVec 32) (j : Nat) (hj : j < 4) : ((x.setWidth 64) >>> (8 * j)).setWidth 8 = (((rev32 x).setWidth 64) >>> (8 * (3 - j))).setWidth 8 := by
  apply BitVec.eq_of_getLsbD_eq
  intro i hi
  have h1 : j = 0 ∨ j = 1 ∨ j = 2 ∨ j = 3 := by omega
  have h2 : i = 0 ∨ i = 1 ∨ i = 2 ∨ i = 3 ∨ i = 4 ∨ i = 5 ∨ i = 6 ∨ i = 7 := by omega
  rcases h1 with rfl | rfl | rfl | rfl <;> rcases h2 with rfl | rfl | rfl | rfl | rfl | rfl | rfl | rfl <;> simp [rev32, BitVec.getLsbD_setWidth, BitVec.getLsbD_ushiftRight]

@[go_sem] theorem buildSlice_8z (H : Heap) (K : Value → Heap → Prop) : buildSliceK Try.prog 47 8 [(0, u8 0#8), (1, u8 0#8), (2, u8 0#8), (3, u8 0#8), (4, u8 0#8), (5, u8 0#8), (6, u8 0#8), (7, u8 0#8)] H K =
    K (.slice (some ⟨H.size, 0, some 1⟩) 8 8) (H.push (.cells (List.replicate 8 (u8 0#8)) true true)) := by
  have : buildSliceA Try.prog 47 8 [(0, u8 0#8), (1, u8 0#8), (2, u8 0#8), (3, u8 0#8), (4, u8 0#8), (5, u8 0#8), (6, u8 0#8), (7, u8 0#8)] = some (List.replicate 8 (u8 0#8), 1) := by kernel_rfl
  simp only [buildSliceK, this]

theorem byteAt_zeros (xs : List (BitVec 8)) (i : Int) (k : Nat) (hi : 0 ≤ i) (hle : i ≤ xs.length) (hk : k < 8) : byteAt (xs ++ List.replicate 8 0#8) i k = byteAt xs i k := by
  unfold byteAt
  have h1 : 0 ≤ i ∧ i ≤ ((xs ++ List.replicate 8 0#8).length : Nat) ∧ i + (k : Int) < ((xs ++ List.replicate 8 0#8).length : Nat) := by simp; omega
  rw [if_pos h1, List.getD_eq_getElem?_getD]
  by_cases h : i + (k : Int) < xs.length
  · rw [if_pos ⟨hi, hle, h⟩, List.getD_eq_getElem?_getD, List.getElem?_append_left (by omega)]
  · rw [if_neg (fun hh => h hh.2.2), List.getElem?_append_right (by omega), List.getElem?_replicate]
    split <;> rfl

theorem lowAt_congr {xs ys : List (BitVec 8)} {i j : Int} : ∀ n : Nat, (∀ k, k < n → byteAt xs i k = byteAt ys j k) → lowAt xs i n = lowAt ys j n
  | 0, _ => rfl
  | n + 1, h => by rw [lowAt_succ, lowAt_succ, lowAt_congr n fun k hk => h k (by omega), h n (by omega)]

theorem lowAt_zero {xs : List (BitVec 8)} {i : Int} : ∀ n : Nat, (∀ k, k < n → byteAt xs i k = 0#8) → lowAt xs i n = 0#64
  | 0, _ => rfl
  | n + 1, h => by rw [lowAt_succ, lowAt_zero n fun k hk => h k (by omega), h n (by omega)]; simp

set_option maxRecDepth 20000 in
set_option maxHeartbeats 4000000 in
theorem wordEnds_fun {H : Heap} (x : BitVec 32) {v : Value} {xs : List (BitVec 8)} (hv : Sl H v xs) (hl : xs.length ≤ 140737488351232) (n : Int) (hn : I64 n) : Fun Try.prog 12 [u32 x, v, .int .i64 n] H fun r _ => r = .bool true := by
  refine fun_of Try.func12 rfl (by decide +kernel) (Nat.le_of_ble_eq_true rfl) ?_
  unfold Try.f12
  simp (maxSteps := 10000000) (disch := omega) only [go_sem, ↓reduceIte, Nat.reduceLT, Nat.reduceLeDiff, Nat.reduceEqDiff, Nat.reduceAdd, BitVec.reduceOfInt, BitVec.reduceSetWidth, BitVec.reduceBEq, BitVec.reduceBNe, BitVec.reduceEq, BitVec.reduceNe, Bool.true_eq_false, Bool.false_eq_true, beq_self_eq_true, Option.map_some, Option.map_none, Option.bind_some, List.getElem?_cons_zero, List.getElem?_cons_succ, List.getElem?_toArray, List.map_cons, List.map_nil, true_and, and_true, forall_const, ne_eq, not_true_eq_false, not_false_eq_true, false_implies, true_implies, reduceCtorEq, Int.reduceToNat, Int.cast_ofNat_Int, Int.natCast_zero, Int.natCast_one, bne_self_eq_false, Int.reduceLT, Int.reduceLE, Int.reduceEq, Int.reduceNe, Bool.not_true, Bool.not_false, if_true, if_false, false_and, and_false, or_false, or_true, true_or, false_or, List.length_cons, List.length_nil, Int.toNat_natCast, List.length_map, decide_true, decide_false]
  refine (putLow32_fun _ _).call (Nat.le_refl _) ?_
  intro lo H1 g1 g2 g3
  simp (maxSteps := 10000000) (disch := omega) only [go_sem, ↓reduceIte, Nat.reduceLT, Nat.reduceLeDiff, Nat.reduceEqDiff, Nat.reduceAdd, BitVec.reduceOfInt, BitVec.reduceSetWidth, BitVec.reduceBEq, BitVec.reduceBNe, BitVec.reduceEq, BitVec.reduceNe, Bool.true_eq_false, Bool.false_eq_true, beq_self_eq_true, Option.map_some, Option.map_none, Option.bind_some, List.getElem?_cons_zero, List.getElem?_cons_succ, List.getElem?_toArray, List.map_cons, List.map_nil, true_and, and_true, forall_const, ne_eq, not_true_eq_false, not_false_eq_true, false_implies, true_implies, reduceCtorEq, Int.reduceToNat, Int.cast_ofNat_Int, Int.natCast_zero, Int.natCast_one, bne_self_eq_false, Int.reduceLT, Int.reduceLE, Int.reduceEq, Int.reduceNe, Bool.not_true, Bool.not_false, if_true, if_false, false_and, and_false, or_false, or_true, true_or, false_or, List.length_cons, List.length_nil, Int.toNat_natCast, List.length_map, decide_true, decide_false]
  refine (putHigh32_fun _ _).call g1 ?_
  intro hi H2 g4 g5 g6
  obtain ⟨p0, h0⟩ : ∃ p, p = ((x.setWidth 64) >>> (8 * 0)).setWidth 8 := ⟨_, rfl⟩
  obtain ⟨p1, h1⟩ : ∃ p, p = ((x.setWidth 64) >>> (8 * 1)).setWidth 8 := ⟨_, rfl⟩
  obtain ⟨p2, h2⟩ : ∃ p, p = ((x.setWidth 64) >>> (8 * 2)).setWidth 8 := ⟨_, rfl⟩
  obtain ⟨p3, h3⟩ : ∃ p, p = ((x.setWidth 64) >>> (8 * 3)).setWidth 8 := ⟨_, rfl⟩
  have e1 : lowBytes (x.setWidth 64) 4 = [p0, p1, p2, p3] := by rw [h0, h1, h2, h3]; rfl
  have e2 : lowBytes ((rev32 x).setWidth 64) 4 = [p3, p2, p1, p0] := by
    rw [h0, h1, h2, h3, rev32_byte x 0 (by omega), rev32_byte x 1 (by omega), rev32_byte x 2 (by omega), rev32_byte x 3 (by omega)]; rfl
  rw [e1] at g3
  rw [e2] at g6
  clear h0 h1 h2 h3 e1 e2
  have k1 : Sl H2 lo [p0, p1, p2, p3] := g3.sl.mono (.keep g5)
  have k2 : Sl H2 hi [p3, p2, p1, p0] := g6.sl
  have k3 : Sl H2 v xs := (hv.mono (.keep g2)).mono (.keep g5)
  clear g3 g6
  obtain ⟨a0, b0, c0⟩ := k1.index (k := 0) (by omega) (by simp)
  obtain ⟨a1, b1, c1⟩ := k1.index (k := 1) (by omega) (by simp)
  obtain ⟨a2, b2, c2⟩ := k1.index (k := 2) (by omega) (by simp)
  obtain ⟨a3, b3, c3⟩ := k1.index (k := 3) (by omega) (by simp)
  obtain ⟨d0, f0, q0⟩ := k2.index (k := 0) (by omega) (by simp)
  obtain ⟨d1, f1, q1⟩ := k2.index (k := 1) (by omega) (by simp)
  obtain ⟨d2, f2, q2⟩ := k2.index (k := 2) (by omega) (by simp)
  obtain ⟨d3, f3, q3⟩ := k2.index (k := 3) (by omega) (by simp)
  simp (maxSteps := 10000000) (disch := omega) only [go_sem, ↓reduceIte, Nat.reduceLT, Nat.reduceLeDiff, Nat.reduceEqDiff, Nat.reduceAdd, BitVec.reduceOfInt, BitVec.reduceSetWidth, BitVec.reduceBEq, BitVec.reduceBNe, BitVec.reduceEq, BitVec.reduceNe, Bool.true_eq_false, Bool.false_eq_true, beq_self_eq_true, Option.map_some, Option.map_none, Option.bind_some, List.getElem?_cons_zero, List.getElem?_cons_succ, List.getElem?_toArray, List.map_cons, List.map_nil, true_and, and_true, forall_const, ne_eq, not_true_eq_false, not_false_eq_true, false_implies, true_implies, reduceCtorEq, Int.reduceToNat, Int.cast_ofNat_Int, Int.natCast_zero, Int.natCast_one, bne_self_eq_false, Int.reduceLT, Int.reduceLE, Int.reduceEq, Int.reduceNe, Bool.not_true, Bool.not_false, if_true, if_false, false_and, and_false, or_false, or_true, true_or, false_or, List.length_cons, List.length_nil, Int.toNat_natCast, List.length_map, decide_true, decide_false]
  refine draw_of 44 (by kernel_rfl) ?_
  simp only [Int.reduceToNat, List.getElem_cons_zero, List.getElem_cons_succ, Int.toNat_zero] at c0 c1 c2 c3 q0 q1 q2 q3
  simp (maxSteps := 10000000) (disch := omega) only [go_sem, ↓reduceIte, Nat.reduceLT, Nat.reduceLeDiff, Nat.reduceEqDiff, Nat.reduceAdd, BitVec.reduceOfInt, BitVec.reduceSetWidth, BitVec.reduceBEq, BitVec.reduceBNe, BitVec.reduceEq, BitVec.reduceNe, Bool.true_eq_false, Bool.false_eq_true, beq_self_eq_true, Option.map_some, Option.map_none, Option.bind_some, List.getElem?_cons_zero, List.getElem?_cons_succ, List.getElem?_toArray, List.map_cons, List.map_nil, true_and, and_true, forall_const, ne_eq, not_true_eq_false, not_false_eq_true, false_implies, true_implies, reduceCtorEq, Int.reduceToNat, Int.cast_ofNat_Int, Int.natCast_zero, Int.natCast_one, bne_self_eq_false, Int.reduceLT, Int.reduceLE, Int.reduceEq, Int.reduceNe, Bool.not_true, Bool.not_false, if_true, if_false, false_and, and_false, or_false, or_true, true_or, false_or, List.length_cons, List.length_nil, Int.toNat_natCast, List.length_map, decide_true, decide_false, k1.len, k2.len, b0, c0, b1, c1, b2, c2, b3, c3, f0, q0, f1, q1, f2, q2, f3, q3, k3.len]
  refine ⟨fun hgt => ?_, fun hle => ?_⟩
  · refine (awake1_fun _).call (by omega) ?_
    rintro _ H3 g7 g8 rfl
    simp (maxSteps := 10000000) (disch := omega) only [go_sem, ↓reduceIte, Nat.reduceLT, Nat.reduceLeDiff, Nat.reduceEqDiff, Nat.reduceAdd, BitVec.reduceOfInt, BitVec.reduceSetWidth, BitVec.reduceBEq, BitVec.reduceBNe, BitVec.reduceEq, BitVec.reduceNe, Bool.true_eq_false, Bool.false_eq_true, beq_self_eq_true, Option.map_some, Option.map_none, Option.bind_some, List.getElem?_cons_zero, List.getElem?_cons_succ, List.getElem?_toArray, List.map_cons, List.map_nil, true_and, and_true, forall_const, ne_eq, not_true_eq_false, not_false_eq_true, false_implies, true_implies, reduceCtorEq, Int.reduceToNat, Int.cast_ofNat_Int, Int.natCast_zero, Int.natCast_one, bne_self_eq_false, Int.reduceLT, Int.reduceLE, Int.reduceEq, Int.reduceNe, Bool.not_true, Bool.not_false, if_true, if_false, false_and, and_false, or_false, or_true, true_or, false_or, List.length_cons, List.length_nil, Int.toNat_natCast, List.length_map, decide_true, decide_false]
  · have hle' : xs.length ≤ 100 := by simp at hle; omega
    have o1 : Ow (H2.push (.cells [] true true)) H2.size (.slice (some ⟨H2.size, 0, some 1⟩) 0 0) [] := OV.new (Nat.le_refl _) [] true 0 (Nat.le_refl _)
    refine append_bytes (xs := []) (ys := xs) (B := H2.size) o1 (k3.mono (Rd.push _ _)) (by omega) (by simp) (by simp; omega) ?_
    intro s H3 g7 g8 g9 g10 g11
    simp (maxSteps := 10000000) (disch := omega) only [go_sem, ↓reduceIte, Nat.reduceLT, Nat.reduceLeDiff, Nat.reduceEqDiff, Nat.reduceAdd, BitVec.reduceOfInt, BitVec.reduceSetWidth, BitVec.reduceBEq, BitVec.reduceBNe, BitVec.reduceEq, BitVec.reduceNe, Bool.true_eq_false, Bool.false_eq_true, beq_self_eq_true, Option.map_some, Option.map_none, Option.bind_some, List.getElem?_cons_zero, List.getElem?_cons_succ, List.getElem?_toArray, List.map_cons, List.map_nil, true_and, and_true, forall_const, ne_eq, not_true_eq_false, not_false_eq_true, false_implies, true_implies, reduceCtorEq, Int.reduceToNat, Int.cast_ofNat_Int, Int.natCast_zero, Int.natCast_one, bne_self_eq_false, Int.reduceLT, Int.reduceLE, Int.reduceEq, Int.reduceNe, Bool.not_true, Bool.not_false, if_true, if_false, false_and, and_false, or_false, or_true, true_or, false_or, List.length_cons, List.length_nil, Int.toNat_natCast, List.length_map, decide_true, decide_false]
    have o2 : Sl (H3.push (.cells (List.replicate 8 (u8 0#8)) true true)) (.slice (some ⟨H3.size, 0, some 1⟩) 8 8) (List.replicate 8 0#8) := (OV.new (B := 0) (Nat.zero_le _) (List.replicate 8 (u8 0#8)) true 8 (by simp)).sv
    refine append_bytes (xs := [] ++ xs) (ys := List.replicate 8 0#8) (OV.push g10 _) o2 (by omega) (by simp at g7 ⊢; omega) (by simp; omega) ?_
    intro s2 H4 g12 g13 g14 g15 g16
    have hsz : H.size ≤ H4.size := by simp at g7 g12; omega
    have m1 : Sl H4 v xs := ((k3.mono (Rd.push _ _)).mono g8).mono ((Rd.push _ _).trans g13)
    have m2 : Sl H4 s2 (xs ++ List.replicate 8 0#8) := g15.sl
    have w1 : (BitVec.ofInt 64 ((xs.length : Nat) + 1 : Int)).toNat = xs.length + 1 := by rw [BitVec.toNat_ofInt]; omega
    have hne : BitVec.ofInt 64 ((xs.length : Int) + 1) ≠ 0#64 := fun e => by have := congrArg BitVec.toNat e; rw [w1] at this; simp at this
    obtain ⟨i, hi⟩ : ∃ i, i = (BitVec.ofInt 64 n % BitVec.ofInt 64 ((xs.length : Int) + 1)).toInt := ⟨_, rfl⟩
    have hi0 : 0 ≤ i ∧ i ≤ xs.length := by
      have h1 : (BitVec.ofInt 64 n % BitVec.ofInt 64 ((xs.length : Int) + 1)).toNat < xs.length + 1 := by
        rw [BitVec.toNat_umod, w1]; exact Nat.mod_lt _ (by omega)
      rw [hi, BitVec.toInt_eq_toNat_cond]
      split <;> omega
    have hl2 : (xs ++ List.replicate 8 0#8).length ≤ 200000000000000 := by simp; omega
    have r1 : lowAt (xs ++ List.replicate 8 0#8) i 4 = lowAt xs i 4 := lowAt_congr 4 fun k hk => byteAt_zeros xs i k hi0.1 hi0.2 (by omega)
    have r2 : lowAt (xs ++ List.replicate 8 0#8) i 8 = lowAt xs i 8 := lowAt_congr 8 fun k hk => byteAt_zeros xs i k hi0.1 hi0.2 (by omega)
    have r3 : lowAt xs (-1) 4 = 0#64 := lowAt_zero 4 fun k hk => by unfold byteAt; rw [if_neg (by omega)]
    have r4 : lowAt xs (xs.length : Nat) 8 = 0#64 := lowAt_zero 8 fun k hk => by unfold byteAt; rw [if_neg (by omega)]
    clear g1 g2 g4 g5 b0 c0 b1 c1 b2 c2 b3 c3 f0 q0 f1 q1 f2 q2 f3 q3 g7 g8 g9 g10 g11 o1 o2 g12 g13 g14 g15 g16 k1 k2 k3
    simp (maxSteps := 10000000) (disch := omega) only [go_sem, ↓reduceIte, Nat.reduceLT, Nat.reduceLeDiff, Nat.reduceEqDiff, Nat.reduceAdd, BitVec.reduceOfInt, BitVec.reduceSetWidth, BitVec.reduceBEq, BitVec.reduceBNe, BitVec.reduceEq, BitVec.reduceNe, Bool.true_eq_false, Bool.false_eq_true, beq_self_eq_true, Option.map_some, Option.map_none, Option.bind_some, List.getElem?_cons_zero, List.getElem?_cons_succ, List.getElem?_toArray, List.map_cons, List.map_nil, true_and, and_true, forall_const, ne_eq, not_true_eq_false, not_false_eq_true, false_implies, true_implies, reduceCtorEq, Int.reduceToNat, Int.cast_ofNat_Int, Int.natCast_zero, Int.natCast_one, bne_self_eq_false, Int.reduceLT, Int.reduceLE, Int.reduceEq, Int.reduceNe, Bool.not_true, Bool.not_false, if_true, if_false, false_and, and_false, or_false, or_true, true_or, false_or, List.length_cons, List.length_nil, Int.toNat_natCast, List.length_map, decide_true, decide_false, m1.len, wrap_i64, hne, ← hi]
    refine (low32_fun m1 (by omega) i).call hsz ?_
    simp (maxSteps := 10000000) (disch := omega) only [go_sem, ↓reduceIte, Nat.reduceLT, Nat.reduceLeDiff, Nat.reduceEqDiff, Nat.reduceAdd, BitVec.reduceOfInt, BitVec.reduceSetWidth, BitVec.reduceBEq, BitVec.reduceBNe, BitVec.reduceEq, BitVec.reduceNe, Bool.true_eq_false, Bool.false_eq_true, beq_self_eq_true, Option.map_some, Option.map_none, Option.bind_some, List.getElem?_cons_zero, List.getElem?_cons_succ, List.getElem?_toArray, List.map_cons, List.map_nil, true_and, and_true, forall_const, ne_eq, not_true_eq_false, not_false_eq_true, false_implies, true_implies, reduceCtorEq, Int.reduceToNat, Int.cast_ofNat_Int, Int.natCast_zero, Int.natCast_one, bne_self_eq_false, Int.reduceLT, Int.reduceLE, Int.reduceEq, Int.reduceNe, Bool.not_true, Bool.not_false, if_true, if_false, false_and, and_false, or_false, or_true, true_or, false_or, List.length_cons, List.length_nil, Int.toNat_natCast, List.length_map, decide_true, decide_false]
    refine (low32_fun m2 hl2 i).call hsz ?_
    simp (maxSteps := 10000000) (disch := omega) only [go_sem, ↓reduceIte, Nat.reduceLT, Nat.reduceLeDiff, Nat.reduceEqDiff, Nat.reduceAdd, BitVec.reduceOfInt, BitVec.reduceSetWidth, BitVec.reduceBEq, BitVec.reduceBNe, BitVec.reduceEq, BitVec.reduceNe, Bool.true_eq_false, Bool.false_eq_true, beq_self_eq_true, Option.map_some, Option.map_none, Option.bind_some, List.getElem?_cons_zero, List.getElem?_cons_succ, List.getElem?_toArray, List.map_cons, List.map_nil, true_and, and_true, forall_const, ne_eq, not_true_eq_false, not_false_eq_true, false_implies, true_implies, reduceCtorEq, Int.reduceToNat, Int.cast_ofNat_Int, Int.natCast_zero, Int.natCast_one, bne_self_eq_false, Int.reduceLT, Int.reduceLE, Int.reduceEq, Int.reduceNe, Bool.not_true, Bool.not_false, if_true, if_false, false_and, and_false, or_false, or_true, true_or, false_or, List.length_cons, List.length_nil, Int.toNat_natCast, List.length_map, decide_true, decide_false, r1]
    refine (high32_fun m1 (by omega) i).call hsz ?_
    simp (maxSteps := 10000000) (disch := omega) only [go_sem, ↓reduceIte, Nat.reduceLT, Nat.reduceLeDiff, Nat.reduceEqDiff, Nat.reduceAdd, BitVec.reduceOfInt, BitVec.reduceSetWidth, BitVec.reduceBEq, BitVec.reduceBNe, BitVec.reduceEq, BitVec.reduceNe, Bool.true_eq_false, Bool.false_eq_true, beq_self_eq_true, Option.map_some, Option.map_none, Option.bind_some, List.getElem?_cons_zero, List.getElem?_cons_succ, List.getElem?_toArray, List.map_cons, List.map_nil, true_and, and_true, forall_const, ne_eq, not_true_eq_false, not_false_eq_true, false_implies, true_implies, reduceCtorEq, Int.reduceToNat, Int.cast_ofNat_Int, Int.natCast_zero, Int.natCast_one, bne_self_eq_false, Int.reduceLT, Int.reduceLE, Int.reduceEq, Int.reduceNe, Bool.not_true, Bool.not_false, if_true, if_false, false_and, and_false, or_false, or_true, true_or, false_or, List.length_cons, List.length_nil, Int.toNat_natCast, List.length_map, decide_true, decide_false]
    refine (high32_fun m2 hl2 i).call hsz ?_
    simp (maxSteps := 10000000) (disch := omega) only [go_sem, ↓reduceIte, Nat.reduceLT, Nat.reduceLeDiff, Nat.reduceEqDiff, Nat.reduceAdd, BitVec.reduceOfInt, BitVec.reduceSetWidth, BitVec.reduceBEq, BitVec.reduceBNe, BitVec.reduceEq, BitVec.reduceNe, Bool.true_eq_false, Bool.false_eq_true, beq_self_eq_true, Option.map_some, Option.map_none, Option.bind_some, List.getElem?_cons_zero, List.getElem?_cons_succ, List.getElem?_toArray, List.map_cons, List.map_nil, true_and, and_true, forall_const, ne_eq, not_true_eq_false, not_false_eq_true, false_implies, true_implies, reduceCtorEq, Int.reduceToNat, Int.cast_ofNat_Int, Int.natCast_zero, Int.natCast_one, bne_self_eq_false, Int.reduceLT, Int.reduceLE, Int.reduceEq, Int.reduceNe, Bool.not_true, Bool.not_false, if_true, if_false, false_and, and_false, or_false, or_true, true_or, false_or, List.length_cons, List.length_nil, Int.toNat_natCast, List.length_map, decide_true, decide_false, r1]
    refine (low64_fun m1 (by omega) i).call hsz ?_
    simp (maxSteps := 10000000) (disch := omega) only [go_sem, ↓reduceIte, Nat.reduceLT, Nat.reduceLeDiff, Nat.reduceEqDiff, Nat.reduceAdd, BitVec.reduceOfInt, BitVec.reduceSetWidth, BitVec.reduceBEq, BitVec.reduceBNe, BitVec.reduceEq, BitVec.reduceNe, Bool.true_eq_false, Bool.false_eq_true, beq_self_eq_true, Option.map_some, Option.map_none, Option.bind_some, List.getElem?_cons_zero, List.getElem?_cons_succ, List.getElem?_toArray, List.map_cons, List.map_nil, true_and, and_true, forall_const, ne_eq, not_true_eq_false, not_false_eq_true, false_implies, true_implies, reduceCtorEq, Int.reduceToNat, Int.cast_ofNat_Int, Int.natCast_zero, Int.natCast_one, bne_self_eq_false, Int.reduceLT, Int.reduceLE, Int.reduceEq, Int.reduceNe, Bool.not_true, Bool.not_false, if_true, if_false, false_and, and_false, or_false, or_true, true_or, false_or, List.length_cons, List.length_nil, Int.toNat_natCast, List.length_map, decide_true, decide_false]
    refine (low64_fun m2 hl2 i).call hsz ?_
    simp (maxSteps := 10000000) (disch := omega) only [go_sem, ↓reduceIte, Nat.reduceLT, Nat.reduceLeDiff, Nat.reduceEqDiff, Nat.reduceAdd, BitVec.reduceOfInt, BitVec.reduceSetWidth, BitVec.reduceBEq, BitVec.reduceBNe, BitVec.reduceEq, BitVec.reduceNe, Bool.true_eq_false, Bool.false_eq_true, beq_self_eq_true, Option.map_some, Option.map_none, Option.bind_some, List.getElem?_cons_zero, List.getElem?_cons_succ, List.getElem?_toArray, List.map_cons, List.map_nil, true_and, and_true, forall_const, ne_eq, not_true_eq_false, not_false_eq_true, false_implies, true_implies, reduceCtorEq, Int.reduceToNat, Int.cast_ofNat_Int, Int.natCast_zero, Int.natCast_one, bne_self_eq_false, Int.reduceLT, Int.reduceLE, Int.reduceEq, Int.reduceNe, Bool.not_true, Bool.not_false, if_true, if_false, false_and, and_false, or_false, or_true, true_or, false_or, List.length_cons, List.length_nil, Int.toNat_natCast, List.length_map, decide_true, decide_false, r2]
    refine (low32_fun m1 (by omega) (-1)).call hsz ?_
    simp (maxSteps := 10000000) (disch := omega) only [go_sem, ↓reduceIte, Nat.reduceLT, Nat.reduceLeDiff, Nat.reduceEqDiff, Nat.reduceAdd, BitVec.reduceOfInt, BitVec.reduceSetWidth, BitVec.reduceBEq, BitVec.reduceBNe, BitVec.reduceEq, BitVec.reduceNe, Bool.true_eq_false, Bool.false_eq_true, beq_self_eq_true, Option.map_some, Option.map_none, Option.bind_some, List.getElem?_cons_zero, List.getElem?_cons_succ, List.getElem?_toArray, List.map_cons, List.map_nil, true_and, and_true, forall_const, ne_eq, not_true_eq_false, not_false_eq_true, false_implies, true_implies, reduceCtorEq, Int.reduceToNat, Int.cast_ofNat_Int, Int.natCast_zero, Int.natCast_one, bne_self_eq_false, Int.reduceLT, Int.reduceLE, Int.reduceEq, Int.reduceNe, Bool.not_true, Bool.not_false, if_true, if_false, false_and, and_false, or_false, or_true, true_or, false_or, List.length_cons, List.length_nil, Int.toNat_natCast, List.length_map, decide_true, decide_false, r3, m1.len]
    refine (low64_fun m1 (by omega) _).call hsz ?_
    simp (maxSteps := 10000000) (disch := omega) only [go_sem, ↓reduceIte, Nat.reduceLT, Nat.reduceLeDiff, Nat.reduceEqDiff, Nat.reduceAdd, BitVec.reduceOfInt, BitVec.reduceSetWidth, BitVec.reduceBEq, BitVec.reduceBNe, BitVec.reduceEq, BitVec.reduceNe, Bool.true_eq_false, Bool.false_eq_true, beq_self_eq_true, Option.map_some, Option.map_none, Option.bind_some, List.getElem?_cons_zero, List.getElem?_cons_succ, List.getElem?_toArray, List.map_cons, List.map_nil, true_and, and_true, forall_const, ne_eq, not_true_eq_false, not_false_eq_true, false_implies, true_implies, reduceCtorEq, Int.reduceToNat, Int.cast_ofNat_Int, Int.natCast_zero, Int.natCast_one, bne_self_eq_false, Int.reduceLT, Int.reduceLE, Int.reduceEq, Int.reduceNe, Bool.not_true, Bool.not_false, if_true, if_false, false_and, and_false, or_false, or_true, true_or, false_or, List.length_cons, List.length_nil, Int.toNat_natCast, List.length_map, decide_true, decide_false, r4]
    refine (awake1_fun _).call hsz ?_
    rintro _ H3 g7 g8 rfl
    simp (maxSteps := 10000000) (disch := omega) only [go_sem, ↓reduceIte, Nat.reduceLT, Nat.reduceLeDiff, Nat.reduceEqDiff, Nat.reduceAdd, BitVec.reduceOfInt, BitVec.reduceSetWidth, BitVec.reduceBEq, BitVec.reduceBNe, BitVec.reduceEq, BitVec.reduceNe, Bool.true_eq_false, Bool.false_eq_true, beq_self_eq_true, Option.map_some, Option.map_none, Option.bind_some, List.getElem?_cons_zero, List.getElem?_cons_succ, List.getElem?_toArray, List.map_cons, List.map_nil, true_and, and_true, forall_const, ne_eq, not_true_eq_false, not_false_eq_true, false_implies, true_implies, reduceCtorEq, Int.reduceToNat, Int.cast_ofNat_Int, Int.natCast_zero, Int.natCast_one, bne_self_eq_false, Int.reduceLT, Int.reduceLE, Int.reduceEq, Int.reduceNe, Bool.not_true, Bool.not_false, if_true, if_false, false_and, and_false, or_false, or_true, true_or, false_or, List.length_cons, List.length_nil, Int.toNat_natCast, List.length_map, decide_true, decide_false]

end Go.Proofs.Ytcapjjmikapmfaa.M
