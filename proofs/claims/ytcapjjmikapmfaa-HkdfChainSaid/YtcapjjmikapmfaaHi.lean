/- HkdfChain. -/
import Derived.Test.YtcapjjmikapmfaaHf
import Derived.Test.YtcapjjmikapmfaaXe
set_option linter.unusedVariables false
set_option linter.unusedSimpArgs false
namespace Go.Proofs.Ytcapjjmikapmfaa.M
open Go Go.Proofs

theorem hkey_zeros (key : List (BitVec 8)) (n : Nat) (h : key.length + n ≤ 64) (c : BitVec 8) : padded c (hkey (key ++ List.replicate n 0#8)) = padded c (hkey key) := by
  have e1 : hkey (key ++ List.replicate n 0#8) = key ++ List.replicate n 0#8 := by unfold hkey; rw [if_neg (by simp; omega)]
  have e2 : hkey key = key := by unfold hkey; rw [if_neg (by omega)]
  rw [e1, e2]
  unfold padded
  apply List.map_congr_left
  intro j hj
  congr 1
  rw [List.getD_eq_getElem?_getD, List.getD_eq_getElem?_getD]
  by_cases hlt : j < key.length
  · rw [List.getElem?_append_left hlt]
  · rw [List.getElem?_append_right (by omega), List.getElem?_replicate, List.getElem?_eq_none (by omega : key.length ≤ j)]
    split <;> rfl
theorem hmac_zeros (key b : List (BitVec 8)) (n : Nat) (h : key.length + n ≤ 64) : hmac (key ++ List.replicate n 0#8) b = hmac key b := by
  unfold hmac
  rw [hkey_zeros key n h, hkey_zeros key n h]
theorem text_append (xs ys : List (BitVec 8)) : textOf xs ++ textOf ys = textOf (xs ++ ys) := by
  apply ByteArray.ext
  simp [textOf, ByteArray.data_append]
theorem text_size (xs : List (BitVec 8)) : (textOf xs).size = xs.length := by simp [textOf, ByteArray.size]
theorem bin_add_text {P : Program} (t : TypeId) {xs ys : List (BitVec 8)} (h : xs.length + ys.length ≤ 1000000) : binA P .add t (.string (textOf xs)) (.string (textOf ys)) = some (.string (textOf (xs ++ ys))) := by
  have h2 : ¬ (((textOf xs).size + (textOf ys).size : Nat) : Int) > IntKind.i64.max := by
    rw [text_size, text_size]
    show ¬ _ > (9223372036854775807 : Int)
    omega
  simp only [binA]
  rw [if_neg h2, text_append]


theorem hkOut_take (prk info : List (BitVec 8)) (k : Nat) : ∀ m, k ≤ m → (hkOut prk info m).take (32 * k) = hkOut prk info k
  | 0, h => by
    have : k = 0 := by omega
    subst this
    rfl
  | m + 1, h => by
    by_cases e : k = m + 1
    · subst e
      rw [List.take_of_length_le (by rw [hkOut_length]; omega)]
    · rw [hkOut, List.take_append_of_le_length (by rw [hkOut_length]; omega)]
      exact hkOut_take prk info k m (by omega)
/-- So many bytes of the expansion. -/
def exN (prk info : List (BitVec 8)) (n : Nat) : List (BitVec 8) := (hkOut prk info ((n + 31) / 32)).take n
theorem exN_length (prk info : List (BitVec 8)) (n : Nat) : (exN prk info n).length = n := by rw [exN, List.length_take, hkOut_length]; omega
theorem exN_take (prk info : List (BitVec 8)) {m n : Nat} (h : m ≤ n) : (exN prk info n).take m = exN prk info m := by
  rw [exN, exN, List.take_take, Nat.min_eq_left h, ← hkOut_take prk info ((m + 31) / 32) ((n + 31) / 32) (by omega), List.take_take, Nat.min_eq_left (by omega)]
theorem exN_96 (prk : List (BitVec 8)) : exN prk [] 96 = hkT prk [] 1 ++ hkT prk [] 2 ++ hkT prk [] 3 := by
  have e : (96 + 31) / 32 = 3 := rfl
  rw [exN, e, hkOut, hkOut, hkOut, hkOut, List.nil_append]
  refine List.take_of_length_le ?_
  rw [List.length_append, List.length_append, hkT_succ_length, hkT_succ_length, hkT_succ_length]
  decide

theorem rem_200 (n : Int) : ∃ N : Nat, (BitVec.ofInt 64 n % 200#64).toInt = (N : Nat) ∧ N < 200 := by
  have h1 : (BitVec.ofInt 64 n % 200#64).toNat < 200 := by
    rw [BitVec.toNat_umod]
    exact Nat.mod_lt _ (by decide)
  exact ⟨_, by rw [BitVec.toInt_eq_toNat_of_lt (by omega)], h1⟩

set_option maxRecDepth 20000 in
set_option maxHeartbeats 8000000 in
theorem hkdfChain_fun {H : Heap} {v : Value} {xs : List (BitVec 8)} (hv : Sl H v xs) (hl : xs.length ≤ 140737488351232) {v2 : Value} {ys : List (BitVec 8)} (hv2 : Sl H v2 ys) (hl2 : ys.length ≤ 140737488351232) {v3 : Value} {zs : List (BitVec 8)} (hv3 : Sl H v3 zs) (hl3 : zs.length ≤ 140737488351232) (n : Int) (hn : I64 n) (m : Int) (hm : I64 m) : Fun Try.prog 31 [v, v2, v3, .int .i64 n, .int .i64 m] H fun r _ => r = .bool true := by
  obtain ⟨A, hA, hA2⟩ := rem_200 n
  obtain ⟨B, hB, hB2⟩ := rem_200 m
  have h200 : (200#64 : BitVec 64) ≠ 0#64 := by decide
  obtain ⟨N0, hN0⟩ : ∃ x, x = H.size := ⟨_, rfl⟩
  refine fun_of_r Try.func31 rfl (by decide +kernel) (Nat.le_of_ble_eq_true rfl) ?_
  unfold Try.f31
  rw [← hN0]
  refine wrun_mid (fun a H' => H' = H ∧ a 0 = v ∧ a 1 = v2 ∧ a 2 = v3 ∧ a 3 = .int .i64 n ∧ a 4 = .int .i64 m) (by simp (maxSteps := 10000000) (disch := omega) only [condK_t, condK_f, guardK_tt, guardK_ff, guardK_tf, guardK_ft, guardQ_tt, guardQ_ff, guardQ_tf, guardQ_ft, Bool.true_beq, Bool.false_beq, go_sem]) ?_
  rintro a H' ⟨rfl, q0, q1, q2, q3, q4⟩
  refine wrun_mid (fun a H2 => H2 = H' ∧ (xs.length ≤ 200 ∧ ys.length ≤ 200 ∧ zs.length ≤ 200) ∧ a 0 = v ∧ a 1 = v2 ∧ a 2 = v3 ∧ a 3 = .int .i64 n ∧ a 4 = .int .i64 m) ?_ ?_
  · simp (maxSteps := 10000000) (disch := omega) only [condK_t, condK_f, guardK_tt, guardK_ff, guardK_tf, guardK_ft, guardQ_tt, guardQ_ff, guardQ_tf, guardQ_ft, Bool.true_beq, Bool.false_beq, go_sem, q0, q1, q2, q3, q4, hv.len]
    by_cases g1 : (200 : Int) < xs.length
    · simp (maxSteps := 10000000) (disch := omega) only [condK_t, condK_f, guardK_tt, guardK_ff, guardK_tf, guardK_ft, guardQ_tt, guardQ_ff, guardQ_tf, guardQ_ft, Bool.true_beq, Bool.false_beq, go_sem, g1]
      refine (awake4_fun _).call (Nat.le_of_eq hN0) ?_
      rintro _ H3 g7 g8 rfl
      simp (maxSteps := 10000000) (disch := omega) only [condK_t, condK_f, guardK_tt, guardK_ff, guardK_tf, guardK_ft, guardQ_tt, guardQ_ff, guardQ_tf, guardQ_ft, Bool.true_beq, Bool.false_beq, go_sem]
    · by_cases g2 : (200 : Int) < ys.length
      · simp (maxSteps := 10000000) (disch := omega) only [condK_t, condK_f, guardK_tt, guardK_ff, guardK_tf, guardK_ft, guardQ_tt, guardQ_ff, guardQ_tf, guardQ_ft, Bool.true_beq, Bool.false_beq, go_sem, g1, g2, q1, hv2.len]
        refine (awake4_fun _).call (Nat.le_of_eq hN0) ?_
        rintro _ H3 g7 g8 rfl
        simp (maxSteps := 10000000) (disch := omega) only [condK_t, condK_f, guardK_tt, guardK_ff, guardK_tf, guardK_ft, guardQ_tt, guardQ_ff, guardQ_tf, guardQ_ft, Bool.true_beq, Bool.false_beq, go_sem]
      · by_cases g3 : (200 : Int) < zs.length
        · simp (maxSteps := 10000000) (disch := omega) only [condK_t, condK_f, guardK_tt, guardK_ff, guardK_tf, guardK_ft, guardQ_tt, guardQ_ff, guardQ_tf, guardQ_ft, Bool.true_beq, Bool.false_beq, go_sem, g1, g2, g3, q1, q2, hv2.len, hv3.len]
          refine (awake4_fun _).call (Nat.le_of_eq hN0) ?_
          rintro _ H3 g7 g8 rfl
          simp (maxSteps := 10000000) (disch := omega) only [condK_t, condK_f, guardK_tt, guardK_ff, guardK_tf, guardK_ft, guardQ_tt, guardQ_ff, guardQ_tf, guardQ_ft, Bool.true_beq, Bool.false_beq, go_sem]
        · simp (maxSteps := 10000000) (disch := omega) only [condK_t, condK_f, guardK_tt, guardK_ff, guardK_tf, guardK_ft, guardQ_tt, guardQ_ff, guardQ_tf, guardQ_ft, Bool.true_beq, Bool.false_beq, go_sem, g1, g2, g3, q0, q1, q2, q3, q4, hv2.len, hv3.len]
          omega
  rintro a H ⟨rfl, ⟨g1, g2, g3⟩, q0, q1, q2, q3, q4⟩
  refine wrun_mid (fun a H2 => H2 = H ∧ a 0 = v ∧ a 1 = v2 ∧ a 2 = v3 ∧ a 3 = .int .i64 (A : Nat) ∧ a 4 = .int .i64 (B : Nat)) (by simp (maxSteps := 10000000) (disch := omega) only [condK_t, condK_f, guardK_tt, guardK_ff, guardK_tf, guardK_ft, guardQ_tt, guardQ_ff, guardQ_tf, guardQ_ft, Bool.true_beq, Bool.false_beq, go_sem, q0, q1, q2, q3, q4, h200, hA, hB]) ?_
  rintro a H1 ⟨rfl, q0, q1, q2, q3, q4⟩
  -- Chain
  refine wrun_mid (fun a H' => ((∃ w, a 11 = w ∧ SlL H' w (hkL (hmac xs ys) 3)) ∧ a 12 = .int .i64 0) ∧ (Sl H' v xs ∧ Sl H' v2 ys ∧ Sl H' v3 zs ∧ N0 ≤ H'.size) ∧ a 0 = v ∧ a 1 = v2 ∧ a 2 = v3 ∧ a 3 = .int .i64 (A : Nat) ∧ a 4 = .int .i64 (B : Nat)) ?_ ?_
  · simp (maxSteps := 10000000) (disch := omega) only [condK_t, condK_f, guardK_tt, guardK_ff, guardK_tf, guardK_ft, guardQ_tt, guardQ_ff, guardQ_tf, guardQ_ft, Bool.true_beq, Bool.false_beq, go_sem, q0, q1, q2, q3, q4]
    refine (chain_fun 3 hv hv2 (by omega) (by omega)).call (Nat.le_of_eq hN0) ?_
    rintro _ H2 b1 b2 q
    obtain ⟨w, rfl, hw⟩ := q.1 (by decide)
    simp (maxSteps := 10000000) (disch := omega) only [condK_t, condK_f, guardK_tt, guardK_ff, guardK_tf, guardK_ft, guardQ_tt, guardQ_ff, guardQ_tf, guardQ_ft, Bool.true_beq, Bool.false_beq, go_sem, q0, q1, q2, q3, q4]
    exact ⟨⟨w, rfl, hw⟩, hv.keep_old2 b2, hv2.keep_old2 b2, hv3.keep_old2 b2, by omega⟩
  rintro a H ⟨⟨⟨w, q11, hw⟩, q12⟩, ⟨hv, hv2, hv3, hN⟩, q0, q1, q2, q3, q4⟩
  -- Extract, Expand
  refine wrun_mid (fun a H' => (SlL H' w (hkL (hmac xs ys) 3) ∧ a 11 = w ∧ a 12 = .int .i64 0 ∧ (∃ u, a 13 = u ∧ Sl H' u (exN (hmac xs ys) [] 96)) ∧ a 14 = .int .i64 0) ∧ (Sl H' v xs ∧ Sl H' v2 ys ∧ Sl H' v3 zs ∧ N0 ≤ H'.size) ∧ a 1 = v2 ∧ a 2 = v3 ∧ a 3 = .int .i64 (A : Nat) ∧ a 4 = .int .i64 (B : Nat)) ?_ ?_
  · simp (maxSteps := 10000000) (disch := omega) only [condK_t, condK_f, guardK_tt, guardK_ff, guardK_tf, guardK_ft, guardQ_tt, guardQ_ff, guardQ_tf, guardQ_ft, Bool.true_beq, Bool.false_beq, go_sem, q0, q1, q2, q3, q4]
    refine (extract_fun hv hv2 (by omega) (by omega)).call hN ?_
    intro e H2 a1 a2 a3
    simp (maxSteps := 10000000) (disch := omega) only [condK_t, condK_f, guardK_tt, guardK_ff, guardK_tf, guardK_ft, guardQ_tt, guardQ_ff, guardQ_tf, guardQ_ft, Bool.true_beq, Bool.false_beq, go_sem]
    refine (expand_fun 96 a3.sl (Sl.nil H2) (by rw [hmac_length]; omega) (by simp)).call (by omega) ?_
    rintro _ H3 b1 b2 q
    obtain ⟨u, rfl, hu⟩ := q.1 (by decide)
    have k3 : ∀ j, j < H.size → H3[j]? = H[j]? := fun j hj => by rw [b2 j (by omega), a2 j hj]
    simp (maxSteps := 10000000) (disch := omega) only [condK_t, condK_f, guardK_tt, guardK_ff, guardK_tf, guardK_ft, guardQ_tt, guardQ_ff, guardQ_tf, guardQ_ft, Bool.true_beq, Bool.false_beq, go_sem, q1, q2, q3, q4, q11, q12]
    exact ⟨⟨hw.keep k3, ⟨u, rfl, hu⟩⟩, hv.keep_old2 k3, hv2.keep_old2 k3, hv3.keep_old2 k3, by omega⟩
  rintro a H ⟨⟨hw, q11, q12, ⟨u, q13, hu⟩, q14⟩, ⟨hv, hv2, hv3, hN⟩, q1, q2, q3, q4⟩
  -- the first comparison
  refine wrun_mid (fun a H' => H' = H ∧ a 1 = v2 ∧ a 2 = v3 ∧ a 3 = .int .i64 (A : Nat) ∧ a 4 = .int .i64 (B : Nat)) ?_ ?_
  · have wl := hw.len
    rw [hkL_length] at wl
    have ul := hu.len
    rw [exN_length] at ul
    have get : ∀ k, k < 3 → ∃ ad x, indexAddrA Try.prog 79 w (.int .i64 (k : Nat)) = some (.pointer (some ad)) ∧ (∀ K, loadK Try.prog 47 (.pointer (some ad)) H K = K x H) ∧ Sl H x (hkT (hmac xs ys) [] (k + 1)) := by
      intro k hk
      obtain ⟨ad, x, x1, x2, x3⟩ := hw.at k (by rw [hkL_length]; exact hk)
      rw [hkL_get] at x3
      exact ⟨ad, x, x1, x2, x3⟩
    obtain ⟨ad0, x0, i0, l0, s0⟩ := get 0 (by omega)
    obtain ⟨ad1, x1, i1, l1, s1⟩ := get 1 (by omega)
    obtain ⟨ad2, x2, i2, l2, s2⟩ := get 2 (by omega)
    have i0' : indexAddrA Try.prog 79 w (.int .i64 0) = some (.pointer (some ad0)) := i0
    have i1' : indexAddrA Try.prog 79 w (.int .i64 1) = some (.pointer (some ad1)) := i1
    have i2' : indexAddrA Try.prog 79 w (.int .i64 2) = some (.pointer (some ad2)) := i2
    have t1 : (hkT (hmac xs ys) [] 1).length = 32 := hkT_succ_length (hmac xs ys) [] 0
    have t2 : (hkT (hmac xs ys) [] 2).length = 32 := hkT_succ_length (hmac xs ys) [] 1
    have t3 : (hkT (hmac xs ys) [] 3).length = 32 := hkT_succ_length (hmac xs ys) [] 2
    have h1 := bin_add_text (P := Try.prog) 9 (show (hkT (hmac xs ys) [] 1).length + (hkT (hmac xs ys) [] 2).length ≤ 1000000 by omega)
    have h2 := bin_add_text (P := Try.prog) 9 (show (hkT (hmac xs ys) [] 1 ++ hkT (hmac xs ys) [] 2).length + (hkT (hmac xs ys) [] 3).length ≤ 1000000 by rw [List.length_append]; omega)
    rw [exN_96] at hu
    simp (maxSteps := 10000000) (disch := omega) only [condK_t, condK_f, guardK_tt, guardK_ff, guardK_tf, guardK_ft, guardQ_tt, guardQ_ff, guardQ_tf, guardQ_ft, Bool.true_beq, Bool.false_beq, go_sem]
    refine draw_of 33 (by kernel_rfl) ?_
    simp (maxSteps := 10000000) (disch := omega) only [condK_t, condK_f, guardK_tt, guardK_ff, guardK_tf, guardK_ft, guardQ_tt, guardQ_ff, guardQ_tf, guardQ_ft, Bool.true_beq, Bool.false_beq, go_sem, q11, q12, q13, q14, wl, ul, i0', l0]
    refine conv_text s0 ?_
    simp (maxSteps := 10000000) (disch := omega) only [condK_t, condK_f, guardK_tt, guardK_ff, guardK_tf, guardK_ft, guardQ_tt, guardQ_ff, guardQ_tf, guardQ_ft, Bool.true_beq, Bool.false_beq, go_sem, q11, i1', l1]
    refine conv_text s1 ?_
    simp (maxSteps := 10000000) (disch := omega) only [condK_t, condK_f, guardK_tt, guardK_ff, guardK_tf, guardK_ft, guardQ_tt, guardQ_ff, guardQ_tf, guardQ_ft, Bool.true_beq, Bool.false_beq, go_sem, q11, h1, i2', l2]
    refine conv_text s2 ?_
    simp (maxSteps := 10000000) (disch := omega) only [condK_t, condK_f, guardK_tt, guardK_ff, guardK_tf, guardK_ft, guardQ_tt, guardQ_ff, guardQ_tf, guardQ_ft, Bool.true_beq, Bool.false_beq, go_sem, q13, h2]
    refine conv_text hu ?_
    simp (maxSteps := 10000000) (disch := omega) only [condK_t, condK_f, guardK_tt, guardK_ff, guardK_tf, guardK_ft, guardQ_tt, guardQ_ff, guardQ_tf, guardQ_ft, Bool.true_beq, Bool.false_beq, go_sem, q1, q2, q3, q4]
  rintro a H ⟨rfl, q1, q2, q3, q4⟩
  -- two lengths
  have emin : (if (B : Int) < (A : Int) then (B : Int) else (A : Int)) = ((min A B : Nat) : Int) := by split <;> omega
  have emax : (if (B : Int) > (A : Int) then (B : Int) else (A : Int)) = ((max A B : Nat) : Int) := by split <;> omega
  obtain ⟨C, hC⟩ : ∃ C, C = min A B := ⟨_, rfl⟩
  obtain ⟨D, hD⟩ : ∃ D, D = max A B := ⟨_, rfl⟩
  have hCD : C ≤ D := by omega
  rw [← hC] at emin
  rw [← hD] at emax
  refine wrun_mid (fun a H' => ((∃ w, a 15 = w ∧ Sl H' w (exN ys zs C)) ∧ a 16 = .int .i64 0) ∧ (Sl H' v2 ys ∧ Sl H' v3 zs ∧ N0 ≤ H'.size) ∧ a 1 = v2 ∧ a 2 = v3 ∧ a 3 = .int .i64 (A : Nat) ∧ a 4 = .int .i64 (B : Nat)) ?_ ?_
  · simp (maxSteps := 10000000) (disch := omega) only [condK_t, condK_f, guardK_tt, guardK_ff, guardK_tf, guardK_ft, guardQ_tt, guardQ_ff, guardQ_tf, guardQ_ft, Bool.true_beq, Bool.false_beq, go_sem, q1, q2, q3, q4, emin]
    refine (expand_fun (C : Int) hv2 hv3 (by omega) (by omega)).call hN ?_
    rintro _ H3 b1 b2 q
    obtain ⟨u, rfl, hu⟩ := q.1 (by omega)
    simp (maxSteps := 10000000) (disch := omega) only [condK_t, condK_f, guardK_tt, guardK_ff, guardK_tf, guardK_ft, guardQ_tt, guardQ_ff, guardQ_tf, guardQ_ft, Bool.true_beq, Bool.false_beq, go_sem, q1, q2, q3, q4]
    exact ⟨⟨u, rfl, hu⟩, hv2.keep_old2 b2, hv3.keep_old2 b2, by omega⟩
  rintro a H ⟨⟨⟨w1, q15, hw1⟩, q16⟩, ⟨hv2, hv3, hN⟩, q1, q2, q3, q4⟩
  refine wrun_mid (fun a H' => (Sl H' w1 (exN ys zs C) ∧ a 15 = w1 ∧ a 16 = .int .i64 0 ∧ (∃ w, a 17 = w ∧ Sl H' w (exN ys zs D)) ∧ a 18 = .int .i64 0) ∧ (Sl H' v2 ys ∧ N0 ≤ H'.size) ∧ a 1 = v2 ∧ a 3 = .int .i64 (A : Nat) ∧ a 4 = .int .i64 (B : Nat)) ?_ ?_
  · simp (maxSteps := 10000000) (disch := omega) only [condK_t, condK_f, guardK_tt, guardK_ff, guardK_tf, guardK_ft, guardQ_tt, guardQ_ff, guardQ_tf, guardQ_ft, Bool.true_beq, Bool.false_beq, go_sem, q1, q2, q3, q4, emax]
    refine (expand_fun (D : Int) hv2 hv3 (by omega) (by omega)).call hN ?_
    rintro _ H3 b1 b2 q
    obtain ⟨u, rfl, hu⟩ := q.1 (by omega)
    simp (maxSteps := 10000000) (disch := omega) only [condK_t, condK_f, guardK_tt, guardK_ff, guardK_tf, guardK_ft, guardQ_tt, guardQ_ff, guardQ_tf, guardQ_ft, Bool.true_beq, Bool.false_beq, go_sem, q1, q2, q3, q4, q15, q16]
    exact ⟨⟨hw1.keep_old2 b2, ⟨u, rfl, hu⟩⟩, hv2.keep_old2 b2, by omega⟩
  rintro a H ⟨⟨hw1, q15, q16, ⟨w2, q17, hw2⟩, q18⟩, ⟨hv2, hN⟩, q1, q3, q4⟩
  have w2l := hw2.len
  rw [exN_length] at w2l
  obtain ⟨w3, e1, e2, _⟩ := hw2.hi (k := (C : Int)) (by omega) (by rw [exN_length]; omega)
  rw [Int.toNat_natCast, exN_take _ _ hCD] at e2
  refine wrun_of ?_
  simp (maxSteps := 10000000) (disch := omega) only [condK_t, condK_f, guardK_tt, guardK_ff, guardK_tf, guardK_ft, guardQ_tt, guardQ_ff, guardQ_tf, guardQ_ft, Bool.true_beq, Bool.false_beq, go_sem]
  refine draw_of 33 (by kernel_rfl) ?_
  simp (maxSteps := 10000000) (disch := omega) only [condK_t, condK_f, guardK_tt, guardK_ff, guardK_tf, guardK_ft, guardQ_tt, guardQ_ff, guardQ_tf, guardQ_ft, Bool.true_beq, Bool.false_beq, go_sem, q1, q3, q4, q15, q16, q17, q18, emax, w2l]
  refine conv_text hw1 ?_
  simp (maxSteps := 10000000) (disch := omega) only [condK_t, condK_f, guardK_tt, guardK_ff, guardK_tf, guardK_ft, guardQ_tt, guardQ_ff, guardQ_tf, guardQ_ft, Bool.true_beq, Bool.false_beq, go_sem, q1, q3, q4, q17, emin, e1]
  refine conv_text e2 ?_
  simp (maxSteps := 10000000) (disch := omega) only [condK_t, condK_f, guardK_tt, guardK_ff, guardK_tf, guardK_ft, guardQ_tt, guardQ_ff, guardQ_tf, guardQ_ft, Bool.true_beq, Bool.false_beq, go_sem, q1]
  refine (extract_fun (Sl.nil H) hv2 (by simp) (by omega)).call (Nat.le_refl _) ?_
  intro e3 H2 a1 a2 a3
  simp (maxSteps := 10000000) (disch := omega) only [condK_t, condK_f, guardK_tt, guardK_ff, guardK_tf, guardK_ft, guardQ_tt, guardQ_ff, guardQ_tf, guardQ_ft, Bool.true_beq, Bool.false_beq, go_sem]
  refine conv_text a3.sl ?_
  simp (maxSteps := 10000000) (disch := omega) only [condK_t, condK_f, guardK_tt, guardK_ff, guardK_tf, guardK_ft, guardQ_tt, guardQ_ff, guardQ_tf, guardQ_ft, Bool.true_beq, Bool.false_beq, go_sem]
  refine make_bytes (by omega) (by omega) ?_
  intro z H3 f1 f2 f3
  have k3 : ∀ j, j < H.size → H3[j]? = H[j]? := fun j hj => by rw [f1, get_push_old (by omega), a2 j hj]
  simp (maxSteps := 10000000) (disch := omega) only [condK_t, condK_f, guardK_tt, guardK_ff, guardK_tf, guardK_ft, guardQ_tt, guardQ_ff, guardQ_tf, guardQ_ft, Bool.true_beq, Bool.false_beq, go_sem, q1]
  refine (hmacSum_fun f2.sl (hv2.keep_old2 k3) (by simp) (by omega)).call (Nat.le_refl _) ?_
  intro w4 H4 g1 g2 g3
  have ez := hmac_zeros [] ys 32 (by simp)
  rw [List.nil_append] at ez
  have g3' : Ow H4 H3.size w4 (hmac [] ys) := by rw [← ez]; exact g3
  simp (maxSteps := 10000000) (disch := omega) only [condK_t, condK_f, guardK_tt, guardK_ff, guardK_tf, guardK_ft, guardQ_tt, guardQ_ff, guardQ_tf, guardQ_ft, Bool.true_beq, Bool.false_beq, go_sem]
  refine conv_text g3'.sl ?_
  simp (maxSteps := 10000000) (disch := omega) only [condK_t, condK_f, guardK_tt, guardK_ff, guardK_tf, guardK_ft, guardQ_tt, guardQ_ff, guardQ_tf, guardQ_ft, Bool.true_beq, Bool.false_beq, go_sem]
  have z3 : H2.size ≤ H3.size := by rw [f1]; simp
  refine (awake4_fun H4).call (show N0 ≤ H4.size by omega) ?_
  rintro _ H8 j1 j2 rfl
  simp (maxSteps := 10000000) (disch := omega) only [condK_t, condK_f, guardK_tt, guardK_ff, guardK_tf, guardK_ft, guardQ_tt, guardQ_ff, guardQ_tf, guardQ_ft, Bool.true_beq, Bool.false_beq, go_sem]

end Go.Proofs.Ytcapjjmikapmfaa.M
