/- HkdfBounds. -/
import Derived.Test.YtcapjjmikapmfaaHf
import Derived.Test.YtcapjjmikapmfaaXe
set_option linter.unusedVariables false
set_option linter.unusedSimpArgs false
namespace Go.Proofs.Ytcapjjmikapmfaa.M
open Go Go.Proofs

theorem chBs_part (prk : List (BitVec 8)) (n : Int) (k : Nat) (h : k < (chBs prk n).length) : ((chBs prk n)[k]).length = 32 := by
  by_cases g : chGood n
  · have e : chBs prk n = hkL prk n.toNat := by rw [chBs, if_pos g]
    simp only [e] at h ⊢
    rw [hkL_get, hkT_succ_length]
  · have e : chBs prk n = [] := by rw [chBs, if_neg g]
    rw [e] at h
    simp at h

theorem ex_cases (n : Int) (L : Nat) (hL : L = if exGood n then n.toNat else 0) :
    (exErr n = 1 ∧ (0 ≤ n) = False ∧ (n ≤ 8160) = True ∧ ((L : Int) = n) = False ∧ ((L : Int) = 0) = True) ∨ (exErr n = 0 ∧ (0 ≤ n) = True ∧ (n ≤ 8160) = True ∧ ((L : Int) = n) = True ∧ True) ∨ (exErr n = 1 ∧ (0 ≤ n) = True ∧ (n ≤ 8160) = False ∧ ((L : Int) = n) = False ∧ ((L : Int) = 0) = True) := by
  by_cases g : exGood n
  · rw [if_pos g] at hL
    obtain ⟨g1, g2⟩ := g
    exact .inr (.inl ⟨if_pos ⟨g1, g2⟩, eq_true g1, eq_true g2, eq_true (by omega), trivial⟩)
  · rw [if_neg g] at hL
    subst hL
    by_cases h : 0 ≤ n
    · have h2 : ¬ n ≤ 8160 := fun h2 => g ⟨h, h2⟩
      exact .inr (.inr ⟨if_neg g, eq_true h, eq_false h2, eq_false (by omega), eq_true rfl⟩)
    · exact .inl ⟨if_neg g, eq_false h, eq_true (by omega), eq_false (by omega), eq_true rfl⟩
theorem ch_cases (n : Int) (L : Nat) (hL : L = if chGood n then n.toNat else 0) :
    (chErr n = 1 ∧ (1 ≤ n) = False ∧ (n ≤ 3) = True ∧ ((L : Int) = 0) = True) ∨ (chErr n = 0 ∧ (1 ≤ n) = True ∧ (n ≤ 3) = True ∧ ((L : Int) = n) = True) ∨ (chErr n = 1 ∧ (1 ≤ n) = True ∧ (n ≤ 3) = False ∧ ((L : Int) = 0) = True) := by
  by_cases g : chGood n
  · rw [if_pos g] at hL
    obtain ⟨g1, g2⟩ := g
    exact .inr (.inl ⟨if_pos ⟨g1, g2⟩, eq_true g1, eq_true g2, eq_true (by omega)⟩)
  · rw [if_neg g] at hL
    subst hL
    by_cases h : 1 ≤ n
    · have h2 : ¬ n ≤ 3 := fun h2 => g ⟨h, h2⟩
      exact .inr (.inr ⟨if_neg g, eq_true h, eq_false h2, eq_true rfl⟩)
    · exact .inl ⟨if_neg g, eq_false h, eq_true (by omega), eq_true rfl⟩

def hbInv (w : Value) (H0 : Heap) (L : Nat) (m : Nat) (a : AAct) (H : Heap) : Prop :=
  ∃ k : Nat, k + m = L ∧ a 97 = w ∧ a 98 = .int .i64 (L : Nat) ∧ a 99 = .int .i64 (k : Nat) ∧ H = H0

set_option maxRecDepth 20000 in
set_option maxHeartbeats 8000000 in
theorem hkdfBounds_fun {H : Heap} {v : Value} {xs : List (BitVec 8)} (hv : Sl H v xs) (hl : xs.length ≤ 140737488351232) (n : Int) (hn : I64 n) (m : Int) (hm : I64 m) : Fun Try.prog 32 [v, .int .i64 n, .int .i64 m] H fun r _ => r = .bool true := by
  obtain ⟨N0, hN0⟩ : ∃ x, x = H.size := ⟨_, rfl⟩
  refine fun_of_r Try.func32 rfl (by decide +kernel) (Nat.le_of_ble_eq_true rfl) ?_
  unfold Try.f32
  rw [← hN0]
  refine wrun_mid (fun a H' => H' = H ∧ a 0 = v ∧ a 1 = .int .i64 n ∧ a 2 = .int .i64 m) (by simp (maxSteps := 10000000) (disch := omega) only [condK_t, condK_f, guardK_tt, guardK_ff, guardK_tf, guardK_ft, guardQ_tt, guardQ_ff, guardQ_tf, guardQ_ft, Bool.true_beq, Bool.false_beq, go_sem]) ?_
  rintro a H' ⟨rfl, q0, q1, q2⟩
  refine wrun_mid (fun a H2 => H2 = H' ∧ xs.length ≤ 100 ∧ a 0 = v ∧ a 1 = .int .i64 n ∧ a 2 = .int .i64 m) ?_ ?_
  · simp (maxSteps := 10000000) (disch := omega) only [condK_t, condK_f, guardK_tt, guardK_ff, guardK_tf, guardK_ft, guardQ_tt, guardQ_ff, guardQ_tf, guardQ_ft, Bool.true_beq, Bool.false_beq, go_sem, q0, q1, q2, hv.len]
    by_cases g1 : (100 : Int) < xs.length
    · simp (maxSteps := 10000000) (disch := omega) only [condK_t, condK_f, guardK_tt, guardK_ff, guardK_tf, guardK_ft, guardQ_tt, guardQ_ff, guardQ_tf, guardQ_ft, Bool.true_beq, Bool.false_beq, go_sem, g1]
      refine (awake4_fun _).call (Nat.le_of_eq hN0) ?_
      rintro _ H3 g7 g8 rfl
      simp (maxSteps := 10000000) (disch := omega) only [condK_t, condK_f, guardK_tt, guardK_ff, guardK_tf, guardK_ft, guardQ_tt, guardQ_ff, guardQ_tf, guardQ_ft, Bool.true_beq, Bool.false_beq, go_sem]
    · simp (maxSteps := 10000000) (disch := omega) only [condK_t, condK_f, guardK_tt, guardK_ff, guardK_tf, guardK_ft, guardQ_tt, guardQ_ff, guardQ_tf, guardQ_ft, Bool.true_beq, Bool.false_beq, go_sem, g1, q0, q1, q2]
      omega
  rintro a H2 ⟨rfl, g1, q0, q1, q2⟩
  refine wrun_mid (fun a H => H = H2 ∧ a 0 = v ∧ a 1 = .int .i64 (n.tmod 9000) ∧ a 2 = .int .i64 m) (by simp (maxSteps := 10000000) (disch := omega) only [condK_t, condK_f, guardK_tt, guardK_ff, guardK_tf, guardK_ft, guardQ_tt, guardQ_ff, guardQ_tf, guardQ_ft, Bool.true_beq, Bool.false_beq, go_sem, q0, q1, q2]) ?_
  rintro a H ⟨rfl, q0, q1, q2⟩
  refine wrun_mid (fun a H2 => H2 = H ∧ a 0 = v ∧ (∃ N : Int, a 1 = .int .i64 N) ∧ a 2 = .int .i64 m) ?_ ?_
  · obtain ⟨n0, hn0⟩ : ∃ x, x = n.tmod 9000 := ⟨_, rfl⟩
    rw [← hn0] at q1
    simp (maxSteps := 10000000) (disch := omega) only [condK_t, condK_f, guardK_tt, guardK_ff, guardK_tf, guardK_ft, guardQ_tt, guardQ_ff, guardQ_tf, guardQ_ft, Bool.true_beq, Bool.false_beq, go_sem, q0, q1, q2]
    by_cases h1 : 1000 < n0
    · by_cases h2 : n0 ≤ 8160
      · simp (maxSteps := 10000000) (disch := omega) only [condK_t, condK_f, guardK_tt, guardK_ff, guardK_tf, guardK_ft, guardQ_tt, guardQ_ff, guardQ_tf, guardQ_ft, Bool.true_beq, Bool.false_beq, go_sem, h1, h2, q0, q1, q2]
        exact ⟨_, rfl⟩
      · simp (maxSteps := 10000000) (disch := omega) only [condK_t, condK_f, guardK_tt, guardK_ff, guardK_tf, guardK_ft, guardQ_tt, guardQ_ff, guardQ_tf, guardQ_ft, Bool.true_beq, Bool.false_beq, go_sem, h1, h2, q0, q1, q2]
        exact ⟨_, rfl⟩
    · simp (maxSteps := 10000000) (disch := omega) only [condK_t, condK_f, guardK_tt, guardK_ff, guardK_tf, guardK_ft, guardQ_tt, guardQ_ff, guardQ_tf, guardQ_ft, Bool.true_beq, Bool.false_beq, go_sem, h1, q0, q1, q2]
      exact ⟨_, rfl⟩
  rintro a H1 ⟨rfl, q0, ⟨N, q1⟩, q2⟩
  refine wrun_mid (fun a H' => (∃ w1, a 7 = w1 ∧ Sl H' w1 (exBs xs [] N)) ∧ a 8 = .int .i64 (exErr N) ∧ Sl H' v xs ∧ N0 ≤ H'.size ∧ a 0 = v ∧ a 1 = .int .i64 N ∧ a 2 = .int .i64 m) ?_ ?_
  · simp (maxSteps := 10000000) (disch := omega) only [condK_t, condK_f, guardK_tt, guardK_ff, guardK_tf, guardK_ft, guardQ_tt, guardQ_ff, guardQ_tf, guardQ_ft, Bool.true_beq, Bool.false_beq, go_sem, q0, q1, q2]
    refine (expand_fun N hv (Sl.nil _) (by omega) (by simp)).call (Nat.le_of_eq hN0) ?_
    rintro _ H1 a1 a2 q
    obtain ⟨w1, rfl, hw1⟩ := q.out
    simp (maxSteps := 10000000) (disch := omega) only [condK_t, condK_f, guardK_tt, guardK_ff, guardK_tf, guardK_ft, guardQ_tt, guardQ_ff, guardQ_tf, guardQ_ft, Bool.true_beq, Bool.false_beq, go_sem, q0, q1, q2]
    exact ⟨⟨w1, rfl, hw1⟩, hv.keep_old2 a2, by omega⟩
  rintro a H ⟨⟨w1, q7, hw1⟩, q8, hv, hN, q0, q1, q2⟩
  refine wrun_mid (fun a H' => Sl H' w1 (exBs xs [] N) ∧ (∃ w2, a 9 = w2 ∧ SlL H' w2 (chBs (hmac xs xs) m)) ∧ N0 ≤ H'.size ∧ a 1 = .int .i64 N ∧ a 2 = .int .i64 m ∧ a 7 = w1 ∧ a 8 = .int .i64 (exErr N) ∧ a 10 = .int .i64 (chErr m)) ?_ ?_
  · simp (maxSteps := 10000000) (disch := omega) only [condK_t, condK_f, guardK_tt, guardK_ff, guardK_tf, guardK_ft, guardQ_tt, guardQ_ff, guardQ_tf, guardQ_ft, Bool.true_beq, Bool.false_beq, go_sem, q0, q1, q2]
    refine (chain_fun m hv hv (by omega) (by omega)).call hN ?_
    rintro _ H2 b1 b2 q
    obtain ⟨w2, rfl, hw2⟩ := q.out
    simp (maxSteps := 10000000) (disch := omega) only [condK_t, condK_f, guardK_tt, guardK_ff, guardK_tf, guardK_ft, guardQ_tt, guardQ_ff, guardQ_tf, guardQ_ft, Bool.true_beq, Bool.false_beq, go_sem, q0, q1, q2, q7, q8]
    exact ⟨hw1.keep_old2 b2, ⟨w2, rfl, hw2⟩, by omega⟩
  rintro a H ⟨hw1, ⟨w2, q9, hw2⟩, hN, q1, q2, q7, q8, q10⟩
  obtain ⟨L1, hL1⟩ : ∃ L, L = (exBs xs [] N).length := ⟨_, rfl⟩
  obtain ⟨L2, hL2⟩ : ∃ L, L = (chBs (hmac xs xs) m).length := ⟨_, rfl⟩
  have l1 := hw1.len
  have l2 := hw2.len
  rw [← hL1] at l1
  rw [← hL2] at l2
  have hp := chBs_part (hmac xs xs) m
  have hL3 : L2 ≤ 3 := by rw [hL2]; exact chBs_le _ _
  have ee := ex_cases N L1 (by rw [hL1, exBs_length])
  have cc := ch_cases m L2 (by rw [hL2, chBs_length])
  refine wrun_mid (fun a H' => H' = H ∧ a 1 = .int .i64 N ∧ a 2 = .int .i64 m ∧ a 7 = w1 ∧ a 8 = .int .i64 (exErr N) ∧ a 9 = w2 ∧ a 10 = .int .i64 (chErr m)) ?_ ?_
  · rcases ee with ⟨e1, e2, e3, e4, e5⟩ | ⟨e1, e2, e3, e4, e5⟩ | ⟨e1, e2, e3, e4, e5⟩ <;> rcases cc with ⟨c1, c2, c3, c4⟩ | ⟨c1, c2, c3, c4⟩ | ⟨c1, c2, c3, c4⟩
    all_goals
      rw [e1] at q8
      rw [c1] at q10
      simp (maxSteps := 10000000) (disch := omega) only [condK_t, condK_f, guardK_tt, guardK_ff, guardK_tf, guardK_ft, guardQ_tt, guardQ_ff, guardQ_tf, guardQ_ft, Bool.true_beq, Bool.false_beq, go_sem, q1, q2, q7, q8, q9, q10, e2, e3, c2, c3, e1, c1]
  rintro a H ⟨rfl, q1, q2, q7, q8, q9, q10⟩
  refine wrun_mid (fun a H' => H' = H ∧ a 9 = w2) ?_ ?_
  · rcases ee with ⟨e1, e2, e3, e4, e5⟩ | ⟨e1, e2, e3, e4, e5⟩ | ⟨e1, e2, e3, e4, e5⟩ <;> rcases cc with ⟨c1, c2, c3, c4⟩ | ⟨c1, c2, c3, c4⟩ | ⟨c1, c2, c3, c4⟩
    all_goals
      rw [e1] at q8
      rw [c1] at q10
      simp (maxSteps := 10000000) (disch := omega) only [condK_t, condK_f, guardK_tt, guardK_ff, guardK_tf, guardK_ft, guardQ_tt, guardQ_ff, guardQ_tf, guardQ_ft, Bool.true_beq, Bool.false_beq, go_sem, q1, q2, q7, q8, q9, q10, e2, e3, e4, e5, c2, c3, c4, l1, l2]
  rintro a H ⟨rfl, q9⟩
  refine wrun_of ?_
  simp (maxSteps := 10000000) (disch := omega) only [condK_t, condK_f, guardK_tt, guardK_ff, guardK_tf, guardK_ft, guardQ_tt, guardQ_ff, guardQ_tf, guardQ_ft, Bool.true_beq, Bool.false_beq, go_sem, q9, l2]
  refine wp_loop (hbInv w2 H L2) ?_ L2 ?_
  · rintro M a H3 ⟨k, hk, h97, h98, h99, rfl⟩
    simp (maxSteps := 10000000) (disch := omega) only [condK_t, condK_f, guardK_tt, guardK_ff, guardK_tf, guardK_ft, guardQ_tt, guardQ_ff, guardQ_tf, guardQ_ft, Bool.true_beq, Bool.false_beq, go_sem, h98, h99]
    by_cases hlt : k < L2
    · have hlt' := eq_true (show (k : Int) < L2 by omega)
      obtain ⟨ad1, x1, p1, p2, p3⟩ := hw2.at k (by omega)
      have p4 := p3.len
      rw [hp k (by omega)] at p4
      simp (maxSteps := 10000000) (disch := omega) only [condK_t, condK_f, guardK_tt, guardK_ff, guardK_tf, guardK_ft, guardQ_tt, guardQ_ff, guardQ_tf, guardQ_ft, Bool.true_beq, Bool.false_beq, go_sem, h97, h98, h99, hlt', p1, p2, p4, wrap_i64]
      exact ⟨M - 1, by omega, k + 1, by omega, by simp (maxSteps := 10000000) (disch := omega) only [condK_t, condK_f, guardK_tt, guardK_ff, guardK_tf, guardK_ft, guardQ_tt, guardQ_ff, guardQ_tf, guardQ_ft, Bool.true_beq, Bool.false_beq, go_sem, h97], by simp (maxSteps := 10000000) (disch := omega) only [condK_t, condK_f, guardK_tt, guardK_ff, guardK_tf, guardK_ft, guardQ_tt, guardQ_ff, guardQ_tf, guardQ_ft, Bool.true_beq, Bool.false_beq, go_sem, h98], by simp (maxSteps := 10000000) (disch := omega) only [condK_t, condK_f, guardK_tt, guardK_ff, guardK_tf, guardK_ft, guardQ_tt, guardQ_ff, guardQ_tf, guardQ_ft, Bool.true_beq, Bool.false_beq, go_sem]; push_cast; rfl, rfl⟩
    · have hlt' := eq_false (show ¬ (k : Int) < L2 by omega)
      simp (maxSteps := 10000000) (disch := omega) only [condK_t, condK_f, guardK_tt, guardK_ff, guardK_tf, guardK_ft, guardQ_tt, guardQ_ff, guardQ_tf, guardQ_ft, Bool.true_beq, Bool.false_beq, go_sem, h98, h99, hlt']
      refine (awake4_fun _).call hN ?_
      rintro _ H8 j1 j2 rfl
      simp (maxSteps := 10000000) (disch := omega) only [condK_t, condK_f, guardK_tt, guardK_ff, guardK_tf, guardK_ft, guardQ_tt, guardQ_ff, guardQ_tf, guardQ_ft, Bool.true_beq, Bool.false_beq, go_sem]
  · exact ⟨0, by omega, by simp (maxSteps := 10000000) (disch := omega) only [condK_t, condK_f, guardK_tt, guardK_ff, guardK_tf, guardK_ft, guardQ_tt, guardQ_ff, guardQ_tf, guardQ_ft, Bool.true_beq, Bool.false_beq, go_sem], by simp (maxSteps := 10000000) (disch := omega) only [condK_t, condK_f, guardK_tt, guardK_ff, guardK_tf, guardK_ft, guardQ_tt, guardQ_ff, guardQ_tf, guardQ_ft, Bool.true_beq, Bool.false_beq, go_sem], by simp (maxSteps := 10000000) (disch := omega) only [condK_t, condK_f, guardK_tt, guardK_ff, guardK_tf, guardK_ft, guardQ_tt, guardQ_ff, guardQ_tf, guardQ_ft, Bool.true_beq, Bool.false_beq, go_sem], rfl⟩

end Go.Proofs.Ytcapjjmikapmfaa.M
