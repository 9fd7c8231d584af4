/- PolyGreat and PolyNothing. -/
import Derived.Test.YtcapjjmikapmfaaPh
set_option linter.unusedVariables false
set_option linter.unusedSimpArgs false
namespace Go.Proofs.Ytcapjjmikapmfaa.M
open Go Go.Proofs

theorem OE.le {H : Heap} {B C : Nat} (hBC : C ≤ B) {v : Value} {xs : List (BitVec 8)} (h : OE H B v xs) : OE H C v xs := by
  obtain ⟨i, o, c, vs, h1, h2, h3, h4⟩ := h
  exact ⟨i, o, c, vs, h1, h2, by omega, h4⟩
theorem rem_small (n : Int) (z : Nat) (hz : 0 < z) (hz2 : z < 1000) : ∃ N : Nat, (BitVec.ofInt 64 n % BitVec.ofNat 64 z).toInt = (N : Nat) ∧ N < z := by
  have h1 : (BitVec.ofInt 64 n % BitVec.ofNat 64 z).toNat < z := by
    rw [BitVec.toNat_umod]
    have e : (BitVec.ofNat 64 z).toNat = z := by rw [BitVec.toNat_ofNat]; omega
    rw [e]
    exact Nat.mod_lt _ hz
  exact ⟨_, by rw [BitVec.toInt_eq_toNat_of_lt (by omega)], h1⟩

structure G2 (v1 v2 : Value) (H0 : Heap) (n z : Nat) (x : BitVec 8) (a : AAct) (H : Heap) (ks bs : List (BitVec 8)) : Prop where
  a0 : a 0 = .int .i64 (n : Nat)
  a1 : a 1 = .int .i64 (z : Nat)
  a2 : a 2 = u8 x
  a7 : a 7 = v1
  a8 : a 8 = v2
  o1 : OE H H0.size v1 ks
  o2 : OE H H0.size v2 bs
  l1 : ks.length = 32
  l2 : bs.length = n
  size : H0.size ≤ H.size
theorem G2.act {v1 v2 : Value} {H0 : Heap} {n z : Nat} {x : BitVec 8} {a b : AAct} {H : Heap} {ks bs : List (BitVec 8)} (h : G2 v1 v2 H0 n z x a H ks bs) (e0 : b 0 = a 0) (e1 : b 1 = a 1) (e2 : b 2 = a 2) (e7 : b 7 = a 7) (e8 : b 8 = a 8) : G2 v1 v2 H0 n z x b H ks bs :=
  ⟨by rw [e0, h.a0], by rw [e1, h.a1], by rw [e2, h.a2], by rw [e7, h.a7], by rw [e8, h.a8], h.o1, h.o2, h.l1, h.l2, h.size⟩
def gInv1 (v1 v2 : Value) (H0 : Heap) (n z : Nat) (x : BitVec 8) (m : Nat) (a : AAct) (H : Heap) : Prop :=
  ∃ (k : Nat) (ks bs : List (BitVec 8)), k + m = 32 ∧ a 27 = .int .i64 (32 : Nat) ∧ a 28 = .int .i64 (k : Nat) ∧ G2 v1 v2 H0 n z x a H ks bs
def gInv2 (v1 v2 : Value) (H0 : Heap) (n z : Nat) (x : BitVec 8) (m : Nat) (a : AAct) (H : Heap) : Prop :=
  ∃ (k : Nat) (ks bs : List (BitVec 8)), k + m = n ∧ a 39 = .int .i64 (n : Nat) ∧ a 40 = .int .i64 (k : Nat) ∧ G2 v1 v2 H0 n z x a H ks bs

set_option maxRecDepth 20000 in
set_option maxHeartbeats 4000000 in
theorem polyGreat_fun {H : Heap} (n : Int) (hn : I64 n) (z : Int) (hz : I64 z) (x : BitVec 8) : Fun Try.prog 24 [.int .i64 n, .int .i64 z, u8 x] H fun r _ => r = .bool true := by
  obtain ⟨N, hN, hN2⟩ := rem_small n 200 (by omega) (by omega)
  obtain ⟨Z, hZ, hZ2⟩ := rem_small z 32 (by omega) (by omega)
  have h200 : (200#64 : BitVec 64) ≠ 0#64 := by decide
  have h32 : (32#64 : BitVec 64) ≠ 0#64 := by decide
  refine fun_of Try.func24 rfl (by decide +kernel) (Nat.le_of_ble_eq_true rfl) ?_
  unfold Try.f24
  simp (maxSteps := 10000000) (disch := omega) only [go_sem, h200, h32, hN, hZ]
  refine draw_of 3 (by kernel_rfl) ?_
  simp (maxSteps := 10000000) (disch := omega) only [go_sem]
  refine make_bytes (by omega) (by omega) ?_
  intro v1 H1 e1 o1 b1
  have z1 : H1.size = H.size + 1 := by rw [e1]; simp
  simp (maxSteps := 10000000) (disch := omega) only [go_sem]
  refine make_bytes (by omega) (by omega) ?_
  intro v2 H2 e2 o2 b2
  have o1' : OE H2 H.size v1 (List.replicate (32 : Int).toNat 0#8) := o1.keep fun j hj _ => by rw [e2, get_push_old hj]
  have z2 : H2.size = H1.size + 1 := by rw [e2]; simp
  rw [Int.toNat_natCast] at o2
  have hne : blockOf v1 ≠ blockOf v2 := by rw [b1, b2]; intro e; have := Option.some.inj e; omega
  have l1 := o1'.sl.len
  rw [List.length_replicate] at l1
  have l1' : ∀ (H' : Heap) (K : Value → Heap → Prop), lenK Try.prog 47 v1 H' K = K (.int .i64 (32 : Nat)) H' := l1
  simp (maxSteps := 10000000) (disch := omega) only [go_sem, l1']
  refine wp_loop (gInv1 v1 v2 H N Z x) ?_ 32 ?_
  · rintro m a H3 ⟨k, ks, bs, hk, q27, q28, R⟩
    have q0 := R.a0
    have q1 := R.a1
    have q2 := R.a2
    have q7 := R.a7
    have q8 := R.a8
    have hs := R.size
    have hl1 := R.l1
    have hl2 := R.l2
    simp (maxSteps := 10000000) (disch := omega) only [go_sem, q0, q1, q2, q7, q8, q27, q28]
    by_cases hlt : k < 32
    · have hlt' := eq_true (show (k : Int) < 32 by omega)
      simp (maxSteps := 10000000) (disch := omega) only [go_sem, q0, q1, q2, q7, q8, q27, q28, hlt']
      by_cases hg : Z ≤ k
      · have hg' := eq_true (show (Z : Int) ≤ (k : Int) by omega)
        obtain ⟨ad, g1, _, g2⟩ := R.o1.elem (k := (k : Int)) (by omega) (by omega)
        simp (maxSteps := 10000000) (disch := omega) only [go_sem, q0, q1, q2, q7, q8, q27, q28, hg', g1]
        refine g2 _ _ _ (Nat.le_refl _) ?_
        intro H4 s1 s2 s3
        simp (maxSteps := 10000000) (disch := omega) only [go_sem, q28, wrap_i64]
        exact ⟨m - 1, by omega, k + 1, _, bs, by omega, by simp (maxSteps := 10000000) (disch := omega) only [go_sem, q27], by simp (maxSteps := 10000000) (disch := omega) only [go_sem]; push_cast; rfl, by simp (maxSteps := 10000000) (disch := omega) only [go_sem, q0], by simp (maxSteps := 10000000) (disch := omega) only [go_sem, q1], by simp (maxSteps := 10000000) (disch := omega) only [go_sem, q2], by simp (maxSteps := 10000000) (disch := omega) only [go_sem, q7], by simp (maxSteps := 10000000) (disch := omega) only [go_sem, q8], s3, R.o2.keep fun j hj hb => s2 j fun e => hne (by rw [e, hb]), by simp [hl1], hl2, by omega⟩
      · have hg' := eq_false (show ¬ (Z : Int) ≤ (k : Int) by omega)
        simp (maxSteps := 10000000) (disch := omega) only [go_sem, q0, q1, q2, q7, q8, q27, q28, hg', wrap_i64]
        exact ⟨m - 1, by omega, k + 1, ks, bs, by omega, by simp (maxSteps := 10000000) (disch := omega) only [go_sem, q27], by simp (maxSteps := 10000000) (disch := omega) only [go_sem]; push_cast; rfl, R.act (by simp (maxSteps := 10000000) (disch := omega) only [go_sem]) (by simp (maxSteps := 10000000) (disch := omega) only [go_sem]) (by simp (maxSteps := 10000000) (disch := omega) only [go_sem]) (by simp (maxSteps := 10000000) (disch := omega) only [go_sem]) (by simp (maxSteps := 10000000) (disch := omega) only [go_sem])⟩
    · have hlt' := eq_false (show ¬ (k : Int) < 32 by omega)
      have l2 := R.o2.sl.len
      rw [hl2] at l2
      simp (maxSteps := 10000000) (disch := omega) only [go_sem, q0, q1, q2, q7, q8, q27, q28, hlt', l2]
      refine wp_loop (gInv2 v1 v2 H N Z x) ?_ N ?_
      · rintro m a H3 ⟨k, ks, bs, hk, q39, q40, R⟩
        have q0 := R.a0
        have q1 := R.a1
        have q2 := R.a2
        have q7 := R.a7
        have q8 := R.a8
        have hs := R.size
        have hl1 := R.l1
        have hl2 := R.l2
        simp (maxSteps := 10000000) (disch := omega) only [go_sem, q0, q1, q2, q7, q8, q39, q40]
        by_cases hlt : k < N
        · have hlt' := eq_true (show (k : Int) < (N : Int) by omega)
          obtain ⟨ad, g1, _, g2⟩ := R.o2.elem (k := (k : Int)) (by omega) (by omega)
          simp (maxSteps := 10000000) (disch := omega) only [go_sem, q0, q1, q2, q7, q8, q39, q40, hlt', g1]
          refine g2 _ _ _ (Nat.le_refl _) ?_
          intro H4 s1 s2 s3
          simp (maxSteps := 10000000) (disch := omega) only [go_sem, q40, wrap_i64]
          exact ⟨m - 1, by omega, k + 1, ks, _, by omega, by simp (maxSteps := 10000000) (disch := omega) only [go_sem, q39], by simp (maxSteps := 10000000) (disch := omega) only [go_sem]; push_cast; rfl, by simp (maxSteps := 10000000) (disch := omega) only [go_sem, q0], by simp (maxSteps := 10000000) (disch := omega) only [go_sem, q1], by simp (maxSteps := 10000000) (disch := omega) only [go_sem, q2], by simp (maxSteps := 10000000) (disch := omega) only [go_sem, q7], by simp (maxSteps := 10000000) (disch := omega) only [go_sem, q8], R.o1.keep fun j hj hb => s2 j fun e => hne (by rw [e, hb]), s3, hl1, by simp [hl2], by omega⟩
        · have hlt' := eq_false (show ¬ (k : Int) < (N : Int) by omega)
          simp (maxSteps := 10000000) (disch := omega) only [go_sem, q0, q1, q2, q7, q8, q39, q40, hlt']
          by_cases hN0 : 0 < N
          · have hN0' := eq_true (show (0 : Int) < (N : Int) by omega)
            obtain ⟨ad, g1, _, g2⟩ := R.o2.elem (k := (N : Int) - 1) (by omega) (by omega)
            simp (maxSteps := 10000000) (disch := omega) only [go_sem, q0, q1, q2, q7, q8, hN0', wrap_i64, g1]
            refine g2 _ _ _ (Nat.le_refl _) ?_
            intro H4 s1 s2 s3
            have k4 : OE H4 H.size v1 ks := R.o1.keep fun j hj hb => s2 j fun e => hne (by rw [e, hb])
            simp (maxSteps := 10000000) (disch := omega) only [go_sem, q7, q8]
            refine (tag_fun k4.sl s3.sl (by omega) (by simp; omega)).call (by omega) ?_
            rintro _ H5 a1 a2 q
            obtain ⟨w1, rfl, hw1⟩ := q.1 hl1
            simp (maxSteps := 10000000) (disch := omega) only [go_sem, q7, q8]
            refine (refTag_fun (k4.sl.keep_old2 a2) (s3.sl.keep_old2 a2) (by omega) (by simp; omega)).call (by omega) ?_
            rintro _ H6 b1 b2 q
            obtain ⟨w2, rfl, hw2⟩ := q.1 hl1
            have hw1l := hw1.sl.len
            rw [polyTag_length] at hw1l
            simp (maxSteps := 10000000) (disch := omega) only [go_sem, hw1l]
            refine conv_text (hw1.sl.keep_old2 b2) ?_
            simp (maxSteps := 10000000) (disch := omega) only [go_sem]
            refine conv_text hw2.sl ?_
            simp (maxSteps := 10000000) (disch := omega) only [go_sem]
            refine (awake8_fun _).call (by first | omega | (show H.size ≤ _; omega)) ?_
            rintro _ H7 g7 g8 rfl
            simp (maxSteps := 10000000) (disch := omega) only [go_sem]
          · have hN0' := eq_false (show ¬ (0 : Int) < (N : Int) by omega)
            simp (maxSteps := 10000000) (disch := omega) only [go_sem, q0, q1, q2, q7, q8, hN0']
            refine (tag_fun R.o1.sl R.o2.sl (by omega) (by omega)).call (by omega) ?_
            rintro _ H5 a1 a2 q
            obtain ⟨w1, rfl, hw1⟩ := q.1 hl1
            simp (maxSteps := 10000000) (disch := omega) only [go_sem, q7, q8]
            refine (refTag_fun (R.o1.sl.keep_old2 a2) (R.o2.sl.keep_old2 a2) (by omega) (by omega)).call (by omega) ?_
            rintro _ H6 b1 b2 q
            obtain ⟨w2, rfl, hw2⟩ := q.1 hl1
            have hw1l := hw1.sl.len
            rw [polyTag_length] at hw1l
            simp (maxSteps := 10000000) (disch := omega) only [go_sem, hw1l]
            refine conv_text (hw1.sl.keep_old2 b2) ?_
            simp (maxSteps := 10000000) (disch := omega) only [go_sem]
            refine conv_text hw2.sl ?_
            simp (maxSteps := 10000000) (disch := omega) only [go_sem]
            refine (awake8_fun _).call (by first | omega | (show H.size ≤ _; omega)) ?_
            rintro _ H7 g7 g8 rfl
            simp (maxSteps := 10000000) (disch := omega) only [go_sem]
      · exact ⟨0, ks, bs, by omega, by simp (maxSteps := 10000000) (disch := omega) only [go_sem], by simp (maxSteps := 10000000) (disch := omega) only [go_sem], R.act (by simp (maxSteps := 10000000) (disch := omega) only [go_sem]) (by simp (maxSteps := 10000000) (disch := omega) only [go_sem]) (by simp (maxSteps := 10000000) (disch := omega) only [go_sem]) (by simp (maxSteps := 10000000) (disch := omega) only [go_sem]) (by simp (maxSteps := 10000000) (disch := omega) only [go_sem])⟩
  · exact ⟨0, _, _, by omega, by simp (maxSteps := 10000000) (disch := omega) only [go_sem], by simp (maxSteps := 10000000) (disch := omega) only [go_sem], by simp (maxSteps := 10000000) (disch := omega) only [go_sem], by simp (maxSteps := 10000000) (disch := omega) only [go_sem], by simp (maxSteps := 10000000) (disch := omega) only [go_sem], by simp (maxSteps := 10000000) (disch := omega) only [go_sem], by simp (maxSteps := 10000000) (disch := omega) only [go_sem], o1', OE.le (by omega) o2, by simp, by simp, by omega⟩

/-! ### PolyNothing -/
theorem polyTag_nil (k : List (BitVec 8)) (h : k.length = 32) : polyTag k [] = k.drop 16 := by
  have e : (([] : List (BitVec 8)).length + 15) / 16 = 0 := rfl
  rw [polyTag, e, polyH, Nat.zero_add, polyS]
  have hl : ((k.drop 16).take 16) = k.drop 16 := List.take_of_length_le (by simp; omega)
  rw [hl]
  have := leB_leN (k.drop 16)
  have h16 : (k.drop 16).length = 16 := by simp; omega
  rw [h16] at this
  exact this
theorem polyH_zero (b : List (BitVec 8)) : ∀ n, polyH 0 b n = 0
  | 0 => rfl
  | n + 1 => by rw [polyH, Nat.mul_zero]; rfl
theorem polyTag_zero (s b : List (BitVec 8)) (h : s.length = 16) : polyTag (List.replicate 16 0#8 ++ s) b = s := by
  have hr : polyR (List.replicate 16 0#8 ++ s) = 0 := by
    have e : clampL (List.replicate 16 0#8 ++ s) = List.replicate 16 0#8 := by
      apply List.ext_getElem
      · simp [clampL]
      · intro i h1 h2
        have hi : i < 16 := by simpa using h2
        rw [clamp_get _ _ hi, List.getElem_replicate, List.getD_eq_getElem?_getD, List.getElem?_append_left (by simpa using hi), List.getElem?_replicate, if_pos hi]
        simp
    rw [polyR, e, leN_zeros]
  rw [polyTag, hr, polyH_zero, Nat.zero_add, polyS]
  have e : ((List.replicate 16 0#8 ++ s).drop 16).take 16 = s := by
    rw [List.drop_append_of_le_length (by simp), List.drop_eq_nil_of_le (by simp), List.nil_append, List.take_of_length_le (by omega)]
  rw [e]
  have := leB_leN s
  rw [h] at this
  exact this

def fl1 (k : List (BitVec 8)) (i : Nat) : List (BitVec 8) := ([3, 7, 11, 15].take i).foldl (fun l x => l.set x (l.getD x 0#8 ^^^ 240#8)) k
def fl2 (k : List (BitVec 8)) (i : Nat) : List (BitVec 8) := ([4, 8, 12].take i).foldl (fun l x => l.set x (l.getD x 0#8 ^^^ 3#8)) k
theorem fl1_length (k : List (BitVec 8)) (i : Nat) : (fl1 k i).length = k.length := by
  have h : ∀ (l : List Nat) (m : List (BitVec 8)), (l.foldl (fun l x => l.set x (l.getD x 0#8 ^^^ 240#8)) m).length = m.length := by
    intro l
    induction l with
    | nil => intro m; rfl
    | cons x l ih => intro m; rw [List.foldl_cons, ih, List.length_set]
  exact h _ _
theorem fl2_length (k : List (BitVec 8)) (i : Nat) : (fl2 k i).length = k.length := by
  have h : ∀ (l : List Nat) (m : List (BitVec 8)), (l.foldl (fun l x => l.set x (l.getD x 0#8 ^^^ 3#8)) m).length = m.length := by
    intro l
    induction l with
    | nil => intro m; rfl
    | cons x l ih => intro m; rw [List.foldl_cons, ih, List.length_set]
  exact h _ _
theorem fl1_step (k : List (BitVec 8)) {i : Nat} (hi : i < 4) : ∃ x : Nat, x < 16 ∧ [(3 : Int), 7, 11, 15][i]? = some (x : Int) ∧ (fl1 k i).set x ((fl1 k i).getD x 0#8 ^^^ 240#8) = fl1 k (i + 1) := by
  match i, hi with
  | 0, _ => exact ⟨3, by omega, rfl, rfl⟩
  | 1, _ => exact ⟨7, by omega, rfl, rfl⟩
  | 2, _ => exact ⟨11, by omega, rfl, rfl⟩
  | 3, _ => exact ⟨15, by omega, rfl, rfl⟩
theorem fl2_step (k : List (BitVec 8)) {i : Nat} (hi : i < 3) : ∃ x : Nat, x < 16 ∧ [(4 : Int), 8, 12][i]? = some (x : Int) ∧ (fl2 k i).set x ((fl2 k i).getD x 0#8 ^^^ 3#8) = fl2 k (i + 1) := by
  match i, hi with
  | 0, _ => exact ⟨4, by omega, rfl, rfl⟩
  | 1, _ => exact ⟨8, by omega, rfl, rfl⟩
  | 2, _ => exact ⟨12, by omega, rfl, rfl⟩
theorem clamp_set (k : List (BitVec 8)) (x : Nat) (m : BitVec 8) (hx : x < k.length) (h : ∀ b : BitVec 8, (b ^^^ m) &&& clampM x = b &&& clampM x) : clampL (k.set x (k.getD x 0#8 ^^^ m)) = clampL k := by
  unfold clampL
  refine List.map_congr_left fun i _ => ?_
  by_cases hi : x = i
  · subst hi
    rw [List.getD_eq_getElem?_getD, List.getElem?_set, if_pos rfl, if_pos hx]
    exact h _
  · rw [List.getD_eq_getElem?_getD, List.getElem?_set_ne hi, ← List.getD_eq_getElem?_getD]
theorem clamp_fl1 (k : List (BitVec 8)) (hk : k.length = 32) : ∀ i, i ≤ 4 → clampL (fl1 k i) = clampL k ∧ (fl1 k i).drop 16 = k.drop 16
  | 0, _ => ⟨rfl, rfl⟩
  | i + 1, hi => by
    obtain ⟨ih1, ih2⟩ := clamp_fl1 k hk i (by omega)
    obtain ⟨x, x1, x2, x3⟩ := fl1_step k (i := i) (by omega)
    have hl := fl1_length k i
    have hx : x = 3 ∨ x = 7 ∨ x = 11 ∨ x = 15 := by
      match i, hi with
      | 0, _ => simp at x2; omega
      | 1, _ => simp at x2; omega
      | 2, _ => simp at x2; omega
      | 3, _ => simp at x2; omega
    rw [← x3]
    refine ⟨?_, by rw [List.drop_set_of_lt x1]; exact ih2⟩
    rw [clamp_set _ _ _ (by omega), ih1]
    rcases hx with rfl | rfl | rfl | rfl <;> decide
theorem clamp_fl2 (k : List (BitVec 8)) (hk : k.length = 32) : ∀ i, i ≤ 3 → clampL (fl2 k i) = clampL k ∧ (fl2 k i).drop 16 = k.drop 16
  | 0, _ => ⟨rfl, rfl⟩
  | i + 1, hi => by
    obtain ⟨ih1, ih2⟩ := clamp_fl2 k hk i (by omega)
    obtain ⟨x, x1, x2, x3⟩ := fl2_step k (i := i) (by omega)
    have hl := fl2_length k i
    have hx : x = 4 ∨ x = 8 ∨ x = 12 := by
      match i, hi with
      | 0, _ => simp at x2; omega
      | 1, _ => simp at x2; omega
      | 2, _ => simp at x2; omega
    rw [← x3]
    refine ⟨?_, by rw [List.drop_set_of_lt x1]; exact ih2⟩
    rw [clamp_set _ _ _ (by omega), ih1]
    rcases hx with rfl | rfl | rfl <;> decide
theorem polyTag_same {k c : List (BitVec 8)} (h1 : clampL c = clampL k) (h2 : c.drop 16 = k.drop 16) (b : List (BitVec 8)) : polyTag c b = polyTag k b := by
  unfold polyTag polyR polyS
  rw [h1, h2]

end Go.Proofs.Ytcapjjmikapmfaa.M
