/- PolyNothing. -/
import Derived.Test.YtcapjjmikapmfaaPi
set_option linter.unusedVariables false
set_option linter.unusedSimpArgs false
namespace Go.Proofs.Ytcapjjmikapmfaa.M
open Go Go.Proofs

structure N2 (kv bv cv : Value) (ks bs cs : List (BitVec 8)) (H0 : Heap) (a : AAct) (H : Heap) : Prop where
  a1 : a 1 = bv
  a5 : a 5 = kv
  a11 : a 11 = cv
  s1 : Sl H bv bs
  s5 : Sl H kv ks
  s11 : OE H H0.size cv cs
  size : H0.size ≤ H.size
theorem N2.act {kv bv cv : Value} {ks bs cs : List (BitVec 8)} {H0 : Heap} {a b : AAct} {H : Heap} (h : N2 kv bv cv ks bs cs H0 a H) (e1 : b 1 = a 1) (e5 : b 5 = a 5) (e11 : b 11 = a 11) : N2 kv bv cv ks bs cs H0 b H :=
  ⟨by rw [e1, h.a1], by rw [e5, h.a5], by rw [e11, h.a11], h.s1, h.s5, h.s11, h.size⟩
def nI1 (kv bv cv : Value) (ks bs : List (BitVec 8)) (H0 H1 : Heap) (m : Nat) (a : AAct) (H : Heap) : Prop :=
  ∃ i : Nat, i + m = 4 ∧ a 66 = .agg #[.int .i64 3, .int .i64 7, .int .i64 11, .int .i64 15] ∧ a 67 = .int .i64 (i : Nat) ∧ (∀ j, j < H1.size → H[j]? = H1[j]?) ∧ N2 kv bv cv ks bs (fl1 ks i) H1 a H
def nI2 (kv bv cv : Value) (ks bs : List (BitVec 8)) (H0 H1 : Heap) (m : Nat) (a : AAct) (H : Heap) : Prop :=
  ∃ i : Nat, i + m = 3 ∧ a 77 = .agg #[.int .i64 4, .int .i64 8, .int .i64 12] ∧ a 78 = .int .i64 (i : Nat) ∧ (∀ j, j < H1.size → H[j]? = H1[j]?) ∧ N2 kv bv cv ks bs (fl2 (fl1 ks 4) i) H1 a H

set_option maxRecDepth 20000 in
set_option maxHeartbeats 4000000 in
theorem polyNothing_fun {H : Heap} {v : Value} {xs : List (BitVec 8)} (hv : Sl H v xs) (hl : xs.length ≤ 140737488351232) {v2 : Value} {ys : List (BitVec 8)} (hv2 : Sl H v2 ys) (hl2 : ys.length ≤ 140737488351232) : Fun Try.prog 25 [v, v2] H fun r _ => r = .bool true := by
  refine fun_of Try.func25 rfl (by decide +kernel) (Nat.le_of_ble_eq_true rfl) ?_
  unfold Try.f25
  simp (maxSteps := 10000000) (disch := omega) only [go_sem, hv2.len]
  by_cases g1 : (300 : Int) < ys.length
  · simp (maxSteps := 10000000) (disch := omega) only [go_sem, g1]
    refine (awake8_fun _).call (Nat.le_refl _) ?_
    rintro _ H3 g7 g8 rfl
    simp (maxSteps := 10000000) (disch := omega) only [go_sem]
  simp (maxSteps := 10000000) (disch := omega) only [go_sem, g1]
  refine (bytes8_fun 32 (by omega) hv).call (Nat.le_refl _) ?_
  intro kv H1 c1 c2 c3
  have hk1 := c3.sl
  have hb1 := hv2.keep_old2 c2
  obtain ⟨ks, hks⟩ : ∃ ks, ks = fit 32 xs := ⟨_, rfl⟩
  have hkl : ks.length = 32 := by rw [hks]; exact fit_length _ _
  rw [← hks] at hk1
  simp (maxSteps := 10000000) (disch := omega) only [go_sem]
  refine (tag_fun hk1 (Sl.nil H1) (by omega) (by simp)).call c1 ?_
  rintro _ H2 d1 d2 q
  obtain ⟨w1, rfl, hw1⟩ := q.1 hkl
  rw [polyTag_nil ks hkl] at hw1
  have hk2 := hk1.keep_old2 d2
  have hb2 := hb1.keep_old2 d2
  obtain ⟨s1, e1, e2, _⟩ := hk2.lo (k := 16) (by omega) (by omega)
  have hdl : (ks.drop (16 : Int).toNat).length = 16 := by rw [List.length_drop, hkl]; rfl
  have z2 : H.size ≤ H2.size := by omega
  simp (maxSteps := 10000000) (disch := omega) only [go_sem]
  refine draw_of 3 (by kernel_rfl) ?_
  simp (maxSteps := 10000000) (disch := omega) only [go_sem]
  refine make_bytes (by omega) (by omega) ?_
  intro zv H3 f1 f2 f3
  have k3 : ∀ j, j < H2.size → H3[j]? = H2[j]? := fun j hj => by rw [f1, get_push_old hj]
  have z3 : H3.size = H2.size + 1 := by rw [f1]; simp
  simp (maxSteps := 10000000) (disch := omega) only [go_sem, e1]
  refine append_bytes f2.ow (e2.keep_old2 k3) z2 (by omega) (by rw [hdl]; simp) ?_
  intro tv H4 i1 i2 i3 i4 i5
  have hz4 := i4.sl
  have k4 : ∀ j, j < H2.size → H4[j]? = H2[j]? := fun j hj => by rw [i3 j (by omega) (by rw [f3]; intro e; have := Option.some.inj e; omega), k3 j hj]
  have hk4 := hk2.keep_old2 k4
  have hb4 := hb2.keep_old2 k4
  simp (maxSteps := 10000000) (disch := omega) only [go_sem]
  refine (tag_fun hz4 hb4 (by rw [List.length_append, hdl]; simp) (by omega)).call (by omega) ?_
  rintro _ H5 j1 j2 q
  obtain ⟨w2, rfl, hw2⟩ := q.1 (by rw [List.length_append, hdl]; simp)
  have ez : polyTag (List.replicate (16 : Int).toNat 0#8 ++ ks.drop (16 : Int).toNat) ys = ks.drop 16 := polyTag_zero _ _ hdl
  rw [ez] at hw2
  have k5 : ∀ j, j < H2.size → H5[j]? = H2[j]? := fun j hj => by rw [j2 j (by omega), k4 j hj]
  have hk5 := hk2.keep_old2 k5
  have hb5 := hb2.keep_old2 k5
  have hw15 := (hw1.sl).keep_old2 k5
  have e25 := e2.keep_old2 k5
  have e26 : Sl H5 s1 (ks.drop 16) := e25
  simp (maxSteps := 10000000) (disch := omega) only [go_sem]
  refine draw_of 22 (by kernel_rfl) ?_
  simp (maxSteps := 10000000) (disch := omega) only [go_sem]
  refine conv_text hw15 ?_
  simp (maxSteps := 10000000) (disch := omega) only [go_sem, e1]
  refine conv_text e26 ?_
  simp (maxSteps := 10000000) (disch := omega) only [go_sem]
  refine conv_text hw2.sl ?_
  simp (maxSteps := 10000000) (disch := omega) only [go_sem, e1]
  refine conv_text e26 ?_
  simp (maxSteps := 10000000) (disch := omega) only [go_sem]
  have o5 : OE (H5.push (.cells [] true true)) H5.size (.slice (some ⟨H5.size, 0, some 1⟩) 0 0) [] := OE.new (Nat.le_refl _) [] 0 (Nat.le_refl _)
  refine append_fresh o5 (hk5.mono (Rd.push _ _)) (show H.size ≤ H5.size by omega) (by simp) (by omega) ?_
  intro cv H6 l1 l2 l3 l4
  have z6 : H5.size ≤ H6.size := by simp at l1; omega
  have k6 : ∀ j, j < H5.size → H6[j]? = H5[j]? := fun j hj => by rw [l3 j (by simp; omega) (by simp [blockOf]; omega), get_push_old hj]
  have hk6 := hk5.keep_old2 k6
  have hb6 := hb5.keep_old2 k6
  simp (maxSteps := 10000000) (disch := omega) only [go_sem, build_84]
  refine wp_loop (nI1 kv v2 cv ks ys H H5) ?_ 4 ?_
  · rintro m a H7 ⟨i, hi, q66, q67, old, R⟩
    have q1 := R.a1
    have q5 := R.a5
    have q11 := R.a11
    have hz := R.size
    have hl7 := fl1_length ks i
    simp (maxSteps := 10000000) (disch := omega) only [go_sem, q1, q5, q11, q66, q67]
    by_cases hlt : i < 4
    · have hlt' := eq_true (show (i : Int) < 4 by omega)
      obtain ⟨x, x1, x2, x3⟩ := fl1_step ks hlt
      have hix := ix_84 hlt x2
      obtain ⟨ad, g1, g2, g3⟩ := R.s11.elem (k := (x : Int)) (by omega) (by omega)
      simp only [Int.toNat_natCast] at g2 g3
      have ex : (fl1 ks i)[x]'(by omega) = (fl1 ks i).getD x 0#8 := by rw [List.getD_eq_getElem?_getD, List.getElem?_eq_getElem (by omega)]; rfl
      rw [ex] at g2
      simp (maxSteps := 10000000) (disch := omega) only [go_sem, q1, q5, q11, q66, q67, hlt', hix, g1, g2]
      refine g3 _ _ _ (by omega) ?_
      intro H8 s1 s2 s3
      rw [x3] at s3
      have hb := R.s11.block
      obtain ⟨bi, hbi, hbi2, hbi3⟩ := hb
      have k8 : ∀ j, j < H5.size → H8[j]? = H7[j]? := fun j hj => s2 j (by rw [hbi]; intro e; have := Option.some.inj e; omega)
      have old8 : ∀ j, j < H5.size → H8[j]? = H5[j]? := fun j hj => by rw [k8 j hj, old j hj]
      simp (maxSteps := 10000000) (disch := omega) only [go_sem, q67, wrap_i64]
      exact ⟨m - 1, by omega, i + 1, by omega, by simp (maxSteps := 10000000) (disch := omega) only [go_sem, q66], by simp (maxSteps := 10000000) (disch := omega) only [go_sem]; push_cast; rfl, old8, by simp (maxSteps := 10000000) (disch := omega) only [go_sem, q1], by simp (maxSteps := 10000000) (disch := omega) only [go_sem, q5], by simp (maxSteps := 10000000) (disch := omega) only [go_sem, q11], hb5.keep_old2 old8, hk5.keep_old2 old8, s3, by omega⟩
    · have hlt' := eq_false (show ¬ (i : Int) < 4 by omega)
      have hii : i = 4 := by omega
      subst hii
      simp (maxSteps := 10000000) (disch := omega) only [go_sem, q1, q5, q11, q66, q67, hlt', build_85]
      refine wp_loop (nI2 kv v2 cv ks ys H H5) ?_ 3 ?_
      · rintro m a H7 ⟨i, hi, q77, q78, old, R⟩
        have q1 := R.a1
        have q5 := R.a5
        have q11 := R.a11
        have hz := R.size
        have hl7 := fl2_length (fl1 ks 4) i
        rw [fl1_length] at hl7
        simp (maxSteps := 10000000) (disch := omega) only [go_sem, q1, q5, q11, q77, q78]
        by_cases hlt : i < 3
        · have hlt' := eq_true (show (i : Int) < 3 by omega)
          obtain ⟨x, x1, x2, x3⟩ := fl2_step (fl1 ks 4) hlt
          have hix := ix_85 hlt x2
          obtain ⟨ad, g1, g2, g3⟩ := R.s11.elem (k := (x : Int)) (by omega) (by omega)
          simp only [Int.toNat_natCast] at g2 g3
          have ex : (fl2 (fl1 ks 4) i)[x]'(by omega) = (fl2 (fl1 ks 4) i).getD x 0#8 := by rw [List.getD_eq_getElem?_getD, List.getElem?_eq_getElem (by omega)]; rfl
          rw [ex] at g2
          simp (maxSteps := 10000000) (disch := omega) only [go_sem, q1, q5, q11, q77, q78, hlt', hix, g1, g2]
          refine g3 _ _ _ (by omega) ?_
          intro H8 s1 s2 s3
          rw [x3] at s3
          have hb := R.s11.block
          obtain ⟨bi, hbi, hbi2, hbi3⟩ := hb
          have k8 : ∀ j, j < H5.size → H8[j]? = H7[j]? := fun j hj => s2 j (by rw [hbi]; intro e; have := Option.some.inj e; omega)
          have old8 : ∀ j, j < H5.size → H8[j]? = H5[j]? := fun j hj => by rw [k8 j hj, old j hj]
          simp (maxSteps := 10000000) (disch := omega) only [go_sem, q78, wrap_i64]
          exact ⟨m - 1, by omega, i + 1, by omega, by simp (maxSteps := 10000000) (disch := omega) only [go_sem, q77], by simp (maxSteps := 10000000) (disch := omega) only [go_sem]; push_cast; rfl, old8, by simp (maxSteps := 10000000) (disch := omega) only [go_sem, q1], by simp (maxSteps := 10000000) (disch := omega) only [go_sem, q5], by simp (maxSteps := 10000000) (disch := omega) only [go_sem, q11], hb5.keep_old2 old8, hk5.keep_old2 old8, s3, by omega⟩
        · have hlt' := eq_false (show ¬ (i : Int) < 3 by omega)
          have hii : i = 3 := by omega
          subst hii
          obtain ⟨p1, p2⟩ := clamp_fl1 ks hkl 4 (by omega)
          obtain ⟨p3, p4⟩ := clamp_fl2 (fl1 ks 4) (by rw [fl1_length, hkl]) 3 (by omega)
          have es := polyTag_same (k := ks) (c := fl2 (fl1 ks 4) 3) (by rw [p3, p1]) (by rw [p4, p2]) ys
          simp (maxSteps := 10000000) (disch := omega) only [go_sem, q1, q5, q11, q77, q78, hlt']
          refine (tag_fun R.s5 R.s1 (by omega) (by omega)).call (by omega) ?_
          rintro _ H8 m1 m2 q
          obtain ⟨w3, rfl, hw3⟩ := q.1 hkl
          simp (maxSteps := 10000000) (disch := omega) only [go_sem, q1, q5, q11]
          refine (tag_fun (R.s11.sl.keep_old2 m2) (R.s1.keep_old2 m2) (by omega) (by omega)).call (by omega) ?_
          rintro _ H9 m3 m4 q
          obtain ⟨w4, rfl, hw4⟩ := q.1 (by rw [hl7, hkl])
          rw [es] at hw4
          simp (maxSteps := 10000000) (disch := omega) only [go_sem]
          refine conv_text (hw3.sl.keep_old2 m4) ?_
          simp (maxSteps := 10000000) (disch := omega) only [go_sem]
          refine conv_text hw4.sl ?_
          simp (maxSteps := 10000000) (disch := omega) only [go_sem]
          refine (awake8_fun _).call (by first | omega | (show H.size ≤ _; omega)) ?_
          rintro _ H7 g7 g8 rfl
          simp (maxSteps := 10000000) (disch := omega) only [go_sem]
      · exact ⟨0, by omega, by simp (maxSteps := 10000000) (disch := omega) only [go_sem], by simp (maxSteps := 10000000) (disch := omega) only [go_sem], old, R.act (by simp (maxSteps := 10000000) (disch := omega) only [go_sem]) (by simp (maxSteps := 10000000) (disch := omega) only [go_sem]) (by simp (maxSteps := 10000000) (disch := omega) only [go_sem])⟩
  · exact ⟨0, by omega, by simp (maxSteps := 10000000) (disch := omega) only [go_sem], by simp (maxSteps := 10000000) (disch := omega) only [go_sem], k6, by simp (maxSteps := 10000000) (disch := omega) only [go_sem], by simp (maxSteps := 10000000) (disch := omega) only [go_sem], by simp (maxSteps := 10000000) (disch := omega) only [go_sem], hb6, hk6, l4, z6⟩

end Go.Proofs.Ytcapjjmikapmfaa.M
