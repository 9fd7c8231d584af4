/- HmacParts. -/
import Derived.Test.YtcapjjmikapmfaaSu
import Derived.Test.YtcapjjmikapmfaaXq
import Derived.Test.YtcapjjmikapmfaaXe
import Derived.Test.YtcapjjmikapmfaaMs
set_option linter.unusedVariables false
set_option linter.unusedSimpArgs false
namespace Go.Proofs.Ytcapjjmikapmfaa.M
open Go Go.Proofs

def half (c : BitVec 8) (ks : List (BitVec 8)) (k : Nat) : List (BitVec 8) := (padded c ks).take k ++ (padded 0#8 ks).drop k
theorem half_length (c : BitVec 8) (ks : List (BitVec 8)) (k : Nat) : (half c ks k).length = 64 := by simp [half, padded_length]; omega
theorem half_zero (c : BitVec 8) (ks : List (BitVec 8)) : half c ks 0 = padded 0#8 ks := by simp [half]
theorem half_end (c : BitVec 8) (ks : List (BitVec 8)) : half c ks 64 = padded c ks := by
  rw [half, List.take_of_length_le (by rw [padded_length]; omega), List.drop_eq_nil_of_le (by rw [padded_length]; omega), List.append_nil]
theorem half_get (c : BitVec 8) (ks : List (BitVec 8)) {k : Nat} (h : k < 64) : (half c ks k)[k]'(by rw [half_length]; exact h) = ks.getD k 0#8 := by
  have e : ((padded c ks).take k).length = k := by rw [List.length_take, padded_length]; omega
  have : (half c ks k)[k]? = some (ks.getD k 0#8) := by
    rw [half, List.getElem?_append_right (by omega), e, Nat.sub_self, List.getElem?_drop, Nat.add_zero]
    simp [padded, h]
  rw [List.getElem?_eq_getElem (by rw [half_length]; exact h)] at this
  exact Option.some.inj this
theorem half_set (c : BitVec 8) (ks : List (BitVec 8)) {k : Nat} (h : k < 64) : (half c ks k).set k (ks.getD k 0#8 ^^^ c) = half c ks (k + 1) := by
  have e : ((padded c ks).take k).length = k := by rw [List.length_take, padded_length]; omega
  have hl : k < (padded 0#8 ks).length := by rw [padded_length]; exact h
  rw [half, half, padded_take c ks k h, List.set_append_right _ _ (by omega), e, Nat.sub_self, List.drop_eq_getElem_cons hl, List.set_cons_zero, List.append_assoc]
  rfl
theorem copy_key (ks : List (BitVec 8)) (h : ks.length ≤ 64) : ks.take (List.replicate (64 : Int).toNat (0#8 : BitVec 8)).length ++ (List.replicate (64 : Int).toNat (0#8 : BitVec 8)).drop ks.length = padded 0#8 ks := by
  have e64 : (64 : Int).toNat = 64 := rfl
  rw [e64, List.length_replicate, List.take_of_length_le h, List.drop_replicate]
  apply List.ext_getElem?
  intro j
  by_cases hj : j < ks.length
  · rw [List.getElem?_append_left hj]
    simp [padded, show j < 64 by omega, List.getD_eq_getElem?_getD, List.getElem?_eq_getElem hj]
  · rw [List.getElem?_append_right (by omega), List.getElem?_replicate]
    by_cases h2 : j < 64
    · rw [if_pos (by omega)]
      simp [padded, h2, List.getD_eq_getElem?_getD, List.getElem?_eq_none (show ks.length ≤ j by omega)]
    · rw [if_neg (by omega)]
      simp [padded, h2]

def hpInv (H0 H1 : Heap) (kv bv iv ov : Value) (ks : List (BitVec 8)) (m : Nat) (a : AAct) (H : Heap) : Prop :=
  ∃ k : Nat, k + m = 64 ∧ a 0 = kv ∧ a 1 = bv ∧ a 5 = iv ∧ a 6 = ov ∧ a 26 = .int .i64 (64 : Nat) ∧ a 27 = .int .i64 (k : Nat) ∧ OE H H0.size iv (half 54#8 ks k) ∧ OE H H0.size ov (half 92#8 ks k) ∧ (∀ j, j < H0.size → H[j]? = H0[j]?) ∧ H0.size ≤ H.size

set_option maxRecDepth 20000 in
set_option maxHeartbeats 4000000 in
theorem hmacParts_fun {H : Heap} {v : Value} {xs : List (BitVec 8)} (hv : Sl H v xs) (hl : xs.length ≤ 140737488351232) {v2 : Value} {ys : List (BitVec 8)} (hv2 : Sl H v2 ys) (hl2 : ys.length ≤ 140737488351232) : Fun Try.prog 29 [v, v2] H fun r _ => r = .bool true := by
  refine fun_of Try.func29 rfl (by decide +kernel) (Nat.le_of_ble_eq_true rfl) ?_
  unfold Try.f29
  by_cases g1 : (64 : Int) < xs.length
  · simp (maxSteps := 10000000) (disch := omega) only [wlC_nil, wlC_t, wlC_u, wlC_st, wlC_su, nextT_eq, nextU_eq, wlC_g, guardC_hit, guardC_tf, guardC_ft, guardC_u, pure_move, pure_assign, pure_pick, pure_bin, pure_un, pure_ext, pure_fa, pure_ia, pure_load, pure_store, pure_conv, pure_build, pure_call, pure_append, pure_len, Nat.reduceSub, condK_t, condK_f, guardK_tt, guardK_ff, guardK_tf, guardK_ft, guardQ_tt, guardQ_ff, guardQ_tf, guardQ_ft, Bool.true_beq, Bool.false_beq, go_sem, hv.len, hv2.len, g1]
    refine (awake3_fun _).call (Nat.le_refl _) ?_
    rintro _ H3 g7 g8 rfl
    simp (maxSteps := 10000000) (disch := omega) only [wlC_nil, wlC_t, wlC_u, wlC_st, wlC_su, nextT_eq, nextU_eq, wlC_g, guardC_hit, guardC_tf, guardC_ft, guardC_u, pure_move, pure_assign, pure_pick, pure_bin, pure_un, pure_ext, pure_fa, pure_ia, pure_load, pure_store, pure_conv, pure_build, pure_call, pure_append, pure_len, Nat.reduceSub, condK_t, condK_f, guardK_tt, guardK_ff, guardK_tf, guardK_ft, guardQ_tt, guardQ_ff, guardQ_tf, guardQ_ft, Bool.true_beq, Bool.false_beq, go_sem]
  by_cases g2 : (500 : Int) < ys.length
  · simp (maxSteps := 10000000) (disch := omega) only [wlC_nil, wlC_t, wlC_u, wlC_st, wlC_su, nextT_eq, nextU_eq, wlC_g, guardC_hit, guardC_tf, guardC_ft, guardC_u, pure_move, pure_assign, pure_pick, pure_bin, pure_un, pure_ext, pure_fa, pure_ia, pure_load, pure_store, pure_conv, pure_build, pure_call, pure_append, pure_len, Nat.reduceSub, condK_t, condK_f, guardK_tt, guardK_ff, guardK_tf, guardK_ft, guardQ_tt, guardQ_ff, guardQ_tf, guardQ_ft, Bool.true_beq, Bool.false_beq, go_sem, hv.len, hv2.len, g1, g2]
    refine (awake3_fun _).call (Nat.le_refl _) ?_
    rintro _ H3 g7 g8 rfl
    simp (maxSteps := 10000000) (disch := omega) only [wlC_nil, wlC_t, wlC_u, wlC_st, wlC_su, nextT_eq, nextU_eq, wlC_g, guardC_hit, guardC_tf, guardC_ft, guardC_u, pure_move, pure_assign, pure_pick, pure_bin, pure_un, pure_ext, pure_fa, pure_ia, pure_load, pure_store, pure_conv, pure_build, pure_call, pure_append, pure_len, Nat.reduceSub, condK_t, condK_f, guardK_tt, guardK_ff, guardK_tf, guardK_ft, guardQ_tt, guardQ_ff, guardQ_tf, guardQ_ft, Bool.true_beq, Bool.false_beq, go_sem]
  simp (maxSteps := 10000000) (disch := omega) only [wlC_nil, wlC_t, wlC_u, wlC_st, wlC_su, nextT_eq, nextU_eq, wlC_g, guardC_hit, guardC_tf, guardC_ft, guardC_u, pure_move, pure_assign, pure_pick, pure_bin, pure_un, pure_ext, pure_fa, pure_ia, pure_load, pure_store, pure_conv, pure_build, pure_call, pure_append, pure_len, Nat.reduceSub, condK_t, condK_f, guardK_tt, guardK_ff, guardK_tf, guardK_ft, guardQ_tt, guardQ_ff, guardQ_tf, guardQ_ft, Bool.true_beq, Bool.false_beq, go_sem, hv.len, hv2.len, g1, g2]
  refine draw_of 2 (by kernel_rfl) ?_
  simp (maxSteps := 10000000) (disch := omega) only [wlC_nil, wlC_t, wlC_u, wlC_st, wlC_su, nextT_eq, nextU_eq, wlC_g, guardC_hit, guardC_tf, guardC_ft, guardC_u, pure_move, pure_assign, pure_pick, pure_bin, pure_un, pure_ext, pure_fa, pure_ia, pure_load, pure_store, pure_conv, pure_build, pure_call, pure_append, pure_len, Nat.reduceSub, condK_t, condK_f, guardK_tt, guardK_ff, guardK_tf, guardK_ft, guardQ_tt, guardQ_ff, guardQ_tf, guardQ_ft, Bool.true_beq, Bool.false_beq, go_sem]
  refine make_bytes (by omega) (by omega) ?_
  intro iv H1 e1 o1 b1
  simp (maxSteps := 10000000) (disch := omega) only [wlC_nil, wlC_t, wlC_u, wlC_st, wlC_su, nextT_eq, nextU_eq, wlC_g, guardC_hit, guardC_tf, guardC_ft, guardC_u, pure_move, pure_assign, pure_pick, pure_bin, pure_un, pure_ext, pure_fa, pure_ia, pure_load, pure_store, pure_conv, pure_build, pure_call, pure_append, pure_len, Nat.reduceSub, condK_t, condK_f, guardK_tt, guardK_ff, guardK_tf, guardK_ft, guardQ_tt, guardQ_ff, guardQ_tf, guardQ_ft, Bool.true_beq, Bool.false_beq, go_sem]
  refine make_bytes (by omega) (by omega) ?_
  intro ov H2 e2 o2 b2
  have z1 : H1.size = H.size + 1 := by rw [e1]; simp
  have z2 : H2.size = H1.size + 1 := by rw [e2]; simp
  have k2 : ∀ j, j < H1.size → H2[j]? = H1[j]? := fun j hj => by rw [e2, get_push_old hj]
  have o12 : OE H2 H.size iv (List.replicate (64 : Int).toNat 0#8) := o1.keep fun j hj _ => k2 j hj
  have old2 : ∀ j, j < H.size → H2[j]? = H[j]? := fun j hj => by rw [k2 j (by omega), e1, get_push_old hj]
  have hne : blockOf iv ≠ blockOf ov := by rw [b1, b2]; intro e; have := Option.some.inj e; omega
  have ob : ∀ {K : Heap} {w : Value} {zs : List (BitVec 8)} {j : Nat}, OE K H.size w zs → j < H.size → blockOf w ≠ some j := fun h hj e => by
    obtain ⟨i, h1, h2, _⟩ := h.block
    rw [h1] at e; have := Option.some.inj e; omega
  simp (maxSteps := 10000000) (disch := omega) only [wlC_nil, wlC_t, wlC_u, wlC_st, wlC_su, nextT_eq, nextU_eq, wlC_g, guardC_hit, guardC_tf, guardC_ft, guardC_u, pure_move, pure_assign, pure_pick, pure_bin, pure_un, pure_ext, pure_fa, pure_ia, pure_load, pure_store, pure_conv, pure_build, pure_call, pure_append, pure_len, Nat.reduceSub, condK_t, condK_f, guardK_tt, guardK_ff, guardK_tf, guardK_ft, guardQ_tt, guardQ_ff, guardQ_tf, guardQ_ft, Bool.true_beq, Bool.false_beq, go_sem]
  refine o12.copy (Nat.le_refl _) (hv.keep_old2 old2) ?_
  intro H3 s1 s2 s3
  rw [copy_key xs (by omega)] at s3
  have o23 : OE H3 H1.size ov (List.replicate (64 : Int).toNat 0#8) := o2.keep fun j hj hb => s2 j fun e => hne (by rw [e, hb])
  have old3 : ∀ j, j < H.size → H3[j]? = H[j]? := fun j hj => by rw [s2 j (ob o12 hj), old2 j hj]
  simp (maxSteps := 10000000) (disch := omega) only [wlC_nil, wlC_t, wlC_u, wlC_st, wlC_su, nextT_eq, nextU_eq, wlC_g, guardC_hit, guardC_tf, guardC_ft, guardC_u, pure_move, pure_assign, pure_pick, pure_bin, pure_un, pure_ext, pure_fa, pure_ia, pure_load, pure_store, pure_conv, pure_build, pure_call, pure_append, pure_len, Nat.reduceSub, condK_t, condK_f, guardK_tt, guardK_ff, guardK_tf, guardK_ft, guardQ_tt, guardQ_ff, guardQ_tf, guardQ_ft, Bool.true_beq, Bool.false_beq, go_sem]
  refine o23.copy (by omega) (hv.keep_old2 old3) ?_
  intro H4 s4 s5 s6
  rw [copy_key xs (by omega)] at s6
  have o14 : OE H4 H.size iv (padded 0#8 xs) := s3.keep fun j hj hb => s5 j fun e => hne (by rw [e, hb])
  obtain ⟨q1, q2, q3, q4, hq1, hq2, hq3, hq4, hq5, hq6⟩ := s6
  have o24 : OE H4 H.size ov (padded 0#8 xs) := ⟨q1, q2, q3, q4, hq1, hq2, by omega, hq4, hq5, hq6⟩
  have old4 : ∀ j, j < H.size → H4[j]? = H[j]? := fun j hj => by rw [s5 j (ob o24 hj), old3 j hj]
  have il := o14.sl.len
  rw [padded_length] at il
  simp (maxSteps := 10000000) (disch := omega) only [wlC_nil, wlC_t, wlC_u, wlC_st, wlC_su, nextT_eq, nextU_eq, wlC_g, guardC_hit, guardC_tf, guardC_ft, guardC_u, pure_move, pure_assign, pure_pick, pure_bin, pure_un, pure_ext, pure_fa, pure_ia, pure_load, pure_store, pure_conv, pure_build, pure_call, pure_append, pure_len, Nat.reduceSub, condK_t, condK_f, guardK_tt, guardK_ff, guardK_tf, guardK_ft, guardQ_tt, guardQ_ff, guardQ_tf, guardQ_ft, Bool.true_beq, Bool.false_beq, go_sem, il]
  refine wp_loop (hpInv H H4 v v2 iv ov xs) ?_ 64 ?_
  · rintro m a H5 ⟨k, hk, p0, p1, p5, p6, p26, p27, w1, w2, old, hz⟩
    simp (maxSteps := 10000000) (disch := omega) only [wlC_nil, wlC_t, wlC_u, wlC_st, wlC_su, nextT_eq, nextU_eq, wlC_g, guardC_hit, guardC_tf, guardC_ft, guardC_u, pure_move, pure_assign, pure_pick, pure_bin, pure_un, pure_ext, pure_fa, pure_ia, pure_load, pure_store, pure_conv, pure_build, pure_call, pure_append, pure_len, Nat.reduceSub, condK_t, condK_f, guardK_tt, guardK_ff, guardK_tf, guardK_ft, guardQ_tt, guardQ_ff, guardQ_tf, guardQ_ft, Bool.true_beq, Bool.false_beq, go_sem, p0, p1, p5, p6, p26, p27]
    by_cases hlt : k < 64
    · have hlt' := eq_true (show (k : Int) < 64 by omega)
      obtain ⟨ad, f1, f2, f3⟩ := w1.elem (k := (k : Int)) (by omega) (by rw [half_length]; omega)
      simp only [Int.toNat_natCast, half_get 54#8 xs hlt] at f2 f3
      simp (maxSteps := 10000000) (disch := omega) only [wlC_nil, wlC_t, wlC_u, wlC_st, wlC_su, nextT_eq, nextU_eq, wlC_g, guardC_hit, guardC_tf, guardC_ft, guardC_u, pure_move, pure_assign, pure_pick, pure_bin, pure_un, pure_ext, pure_fa, pure_ia, pure_load, pure_store, pure_conv, pure_build, pure_call, pure_append, pure_len, Nat.reduceSub, condK_t, condK_f, guardK_tt, guardK_ff, guardK_tf, guardK_ft, guardQ_tt, guardQ_ff, guardQ_tf, guardQ_ft, Bool.true_beq, Bool.false_beq, go_sem, p0, p1, p5, p6, p26, p27, hlt', f1, f2]
      refine f3 _ _ _ (Nat.le_refl _) ?_
      intro H6 t1 t2 t3
      rw [half_set 54#8 xs hlt] at t3
      have w26 : OE H6 H.size ov (half 92#8 xs k) := w2.keep fun j hj hb => t2 j fun e => hne (by rw [e, hb])
      obtain ⟨ad2, f4, f5, f6⟩ := w26.elem (k := (k : Int)) (by omega) (by rw [half_length]; omega)
      simp only [Int.toNat_natCast, half_get 92#8 xs hlt] at f5 f6
      simp (maxSteps := 10000000) (disch := omega) only [wlC_nil, wlC_t, wlC_u, wlC_st, wlC_su, nextT_eq, nextU_eq, wlC_g, guardC_hit, guardC_tf, guardC_ft, guardC_u, pure_move, pure_assign, pure_pick, pure_bin, pure_un, pure_ext, pure_fa, pure_ia, pure_load, pure_store, pure_conv, pure_build, pure_call, pure_append, pure_len, Nat.reduceSub, condK_t, condK_f, guardK_tt, guardK_ff, guardK_tf, guardK_ft, guardQ_tt, guardQ_ff, guardQ_tf, guardQ_ft, Bool.true_beq, Bool.false_beq, go_sem, p6, f4, f5]
      refine f6 _ _ _ (Nat.le_refl _) ?_
      intro H7 t4 t5 t6
      rw [half_set 92#8 xs hlt] at t6
      simp (maxSteps := 10000000) (disch := omega) only [wlC_nil, wlC_t, wlC_u, wlC_st, wlC_su, nextT_eq, nextU_eq, wlC_g, guardC_hit, guardC_tf, guardC_ft, guardC_u, pure_move, pure_assign, pure_pick, pure_bin, pure_un, pure_ext, pure_fa, pure_ia, pure_load, pure_store, pure_conv, pure_build, pure_call, pure_append, pure_len, Nat.reduceSub, condK_t, condK_f, guardK_tt, guardK_ff, guardK_tf, guardK_ft, guardQ_tt, guardQ_ff, guardQ_tf, guardQ_ft, Bool.true_beq, Bool.false_beq, go_sem, p27, wrap_i64]
      exact ⟨m - 1, by omega, k + 1, by omega, by simp (maxSteps := 10000000) (disch := omega) only [wlC_nil, wlC_t, wlC_u, wlC_st, wlC_su, nextT_eq, nextU_eq, wlC_g, guardC_hit, guardC_tf, guardC_ft, guardC_u, pure_move, pure_assign, pure_pick, pure_bin, pure_un, pure_ext, pure_fa, pure_ia, pure_load, pure_store, pure_conv, pure_build, pure_call, pure_append, pure_len, Nat.reduceSub, condK_t, condK_f, guardK_tt, guardK_ff, guardK_tf, guardK_ft, guardQ_tt, guardQ_ff, guardQ_tf, guardQ_ft, Bool.true_beq, Bool.false_beq, go_sem, p0], by simp (maxSteps := 10000000) (disch := omega) only [wlC_nil, wlC_t, wlC_u, wlC_st, wlC_su, nextT_eq, nextU_eq, wlC_g, guardC_hit, guardC_tf, guardC_ft, guardC_u, pure_move, pure_assign, pure_pick, pure_bin, pure_un, pure_ext, pure_fa, pure_ia, pure_load, pure_store, pure_conv, pure_build, pure_call, pure_append, pure_len, Nat.reduceSub, condK_t, condK_f, guardK_tt, guardK_ff, guardK_tf, guardK_ft, guardQ_tt, guardQ_ff, guardQ_tf, guardQ_ft, Bool.true_beq, Bool.false_beq, go_sem, p1], by simp (maxSteps := 10000000) (disch := omega) only [wlC_nil, wlC_t, wlC_u, wlC_st, wlC_su, nextT_eq, nextU_eq, wlC_g, guardC_hit, guardC_tf, guardC_ft, guardC_u, pure_move, pure_assign, pure_pick, pure_bin, pure_un, pure_ext, pure_fa, pure_ia, pure_load, pure_store, pure_conv, pure_build, pure_call, pure_append, pure_len, Nat.reduceSub, condK_t, condK_f, guardK_tt, guardK_ff, guardK_tf, guardK_ft, guardQ_tt, guardQ_ff, guardQ_tf, guardQ_ft, Bool.true_beq, Bool.false_beq, go_sem, p5], by simp (maxSteps := 10000000) (disch := omega) only [wlC_nil, wlC_t, wlC_u, wlC_st, wlC_su, nextT_eq, nextU_eq, wlC_g, guardC_hit, guardC_tf, guardC_ft, guardC_u, pure_move, pure_assign, pure_pick, pure_bin, pure_un, pure_ext, pure_fa, pure_ia, pure_load, pure_store, pure_conv, pure_build, pure_call, pure_append, pure_len, Nat.reduceSub, condK_t, condK_f, guardK_tt, guardK_ff, guardK_tf, guardK_ft, guardQ_tt, guardQ_ff, guardQ_tf, guardQ_ft, Bool.true_beq, Bool.false_beq, go_sem, p6], by simp (maxSteps := 10000000) (disch := omega) only [wlC_nil, wlC_t, wlC_u, wlC_st, wlC_su, nextT_eq, nextU_eq, wlC_g, guardC_hit, guardC_tf, guardC_ft, guardC_u, pure_move, pure_assign, pure_pick, pure_bin, pure_un, pure_ext, pure_fa, pure_ia, pure_load, pure_store, pure_conv, pure_build, pure_call, pure_append, pure_len, Nat.reduceSub, condK_t, condK_f, guardK_tt, guardK_ff, guardK_tf, guardK_ft, guardQ_tt, guardQ_ff, guardQ_tf, guardQ_ft, Bool.true_beq, Bool.false_beq, go_sem, p26], by simp (maxSteps := 10000000) (disch := omega) only [wlC_nil, wlC_t, wlC_u, wlC_st, wlC_su, nextT_eq, nextU_eq, wlC_g, guardC_hit, guardC_tf, guardC_ft, guardC_u, pure_move, pure_assign, pure_pick, pure_bin, pure_un, pure_ext, pure_fa, pure_ia, pure_load, pure_store, pure_conv, pure_build, pure_call, pure_append, pure_len, Nat.reduceSub, condK_t, condK_f, guardK_tt, guardK_ff, guardK_tf, guardK_ft, guardQ_tt, guardQ_ff, guardQ_tf, guardQ_ft, Bool.true_beq, Bool.false_beq, go_sem]; push_cast; rfl, t3.keep fun j hj hb => t5 j fun e => hne (by rw [e, hb]), t6, fun j hj => by rw [t5 j (ob w26 hj), t2 j (ob w1 hj), old j hj], by omega⟩
    · have hlt' := eq_false (show ¬ (k : Int) < 64 by omega)
      have hkk : k = 64 := by omega
      subst hkk
      rw [half_end] at w1 w2
      simp (maxSteps := 10000000) (disch := omega) only [wlC_nil, wlC_t, wlC_u, wlC_st, wlC_su, nextT_eq, nextU_eq, wlC_g, guardC_hit, guardC_tf, guardC_ft, guardC_u, pure_move, pure_assign, pure_pick, pure_bin, pure_un, pure_ext, pure_fa, pure_ia, pure_load, pure_store, pure_conv, pure_build, pure_call, pure_append, pure_len, Nat.reduceSub, condK_t, condK_f, guardK_tt, guardK_ff, guardK_tf, guardK_ft, guardQ_tt, guardQ_ff, guardQ_tf, guardQ_ft, Bool.true_beq, Bool.false_beq, go_sem, p0, p1, p5, p6, p26, p27, hlt']
      refine draw_calm 4 [false, false, false, true, false, false, false, false, false, false, false, false, false, false, false, false, false] (fun _ => True) (by kernel_rfl) hz (fun h => by cases h) ?_
      simp (maxSteps := 10000000) (disch := omega) only [wlC_nil, wlC_t, wlC_u, wlC_st, wlC_su, nextT_eq, nextU_eq, wlC_g, guardC_hit, guardC_tf, guardC_ft, guardC_u, pure_move, pure_assign, pure_pick, pure_bin, pure_un, pure_ext, pure_fa, pure_ia, pure_load, pure_store, pure_conv, pure_build, pure_call, pure_append, pure_len, Nat.reduceSub, condK_t, condK_f, guardK_tt, guardK_ff, guardK_tf, guardK_ft, guardQ_tt, guardQ_ff, guardQ_tf, guardQ_ft, Bool.true_beq, Bool.false_beq, go_sem, p0, p1, p5, p6]
      refine (hmacSum_fun (hv.keep_old2 old) (hv2.keep_old2 old) (by omega) (by omega)).call (Nat.le_refl _) ?_
      intro wv H6 c1 c2 c3
      simp (maxSteps := 10000000) (disch := omega) only [wlC_nil, wlC_t, wlC_u, wlC_st, wlC_su, nextT_eq, nextU_eq, wlC_g, guardC_hit, guardC_tf, guardC_ft, guardC_u, pure_move, pure_assign, pure_pick, pure_bin, pure_un, pure_ext, pure_fa, pure_ia, pure_load, pure_store, pure_conv, pure_build, pure_call, pure_append, pure_len, Nat.reduceSub, condK_t, condK_f, guardK_tt, guardK_ff, guardK_tf, guardK_ft, guardQ_tt, guardQ_ff, guardQ_tf, guardQ_ft, Bool.true_beq, Bool.false_beq, go_sem]
      unfold stillU
      refine ⟨_, fun K => Sl K wv (hmac xs ys), conv_still (v := wv) (by simp (maxSteps := 10000000) (disch := omega) only [wlC_nil, wlC_t, wlC_u, wlC_st, wlC_su, nextT_eq, nextU_eq, wlC_g, guardC_hit, guardC_tf, guardC_ft, guardC_u, pure_move, pure_assign, pure_pick, pure_bin, pure_un, pure_ext, pure_fa, pure_ia, pure_load, pure_store, pure_conv, pure_build, pure_call, pure_append, pure_len, Nat.reduceSub, condK_t, condK_f, guardK_tt, guardK_ff, guardK_tf, guardK_ft, guardQ_tt, guardQ_ff, guardQ_tf, guardQ_ft, Bool.true_beq, Bool.false_beq, go_sem]) c3.sl, fun K hK => conv_still (v := wv) (by simp (maxSteps := 10000000) (disch := omega) only [wlC_nil, wlC_t, wlC_u, wlC_st, wlC_su, nextT_eq, nextU_eq, wlC_g, guardC_hit, guardC_tf, guardC_ft, guardC_u, pure_move, pure_assign, pure_pick, pure_bin, pure_un, pure_ext, pure_fa, pure_ia, pure_load, pure_store, pure_conv, pure_build, pure_call, pure_append, pure_len, Nat.reduceSub, condK_t, condK_f, guardK_tt, guardK_ff, guardK_tf, guardK_ft, guardQ_tt, guardQ_ff, guardQ_tf, guardQ_ft, Bool.true_beq, Bool.false_beq, go_sem]) hK, ?_, fun _ => ⟨trivial, c3.sl⟩⟩
      have w16 : OE H6 H.size iv (padded 54#8 xs) := w1.keep fun j hj _ => c2 j hj
      have w26 : OE H6 H.size ov (padded 92#8 xs) := w2.keep fun j hj _ => c2 j hj
      have hv6 : Sl H6 v2 ys := (hv2.keep_old2 old).keep_old2 c2
      simp (maxSteps := 10000000) (disch := omega) only [wlC_nil, wlC_t, wlC_u, wlC_st, wlC_su, nextT_eq, nextU_eq, wlC_g, guardC_hit, guardC_tf, guardC_ft, guardC_u, pure_move, pure_assign, pure_pick, pure_bin, pure_un, pure_ext, pure_fa, pure_ia, pure_load, pure_store, pure_conv, pure_build, pure_call, pure_append, pure_len, Nat.reduceSub, condK_t, condK_f, guardK_tt, guardK_ff, guardK_tf, guardK_ft, guardQ_tt, guardQ_ff, guardQ_tf, guardQ_ft, Bool.true_beq, Bool.false_beq, go_sem, p1, p5, p6]
      refine append_bytes w16.ow hv6 (Nat.le_refl _) (by omega) (by rw [padded_length]; omega) ?_
      intro r1 H7 d1 d2 d3 d4 d5
      have s7 : Sl H7 wv (hmac xs ys) := c3.sl.mono d2
      have w27 : Ow H7 H.size ov (padded 92#8 xs) := OV.keep w26.ow fun j hj hb => d3 j hj fun e => hne (by rw [e, hb])
      simp (maxSteps := 10000000) (disch := omega) only [wlC_nil, wlC_t, wlC_u, wlC_st, wlC_su, nextT_eq, nextU_eq, wlC_g, guardC_hit, guardC_tf, guardC_ft, guardC_u, pure_move, pure_assign, pure_pick, pure_bin, pure_un, pure_ext, pure_fa, pure_ia, pure_load, pure_store, pure_conv, pure_build, pure_call, pure_append, pure_len, Nat.reduceSub, condK_t, condK_f, guardK_tt, guardK_ff, guardK_tf, guardK_ft, guardQ_tt, guardQ_ff, guardQ_tf, guardQ_ft, Bool.true_beq, Bool.false_beq, go_sem]
      refine ⟨s7, ?_⟩
      refine (shaSum_fun d4.sl (by rw [List.length_append, padded_length]; omega)).call (by omega) ?_
      intro r2 H8 f1 f2 f3
      have s8 := s7.keep_old2 f2
      simp (maxSteps := 10000000) (disch := omega) only [wlC_nil, wlC_t, wlC_u, wlC_st, wlC_su, nextT_eq, nextU_eq, wlC_g, guardC_hit, guardC_tf, guardC_ft, guardC_u, pure_move, pure_assign, pure_pick, pure_bin, pure_un, pure_ext, pure_fa, pure_ia, pure_load, pure_store, pure_conv, pure_build, pure_call, pure_append, pure_len, Nat.reduceSub, condK_t, condK_f, guardK_tt, guardK_ff, guardK_tf, guardK_ft, guardQ_tt, guardQ_ff, guardQ_tf, guardQ_ft, Bool.true_beq, Bool.false_beq, go_sem]
      refine ⟨s8, ?_⟩
      have w28 : Ow H8 H.size ov (padded 92#8 xs) := OV.keep w27 fun j hj _ => f2 j hj
      refine append_bytes w28 f3.sl (Nat.le_refl _) (by omega) (by rw [padded_length, sha_length]; omega) ?_
      intro r3 H9 i1 i2 i3 i4 i5
      have s9 := s8.mono i2
      simp (maxSteps := 10000000) (disch := omega) only [wlC_nil, wlC_t, wlC_u, wlC_st, wlC_su, nextT_eq, nextU_eq, wlC_g, guardC_hit, guardC_tf, guardC_ft, guardC_u, pure_move, pure_assign, pure_pick, pure_bin, pure_un, pure_ext, pure_fa, pure_ia, pure_load, pure_store, pure_conv, pure_build, pure_call, pure_append, pure_len, Nat.reduceSub, condK_t, condK_f, guardK_tt, guardK_ff, guardK_tf, guardK_ft, guardQ_tt, guardQ_ff, guardQ_tf, guardQ_ft, Bool.true_beq, Bool.false_beq, go_sem]
      refine ⟨s9, ?_⟩
      refine (shaSum_fun i4.sl (by rw [List.length_append, padded_length, sha_length]; omega)).call (by omega) ?_
      intro r4 H10 j1 j2 j3
      have s10 := s9.keep_old2 j2
      have eh : sha (padded 92#8 xs ++ sha (padded 54#8 xs ++ ys)) = hmac xs ys := by rw [hmac, hkey, if_neg (by omega)]
      rw [eh] at j3
      simp (maxSteps := 10000000) (disch := omega) only [wlC_nil, wlC_t, wlC_u, wlC_st, wlC_su, nextT_eq, nextU_eq, wlC_g, guardC_hit, guardC_tf, guardC_ft, guardC_u, pure_move, pure_assign, pure_pick, pure_bin, pure_un, pure_ext, pure_fa, pure_ia, pure_load, pure_store, pure_conv, pure_build, pure_call, pure_append, pure_len, Nat.reduceSub, condK_t, condK_f, guardK_tt, guardK_ff, guardK_tf, guardK_ft, guardQ_tt, guardQ_ff, guardQ_tf, guardQ_ft, Bool.true_beq, Bool.false_beq, go_sem]
      refine ⟨s10, ?_⟩
      refine conv_text j3.sl ?_
      simp (maxSteps := 10000000) (disch := omega) only [wlC_nil, wlC_t, wlC_u, wlC_st, wlC_su, nextT_eq, nextU_eq, wlC_g, guardC_hit, guardC_tf, guardC_ft, guardC_u, pure_move, pure_assign, pure_pick, pure_bin, pure_un, pure_ext, pure_fa, pure_ia, pure_load, pure_store, pure_conv, pure_build, pure_call, pure_append, pure_len, Nat.reduceSub, condK_t, condK_f, guardK_tt, guardK_ff, guardK_tf, guardK_ft, guardQ_tt, guardQ_ff, guardQ_tf, guardQ_ft, Bool.true_beq, Bool.false_beq, go_sem]
      refine ⟨s10, ?_⟩
      refine (awake3_fun H10).call (show H.size ≤ H10.size by omega) ?_
      rintro _ H11 g7 g8 rfl
      simp (maxSteps := 10000000) (disch := omega) only [wlC_nil, wlC_t, wlC_u, wlC_st, wlC_su, nextT_eq, nextU_eq, wlC_g, guardC_hit, guardC_tf, guardC_ft, guardC_u, pure_move, pure_assign, pure_pick, pure_bin, pure_un, pure_ext, pure_fa, pure_ia, pure_load, pure_store, pure_conv, pure_build, pure_call, pure_append, pure_len, Nat.reduceSub, condK_t, condK_f, guardK_tt, guardK_ff, guardK_tf, guardK_ft, guardQ_tt, guardQ_ff, guardQ_tf, guardQ_ft, Bool.true_beq, Bool.false_beq, go_sem]
      exact s10.keep_old2 g8
  · exact ⟨0, by omega, by simp (maxSteps := 10000000) (disch := omega) only [wlC_nil, wlC_t, wlC_u, wlC_st, wlC_su, nextT_eq, nextU_eq, wlC_g, guardC_hit, guardC_tf, guardC_ft, guardC_u, pure_move, pure_assign, pure_pick, pure_bin, pure_un, pure_ext, pure_fa, pure_ia, pure_load, pure_store, pure_conv, pure_build, pure_call, pure_append, pure_len, Nat.reduceSub, condK_t, condK_f, guardK_tt, guardK_ff, guardK_tf, guardK_ft, guardQ_tt, guardQ_ff, guardQ_tf, guardQ_ft, Bool.true_beq, Bool.false_beq, go_sem], by simp (maxSteps := 10000000) (disch := omega) only [wlC_nil, wlC_t, wlC_u, wlC_st, wlC_su, nextT_eq, nextU_eq, wlC_g, guardC_hit, guardC_tf, guardC_ft, guardC_u, pure_move, pure_assign, pure_pick, pure_bin, pure_un, pure_ext, pure_fa, pure_ia, pure_load, pure_store, pure_conv, pure_build, pure_call, pure_append, pure_len, Nat.reduceSub, condK_t, condK_f, guardK_tt, guardK_ff, guardK_tf, guardK_ft, guardQ_tt, guardQ_ff, guardQ_tf, guardQ_ft, Bool.true_beq, Bool.false_beq, go_sem], by simp (maxSteps := 10000000) (disch := omega) only [wlC_nil, wlC_t, wlC_u, wlC_st, wlC_su, nextT_eq, nextU_eq, wlC_g, guardC_hit, guardC_tf, guardC_ft, guardC_u, pure_move, pure_assign, pure_pick, pure_bin, pure_un, pure_ext, pure_fa, pure_ia, pure_load, pure_store, pure_conv, pure_build, pure_call, pure_append, pure_len, Nat.reduceSub, condK_t, condK_f, guardK_tt, guardK_ff, guardK_tf, guardK_ft, guardQ_tt, guardQ_ff, guardQ_tf, guardQ_ft, Bool.true_beq, Bool.false_beq, go_sem], by simp (maxSteps := 10000000) (disch := omega) only [wlC_nil, wlC_t, wlC_u, wlC_st, wlC_su, nextT_eq, nextU_eq, wlC_g, guardC_hit, guardC_tf, guardC_ft, guardC_u, pure_move, pure_assign, pure_pick, pure_bin, pure_un, pure_ext, pure_fa, pure_ia, pure_load, pure_store, pure_conv, pure_build, pure_call, pure_append, pure_len, Nat.reduceSub, condK_t, condK_f, guardK_tt, guardK_ff, guardK_tf, guardK_ft, guardQ_tt, guardQ_ff, guardQ_tf, guardQ_ft, Bool.true_beq, Bool.false_beq, go_sem], by simp (maxSteps := 10000000) (disch := omega) only [wlC_nil, wlC_t, wlC_u, wlC_st, wlC_su, nextT_eq, nextU_eq, wlC_g, guardC_hit, guardC_tf, guardC_ft, guardC_u, pure_move, pure_assign, pure_pick, pure_bin, pure_un, pure_ext, pure_fa, pure_ia, pure_load, pure_store, pure_conv, pure_build, pure_call, pure_append, pure_len, Nat.reduceSub, condK_t, condK_f, guardK_tt, guardK_ff, guardK_tf, guardK_ft, guardQ_tt, guardQ_ff, guardQ_tf, guardQ_ft, Bool.true_beq, Bool.false_beq, go_sem], by simp (maxSteps := 10000000) (disch := omega) only [wlC_nil, wlC_t, wlC_u, wlC_st, wlC_su, nextT_eq, nextU_eq, wlC_g, guardC_hit, guardC_tf, guardC_ft, guardC_u, pure_move, pure_assign, pure_pick, pure_bin, pure_un, pure_ext, pure_fa, pure_ia, pure_load, pure_store, pure_conv, pure_build, pure_call, pure_append, pure_len, Nat.reduceSub, condK_t, condK_f, guardK_tt, guardK_ff, guardK_tf, guardK_ft, guardQ_tt, guardQ_ff, guardQ_tf, guardQ_ft, Bool.true_beq, Bool.false_beq, go_sem], by rw [half_zero]; exact o14, by rw [half_zero]; exact o24, old4, by omega⟩

end Go.Proofs.Ytcapjjmikapmfaa.M
