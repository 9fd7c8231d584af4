/- QuotaPlays. -/
import Derived.Test.YtcapjjmikapmfaaQd
import Derived.Test.YtcapjjmikapmfaaMs
import Derived.Test.YtcapjjmikapmfaaXe
set_option linter.unusedVariables false
set_option linter.unusedSimpArgs false
namespace Go.Proofs.Ytcapjjmikapmfaa.M
open Go Go.Proofs

structure PS (H0 : Heap) (i1 j1 i2 j2 : Nat) (H : Heap) (n : Nat) (f g : Int → Int) (t : Int) : Prop where
  b1 : BookAt H H0.size i1 j1 f t
  b2 : BookAt H H0.size i2 j2 g t
  old : Old H0 H
  bb : H0.size ≤ H.size
  bf : ∀ q, 0 ≤ f q ∧ f q ≤ n
  bt : -n ≤ t ∧ t ≤ n
  e : ∀ q, f q = g q
  bn : n ≤ 200
section
variable {H0 H : Heap} {i1 j1 i2 j2 : Nat} {n : Nat} {f g : Int → Int} {t : Int} (q : PS H0 i1 j1 i2 j2 H n f g t)
include q
theorem PS.g1 : ∀ x, 0 ≤ f x ∧ f x ≤ 1000 := fun x => by have := q.bf x; have := q.bn; omega
theorem PS.g2 : ∀ x, 0 ≤ g x ∧ g x ≤ 1000 := fun x => by rw [← q.e]; exact q.g1 x
theorem PS.h1 : -1000 ≤ t ∧ t ≤ 1000 := by have := q.bt; have := q.bn; omega
theorem PS.more {k : Nat} (h : n ≤ k) (hk : k ≤ 200) : PS H0 i1 j1 i2 j2 H k f g t :=
  ⟨q.b1, q.b2, q.old, q.bb, fun x => by have := q.bf x; omega, by have := q.bt; omega, q.e, hk⟩
end

set_option maxRecDepth 20000 in
set_option maxHeartbeats 4000000 in
theorem quotaPlays_fun {H0 : Heap} {v : Value} {cs : List CallT} (hv0 : CallsAt H0 v cs) (id : Int) : Fun Try.prog 5 [v, .int .i64 id] H0 (fun r _ => r = .bool true) := by
  refine fun_of_r Try.func5 rfl (by decide +kernel) (Nat.le_of_ble_eq_true rfl) ?_
  unfold Try.f5
  iterate 2 (refine wrun_assoc ?_)
  refine wrun_mid (fun a H => ∃ i1 j1 i2 j2, apart i1 j1 i2 j2 ∧ a 0 = v ∧ a 1 = .int .i64 id ∧ a 5 = .pointer (some ⟨i1, 0, none⟩) ∧ a 6 = .pointer (some ⟨i2, 0, none⟩) ∧ PS H0 i1 j1 i2 j2 H 0 (fun _ => 0) (fun _ => 0) 0) ?_ ?_
  · simp (maxSteps := 10000000) (disch := omega) only [wlC_nil, wlC_t, wlC_u, wlC_st, wlC_su, nextT_eq, nextU_eq, wlC_g, guardC_hit, guardC_tf, guardC_ft, guardC_u, pure_move, pure_assign, pure_pick, pure_bin, pure_un, pure_ext, pure_fa, pure_ia, pure_load, pure_store, pure_conv, pure_build, pure_call, pure_append, pure_len, Nat.reduceSub, condK_t, condK_f, guardK_tt, guardK_ff, guardK_tf, guardK_ft, guardQ_tt, guardQ_ff, guardQ_tf, guardQ_ft, Bool.true_beq, Bool.false_beq, go_sem]
    refine (bookNew_fun _).call (Nat.le_refl _) ?_
    rintro _ H1 a1 a2 ⟨i1, j1, rfl, b1⟩
    simp (maxSteps := 10000000) (disch := omega) only [wlC_nil, wlC_t, wlC_u, wlC_st, wlC_su, nextT_eq, nextU_eq, wlC_g, guardC_hit, guardC_tf, guardC_ft, guardC_u, pure_move, pure_assign, pure_pick, pure_bin, pure_un, pure_ext, pure_fa, pure_ia, pure_load, pure_store, pure_conv, pure_build, pure_call, pure_append, pure_len, Nat.reduceSub, condK_t, condK_f, guardK_tt, guardK_ff, guardK_tf, guardK_ft, guardQ_tt, guardQ_ff, guardQ_tf, guardQ_ft, Bool.true_beq, Bool.false_beq, go_sem]
    refine (refNew_fun _).call (show H0.size ≤ H1.size by omega) ?_
    rintro _ H2 a3 a4 ⟨i2, j2, rfl, b2⟩
    have l1 := b1.lt
    have n2 := b2.n
    have m2 := b2.m
    simp (maxSteps := 10000000) (disch := omega) only [wlC_nil, wlC_t, wlC_u, wlC_st, wlC_su, nextT_eq, nextU_eq, wlC_g, guardC_hit, guardC_tf, guardC_ft, guardC_u, pure_move, pure_assign, pure_pick, pure_bin, pure_un, pure_ext, pure_fa, pure_ia, pure_load, pure_store, pure_conv, pure_build, pure_call, pure_append, pure_len, Nat.reduceSub, condK_t, condK_f, guardK_tt, guardK_ff, guardK_tf, guardK_ft, guardQ_tt, guardQ_ff, guardQ_tf, guardQ_ft, Bool.true_beq, Bool.false_beq, go_sem]
    exact ⟨i1, j1, i2, j2, ⟨by omega, by omega, by omega, by omega⟩, rfl, rfl, b1.keep (a4 _ l1.1) (a4 _ l1.2), b2.le (by omega), fun q hq => by rw [a4 q (by omega), a2 q hq], by omega, fun _ => ⟨Int.le_refl _, Int.le_refl _⟩, ⟨by omega, by omega⟩, fun _ => rfl, by omega⟩
  rintro a H ⟨i1, j1, i2, j2, ap, p0, p1, p5, p6, q⟩
  obtain ⟨ap1, ap2, ap3, ap4⟩ := ap
  refine wrun_mid' (fun a H => ∃ f g t, a 1 = .int .i64 id ∧ a 5 = .pointer (some ⟨i1, 0, none⟩) ∧ a 6 = .pointer (some ⟨i2, 0, none⟩) ∧ PS H0 i1 j1 i2 j2 H 200 f g t) ?_ ?_
  · refine wrun_mid (fun a H' => H' = H ∧ a 1 = .int .i64 id ∧ a 5 = .pointer (some ⟨i1, 0, none⟩) ∧ a 6 = .pointer (some ⟨i2, 0, none⟩) ∧ a 14 = v ∧ a 15 = .int .i64 (cs.length : Nat) ∧ a 16 = .int .i64 (0 : Nat)) (by simp (maxSteps := 10000000) (disch := omega) only [wlC_nil, wlC_t, wlC_u, wlC_st, wlC_su, nextT_eq, nextU_eq, wlC_g, guardC_hit, guardC_tf, guardC_ft, guardC_u, pure_move, pure_assign, pure_pick, pure_bin, pure_un, pure_ext, pure_fa, pure_ia, pure_load, pure_store, pure_conv, pure_build, pure_call, pure_append, pure_len, Nat.reduceSub, condK_t, condK_f, guardK_tt, guardK_ff, guardK_tf, guardK_ft, guardQ_tt, guardQ_ff, guardQ_tf, guardQ_ft, Bool.true_beq, Bool.false_beq, go_sem, p0, p1, p5, p6, hv0.len]) ?_
    clear p0 p1 p5 p6 a
    rintro a H ⟨rfl, p1, p5, p6, p12, p13, p14⟩
    refine wrun_block (wrun_loop (fun m a H' => ∃ (k : Nat) (f g : Int → Int) (t : Int), k + m = cs.length ∧ a 1 = .int .i64 id ∧ a 5 = .pointer (some ⟨i1, 0, none⟩) ∧ a 6 = .pointer (some ⟨i2, 0, none⟩) ∧ a 14 = v ∧ a 15 = .int .i64 (cs.length : Nat) ∧ a 16 = .int .i64 (k : Nat) ∧ PS H0 i1 j1 i2 j2 H' k f g t) ?_ cs.length ⟨0, _, _, _, by omega, p1, p5, p6, p12, p13, p14, q⟩)
    clear p1 p5 p6 p12 p13 p14 q
    rintro m a H ⟨k, f, g, t, hk, p1, p5, p6, p12, p13, p14, q⟩
    iterate 1 (refine wrun_assoc ?_)
    refine wrun_mid (fun a H' => H' = H ∧ k < cs.length ∧ a 1 = .int .i64 id ∧ a 5 = .pointer (some ⟨i1, 0, none⟩) ∧ a 6 = .pointer (some ⟨i2, 0, none⟩) ∧ a 14 = v ∧ a 15 = .int .i64 (cs.length : Nat) ∧ a 16 = .int .i64 (k : Nat)) ?_ ?_
    · by_cases hlt : k < cs.length
      · have hlt' := eq_true (show (k : Int) < (cs.length : Nat) by omega)
        simp (maxSteps := 10000000) (disch := omega) only [wlC_nil, wlC_t, wlC_u, wlC_st, wlC_su, nextT_eq, nextU_eq, wlC_g, guardC_hit, guardC_tf, guardC_ft, guardC_u, pure_move, pure_assign, pure_pick, pure_bin, pure_un, pure_ext, pure_fa, pure_ia, pure_load, pure_store, pure_conv, pure_build, pure_call, pure_append, pure_len, Nat.reduceSub, condK_t, condK_f, guardK_tt, guardK_ff, guardK_tf, guardK_ft, guardQ_tt, guardQ_ff, guardQ_tf, guardQ_ft, Bool.true_beq, Bool.false_beq, go_sem, p1, p5, p6, p12, p13, p14, hlt']
        exact hlt
      · have hlt' := eq_false (show ¬ (k : Int) < (cs.length : Nat) by omega)
        simp (maxSteps := 10000000) (disch := omega) only [wlC_nil, wlC_t, wlC_u, wlC_st, wlC_su, nextT_eq, nextU_eq, wlC_g, guardC_hit, guardC_tf, guardC_ft, guardC_u, pure_move, pure_assign, pure_pick, pure_bin, pure_un, pure_ext, pure_fa, pure_ia, pure_load, pure_store, pure_conv, pure_build, pure_call, pure_append, pure_len, Nat.reduceSub, condK_t, condK_f, guardK_tt, guardK_ff, guardK_tf, guardK_ft, guardQ_tt, guardQ_ff, guardQ_tf, guardQ_ft, Bool.true_beq, Bool.false_beq, go_sem, p1, p5, p6, p12, p13, p14, hlt']
        exact ⟨f, g, t, q.more q.bn (Nat.le_refl _)⟩
    clear p1 p5 p6 p12 p13 p14 a
    rintro a H ⟨rfl, hlt, p1, p5, p6, p12, p13, p14⟩
    refine wrun_mid' (fun a H' => ∃ f g t, PS H0 i1 j1 i2 j2 H' (k + 1) f g t ∧ a 1 = .int .i64 id ∧ a 5 = .pointer (some ⟨i1, 0, none⟩) ∧ a 6 = .pointer (some ⟨i2, 0, none⟩) ∧ a 14 = v ∧ a 15 = .int .i64 (cs.length : Nat) ∧ a 16 = .int .i64 (k : Nat)) (wrun_block ?_) ?_
    · iterate 3 (refine wrun_assoc ?_)
      refine wrun_mid (fun a H' => ∃ f g t c b x y, H'[c]? = some (.cells [.bool b, .int .i64 x, .int .i64 y] true false) ∧ PS H0 i1 j1 i2 j2 H' (k + 1) f g t ∧ a 1 = .int .i64 id ∧ a 5 = .pointer (some ⟨i1, 0, none⟩) ∧ a 6 = .pointer (some ⟨i2, 0, none⟩) ∧ a 8 = .pointer (some ⟨c, 0, none⟩) ∧ a 9 = .bool true ∧ a 14 = v ∧ a 15 = .int .i64 (cs.length : Nat) ∧ a 16 = .int .i64 (k : Nat)) ?_ ?_
      · obtain ⟨b, x, y, _, ad, g1, g2⟩ := (hv0.keep q.old).elem hlt
        have hbb := q.bb
        simp (maxSteps := 10000000) (disch := omega) only [wlC_nil, wlC_t, wlC_u, wlC_st, wlC_su, nextT_eq, nextU_eq, wlC_g, guardC_hit, guardC_tf, guardC_ft, guardC_u, pure_move, pure_assign, pure_pick, pure_bin, pure_un, pure_ext, pure_fa, pure_ia, pure_load, pure_store, pure_conv, pure_build, pure_call, pure_append, pure_len, Nat.reduceSub, condK_t, condK_f, guardK_tt, guardK_ff, guardK_tf, guardK_ft, guardQ_tt, guardQ_ff, guardQ_tf, guardQ_ft, Bool.true_beq, Bool.false_beq, go_sem, p1, p5, p6, p12, p13, p14, g1, g2]
        refine store_36 get_push_new hbb ?_
        intro H1 s1 s2 s3
        have s1' : H1.size = H.size + 1 := by rw [s1]; simp
        have k1 : ∀ q, q < H.size → H1[q]? = H[q]? := fun q hq => by rw [s2 q (by omega), get_push_old hq]
        have l1 := q.b1.lt
        have l2 := q.b2.lt
        have n1 := q.b1.n
        have m1 := q.b1.m
        have n2 := q.b2.n
        have m2 := q.b2.m
        have b11 := q.b1.keep (k1 _ l1.1) (k1 _ l1.2)
        have b21 := q.b2.keep (k1 _ l2.1) (k1 _ l2.2)
        have o1 : Old H0 H1 := q.old.step fun q hq => k1 q (by omega)
        have L0 := load_cell (P := Try.prog) (t := 4) s3 kind_4 (o := 0) (x := .bool b) rfl
        have L1 := load_cell (P := Try.prog) (t := 3) s3 kind_3 (o := 1) (x := .int .i64 x) rfl
        have L2 := load_cell (P := Try.prog) (t := 3) s3 kind_3 (o := 2) (x := .int .i64 y) rfl
        by_cases h200 : 200 ≤ k
        · have h200' := eq_true (show (200 : Int) ≤ k by omega)
          simp (maxSteps := 10000000) (disch := omega) only [wlC_nil, wlC_t, wlC_u, wlC_st, wlC_su, nextT_eq, nextU_eq, wlC_g, guardC_hit, guardC_tf, guardC_ft, guardC_u, pure_move, pure_assign, pure_pick, pure_bin, pure_un, pure_ext, pure_fa, pure_ia, pure_load, pure_store, pure_conv, pure_build, pure_call, pure_append, pure_len, Nat.reduceSub, condK_t, condK_f, guardK_tt, guardK_ff, guardK_tf, guardK_ft, guardQ_tt, guardQ_ff, guardQ_tf, guardQ_ft, Bool.true_beq, Bool.false_beq, go_sem, p1, p5, p6, p12, p13, p14, h200']
          have q2 := q.more (k := 200) q.bn (Nat.le_refl _)
          exact ⟨f, g, t, b11, b21, o1, by omega, q2.bf, q2.bt, q2.e, Nat.le_refl _⟩
        · have h200' := eq_false (show ¬ (200 : Int) ≤ k by omega)
          have bt := q.bt
          have e := q.e x
          have bx := q.bf x
          cases b with
          | true =>
            simp (maxSteps := 10000000) (disch := omega) only [wlC_nil, wlC_t, wlC_u, wlC_st, wlC_su, nextT_eq, nextU_eq, wlC_g, guardC_hit, guardC_tf, guardC_ft, guardC_u, pure_move, pure_assign, pure_pick, pure_bin, pure_un, pure_ext, pure_fa, pure_ia, pure_load, pure_store, pure_conv, pure_build, pure_call, pure_append, pure_len, Nat.reduceSub, condK_t, condK_f, guardK_tt, guardK_ff, guardK_tf, guardK_ft, guardQ_tt, guardQ_ff, guardQ_tf, guardQ_ft, Bool.true_beq, Bool.false_beq, go_sem, p1, p5, p6, p12, p13, p14, h200', Nat.zero_add, L0, L1, L2]
            refine draw_calm 3 [false, false, false, false, false, false, true, false, false, false] (fun K => K[H.size]? = some (.cells [.bool true, .int .i64 x, .int .i64 y] true false)) (by kernel_rfl) (show H0.size ≤ H1.size by omega) (fun h => by cases h) ?_
            simp (maxSteps := 10000000) (disch := omega) only [wlC_nil, wlC_t, wlC_u, wlC_st, wlC_su, nextT_eq, nextU_eq, wlC_g, guardC_hit, guardC_tf, guardC_ft, guardC_u, pure_move, pure_assign, pure_pick, pure_bin, pure_un, pure_ext, pure_fa, pure_ia, pure_load, pure_store, pure_conv, pure_build, pure_call, pure_append, pure_len, Nat.reduceSub, condK_t, condK_f, guardK_tt, guardK_ff, guardK_tf, guardK_ft, guardQ_tt, guardQ_ff, guardQ_tf, guardQ_ft, Bool.true_beq, Bool.false_beq, go_sem, p1, p5, p6, p12, p13, p14, L1, L2, Nat.zero_add]
            refine ⟨?_, s3⟩
            refine give_call b11 q.g1 q.h1 x (Nat.le_refl _) ?_
            intro H2 c1 c2 d1
            have s4 := (c2 H.size (by omega) (by omega)).trans s3
            simp (maxSteps := 10000000) (disch := omega) only [wlC_nil, wlC_t, wlC_u, wlC_st, wlC_su, nextT_eq, nextU_eq, wlC_g, guardC_hit, guardC_tf, guardC_ft, guardC_u, pure_move, pure_assign, pure_pick, pure_bin, pure_un, pure_ext, pure_fa, pure_ia, pure_load, pure_store, pure_conv, pure_build, pure_call, pure_append, pure_len, Nat.reduceSub, condK_t, condK_f, guardK_tt, guardK_ff, guardK_tf, guardK_ft, guardQ_tt, guardQ_ff, guardQ_tf, guardQ_ft, Bool.true_beq, Bool.false_beq, go_sem, p1, p5, p6, p12, p13, p14, Nat.zero_add]
            refine ⟨s4, ?_⟩
            unfold stillT
            refine ⟨by omega, .int .i64 x, fun _ => True, load_still (i := H.size) (o := 1) (by simp (maxSteps := 10000000) (disch := omega) only [wlC_nil, wlC_t, wlC_u, wlC_st, wlC_su, nextT_eq, nextU_eq, wlC_g, guardC_hit, guardC_tf, guardC_ft, guardC_u, pure_move, pure_assign, pure_pick, pure_bin, pure_un, pure_ext, pure_fa, pure_ia, pure_load, pure_store, pure_conv, pure_build, pure_call, pure_append, pure_len, Nat.reduceSub, condK_t, condK_f, guardK_tt, guardK_ff, guardK_tf, guardK_ft, guardQ_tt, guardQ_ff, guardQ_tf, guardQ_ft, Bool.true_beq, Bool.false_beq, go_sem, Nat.zero_add]) s4 kind_3 rfl, trivial, .inl (fun K hK => load_still (i := H.size) (o := 1) (by simp (maxSteps := 10000000) (disch := omega) only [wlC_nil, wlC_t, wlC_u, wlC_st, wlC_su, nextT_eq, nextU_eq, wlC_g, guardC_hit, guardC_tf, guardC_ft, guardC_u, pure_move, pure_assign, pure_pick, pure_bin, pure_un, pure_ext, pure_fa, pure_ia, pure_load, pure_store, pure_conv, pure_build, pure_call, pure_append, pure_len, Nat.reduceSub, condK_t, condK_f, guardK_tt, guardK_ff, guardK_tf, guardK_ft, guardQ_tt, guardQ_ff, guardQ_tf, guardQ_ft, Bool.true_beq, Bool.false_beq, go_sem, Nat.zero_add]) hK kind_3 rfl), ?_⟩
            have d2 := b21.keep (c2 _ (Ne.symm ap1) (Ne.symm ap3)) (c2 _ (Ne.symm ap2) (Ne.symm ap4))
            have o2 : Old H0 H2 := o1.step fun q hq => c2 q (by omega) (by omega)
            simp (maxSteps := 10000000) (disch := omega) only [wlC_nil, wlC_t, wlC_u, wlC_st, wlC_su, nextT_eq, nextU_eq, wlC_g, guardC_hit, guardC_tf, guardC_ft, guardC_u, pure_move, pure_assign, pure_pick, pure_bin, pure_un, pure_ext, pure_fa, pure_ia, pure_load, pure_store, pure_conv, pure_build, pure_call, pure_append, pure_len, Nat.reduceSub, condK_t, condK_f, guardK_tt, guardK_ff, guardK_tf, guardK_ft, guardQ_tt, guardQ_ff, guardQ_tf, guardQ_ft, Bool.true_beq, Bool.false_beq, go_sem, p1, p5, p6, p12, p13, p14, Nat.zero_add]
            refine refGive_call d2 q.g2 q.h1 x (Nat.le_refl _) ?_
            intro H3 c3 c4 d3
            have d4 := d1.keep (c4 _ ap1 ap2) (c4 _ ap3 ap4)
            have o3 : Old H0 H3 := o2.step fun q hq => c4 q (by omega) (by omega)
            have s5 := (c4 H.size (by omega) (by omega)).trans s4
            simp (maxSteps := 10000000) (disch := omega) only [wlC_nil, wlC_t, wlC_u, wlC_st, wlC_su, nextT_eq, nextU_eq, wlC_g, guardC_hit, guardC_tf, guardC_ft, guardC_u, pure_move, pure_assign, pure_pick, pure_bin, pure_un, pure_ext, pure_fa, pure_ia, pure_load, pure_store, pure_conv, pure_build, pure_call, pure_append, pure_len, Nat.reduceSub, condK_t, condK_f, guardK_tt, guardK_ff, guardK_tf, guardK_ft, guardQ_tt, guardQ_ff, guardQ_tf, guardQ_ft, Bool.true_beq, Bool.false_beq, go_sem, p1, p5, p6, p12, p13, p14, e]
            refine ⟨s5, ?_⟩
            rw [← e] at d3
            by_cases gx : f x = 0
            · rw [if_pos gx, if_pos gx] at d4 d3
              exact ⟨f, g, t, H.size, true, x, y, s5, ⟨d4, d3, o3, by omega, fun z => by have := q.bf z; omega, by omega, q.e, by omega⟩, rfl⟩
            · rw [if_neg gx, if_neg gx] at d4 d3
              exact ⟨_, _, _, H.size, true, x, y, s5, ⟨d4, d3, o3, by omega, fun z => by have := q.bf z; unfold updF; split <;> omega, by omega, fun z => by unfold updF; split <;> first | rfl | exact q.e z, by omega⟩, rfl⟩
          | false =>
            simp (maxSteps := 10000000) (disch := omega) only [wlC_nil, wlC_t, wlC_u, wlC_st, wlC_su, nextT_eq, nextU_eq, wlC_g, guardC_hit, guardC_tf, guardC_ft, guardC_u, pure_move, pure_assign, pure_pick, pure_bin, pure_un, pure_ext, pure_fa, pure_ia, pure_load, pure_store, pure_conv, pure_build, pure_call, pure_append, pure_len, Nat.reduceSub, condK_t, condK_f, guardK_tt, guardK_ff, guardK_tf, guardK_ft, guardQ_tt, guardQ_ff, guardQ_tf, guardQ_ft, Bool.true_beq, Bool.false_beq, go_sem, p1, p5, p6, p12, p13, p14, h200', Nat.zero_add, L0, L1, L2]
            refine draw_calm 5 [false, false, false, false, false, false, false, false, true, false, true, false, false, false] (fun K => K[H.size]? = some (.cells [.bool false, .int .i64 x, .int .i64 y] true false)) (by kernel_rfl) (show H0.size ≤ H1.size by omega) (fun h => by cases h) ?_
            simp (maxSteps := 10000000) (disch := omega) only [wlC_nil, wlC_t, wlC_u, wlC_st, wlC_su, nextT_eq, nextU_eq, wlC_g, guardC_hit, guardC_tf, guardC_ft, guardC_u, pure_move, pure_assign, pure_pick, pure_bin, pure_un, pure_ext, pure_fa, pure_ia, pure_load, pure_store, pure_conv, pure_build, pure_call, pure_append, pure_len, Nat.reduceSub, condK_t, condK_f, guardK_tt, guardK_ff, guardK_tf, guardK_ft, guardQ_tt, guardQ_ff, guardQ_tf, guardQ_ft, Bool.true_beq, Bool.false_beq, go_sem, p1, p5, p6, p12, p13, p14, L1, L2, Nat.zero_add]
            refine ⟨?_, s3⟩
            refine take_call b11 q.g1 q.h1 x y (Nat.le_refl _) ?_
            intro H2 c1 c2 d1
            have s4 := (c2 H.size (by omega) (by omega)).trans s3
            simp (maxSteps := 10000000) (disch := omega) only [wlC_nil, wlC_t, wlC_u, wlC_st, wlC_su, nextT_eq, nextU_eq, wlC_g, guardC_hit, guardC_tf, guardC_ft, guardC_u, pure_move, pure_assign, pure_pick, pure_bin, pure_un, pure_ext, pure_fa, pure_ia, pure_load, pure_store, pure_conv, pure_build, pure_call, pure_append, pure_len, Nat.reduceSub, condK_t, condK_f, guardK_tt, guardK_ff, guardK_tf, guardK_ft, guardQ_tt, guardQ_ff, guardQ_tf, guardQ_ft, Bool.true_beq, Bool.false_beq, go_sem, p1, p5, p6, p12, p13, p14, Nat.zero_add]
            refine ⟨s4, ?_⟩
            unfold stillT
            refine ⟨by omega, .int .i64 x, fun _ => True, load_still (i := H.size) (o := 1) (by simp (maxSteps := 10000000) (disch := omega) only [wlC_nil, wlC_t, wlC_u, wlC_st, wlC_su, nextT_eq, nextU_eq, wlC_g, guardC_hit, guardC_tf, guardC_ft, guardC_u, pure_move, pure_assign, pure_pick, pure_bin, pure_un, pure_ext, pure_fa, pure_ia, pure_load, pure_store, pure_conv, pure_build, pure_call, pure_append, pure_len, Nat.reduceSub, condK_t, condK_f, guardK_tt, guardK_ff, guardK_tf, guardK_ft, guardQ_tt, guardQ_ff, guardQ_tf, guardQ_ft, Bool.true_beq, Bool.false_beq, go_sem, Nat.zero_add]) s4 kind_3 rfl, trivial, .inl (fun K hK => load_still (i := H.size) (o := 1) (by simp (maxSteps := 10000000) (disch := omega) only [wlC_nil, wlC_t, wlC_u, wlC_st, wlC_su, nextT_eq, nextU_eq, wlC_g, guardC_hit, guardC_tf, guardC_ft, guardC_u, pure_move, pure_assign, pure_pick, pure_bin, pure_un, pure_ext, pure_fa, pure_ia, pure_load, pure_store, pure_conv, pure_build, pure_call, pure_append, pure_len, Nat.reduceSub, condK_t, condK_f, guardK_tt, guardK_ff, guardK_tf, guardK_ft, guardQ_tt, guardQ_ff, guardQ_tf, guardQ_ft, Bool.true_beq, Bool.false_beq, go_sem, Nat.zero_add]) hK kind_3 rfl), ?_⟩
            simp (maxSteps := 10000000) (disch := omega) only [wlC_nil, wlC_t, wlC_u, wlC_st, wlC_su, nextT_eq, nextU_eq, wlC_g, guardC_hit, guardC_tf, guardC_ft, guardC_u, pure_move, pure_assign, pure_pick, pure_bin, pure_un, pure_ext, pure_fa, pure_ia, pure_load, pure_store, pure_conv, pure_build, pure_call, pure_append, pure_len, Nat.reduceSub, condK_t, condK_f, guardK_tt, guardK_ff, guardK_tf, guardK_ft, guardQ_tt, guardQ_ff, guardQ_tf, guardQ_ft, Bool.true_beq, Bool.false_beq, go_sem, p1, p5, p6, p12, p13, p14, Nat.zero_add]
            unfold stillT
            refine ⟨by omega, .int .i64 y, fun _ => True, load_still (i := H.size) (o := 2) (by simp (maxSteps := 10000000) (disch := omega) only [wlC_nil, wlC_t, wlC_u, wlC_st, wlC_su, nextT_eq, nextU_eq, wlC_g, guardC_hit, guardC_tf, guardC_ft, guardC_u, pure_move, pure_assign, pure_pick, pure_bin, pure_un, pure_ext, pure_fa, pure_ia, pure_load, pure_store, pure_conv, pure_build, pure_call, pure_append, pure_len, Nat.reduceSub, condK_t, condK_f, guardK_tt, guardK_ff, guardK_tf, guardK_ft, guardQ_tt, guardQ_ff, guardQ_tf, guardQ_ft, Bool.true_beq, Bool.false_beq, go_sem, Nat.zero_add]) s4 kind_3 rfl, trivial, .inl (fun K hK => load_still (i := H.size) (o := 2) (by simp (maxSteps := 10000000) (disch := omega) only [wlC_nil, wlC_t, wlC_u, wlC_st, wlC_su, nextT_eq, nextU_eq, wlC_g, guardC_hit, guardC_tf, guardC_ft, guardC_u, pure_move, pure_assign, pure_pick, pure_bin, pure_un, pure_ext, pure_fa, pure_ia, pure_load, pure_store, pure_conv, pure_build, pure_call, pure_append, pure_len, Nat.reduceSub, condK_t, condK_f, guardK_tt, guardK_ff, guardK_tf, guardK_ft, guardQ_tt, guardQ_ff, guardQ_tf, guardQ_ft, Bool.true_beq, Bool.false_beq, go_sem, Nat.zero_add]) hK kind_3 rfl), ?_⟩
            have d2 := b21.keep (c2 _ (Ne.symm ap1) (Ne.symm ap3)) (c2 _ (Ne.symm ap2) (Ne.symm ap4))
            have o2 : Old H0 H2 := o1.step fun q hq => c2 q (by omega) (by omega)
            simp (maxSteps := 10000000) (disch := omega) only [wlC_nil, wlC_t, wlC_u, wlC_st, wlC_su, nextT_eq, nextU_eq, wlC_g, guardC_hit, guardC_tf, guardC_ft, guardC_u, pure_move, pure_assign, pure_pick, pure_bin, pure_un, pure_ext, pure_fa, pure_ia, pure_load, pure_store, pure_conv, pure_build, pure_call, pure_append, pure_len, Nat.reduceSub, condK_t, condK_f, guardK_tt, guardK_ff, guardK_tf, guardK_ft, guardQ_tt, guardQ_ff, guardQ_tf, guardQ_ft, Bool.true_beq, Bool.false_beq, go_sem, p1, p5, p6, p12, p13, p14, Nat.zero_add]
            refine refTake_call d2 q.g2 q.h1 x y (Nat.le_refl _) ?_
            intro H3 c3 c4 d3
            have d4 := d1.keep (c4 _ ap1 ap2) (c4 _ ap3 ap4)
            have o3 : Old H0 H3 := o2.step fun q hq => c4 q (by omega) (by omega)
            have s5 := (c4 H.size (by omega) (by omega)).trans s4
            simp (maxSteps := 10000000) (disch := omega) only [wlC_nil, wlC_t, wlC_u, wlC_st, wlC_su, nextT_eq, nextU_eq, wlC_g, guardC_hit, guardC_tf, guardC_ft, guardC_u, pure_move, pure_assign, pure_pick, pure_bin, pure_un, pure_ext, pure_fa, pure_ia, pure_load, pure_store, pure_conv, pure_build, pure_call, pure_append, pure_len, Nat.reduceSub, condK_t, condK_f, guardK_tt, guardK_ff, guardK_tf, guardK_ft, guardQ_tt, guardQ_ff, guardQ_tf, guardQ_ft, Bool.true_beq, Bool.false_beq, go_sem, p1, p5, p6, p12, p13, p14, e]
            refine ⟨s5, ?_⟩
            rw [← e] at d3
            by_cases gx : f x < y
            · rw [if_pos gx, if_pos gx] at d4 d3
              exact ⟨_, _, _, H.size, false, x, y, s5, ⟨d4, d3, o3, by omega, fun z => by have := q.bf z; unfold updF; split <;> omega, by omega, fun z => by unfold updF; split <;> first | rfl | exact q.e z, by omega⟩, rfl⟩
            · rw [if_neg gx, if_neg gx] at d4 d3
              exact ⟨f, g, t, H.size, false, x, y, s5, ⟨d4, d3, o3, by omega, fun z => by have := q.bf z; omega, by omega, q.e, by omega⟩, rfl⟩
      · clear p1 p5 p6 p12 p13 p14 q
        rintro a H ⟨f, g, t, c, b, x, y, s, q, p1, p5, p6, p8, p9, p12, p13, p14⟩
        have hb := q.bb
        have L1 := load_cell (P := Try.prog) (t := 3) s kind_3 (o := 1) (x := .int .i64 x) rfl
        have M0 := load_cell (P := Try.prog) (t := 40) q.b2.blk kind_40 (o := 0) (x := .map (some j2)) rfl
        have M1 := load_cell (P := Try.prog) (t := 3) q.b2.blk kind_3 (o := 1) (x := .int .i64 t) rfl
        refine wrun_of ?_
        simp (maxSteps := 10000000) (disch := omega) only [wlC_nil, wlC_t, wlC_u, wlC_st, wlC_su, nextT_eq, nextU_eq, wlC_g, guardC_hit, guardC_tf, guardC_ft, guardC_u, pure_move, pure_assign, pure_pick, pure_bin, pure_un, pure_ext, pure_fa, pure_ia, pure_load, pure_store, pure_conv, pure_build, pure_call, pure_append, pure_len, Nat.reduceSub, condK_t, condK_f, guardK_tt, guardK_ff, guardK_tf, guardK_ft, guardQ_tt, guardQ_ff, guardQ_tf, guardQ_ft, Bool.true_beq, Bool.false_beq, go_sem, p1, p5, p6, p8, p9, p12, p13, p14, L1, Nat.zero_add]
        refine draw_of 23 (by kernel_rfl) ?_
        simp (maxSteps := 10000000) (disch := omega) only [wlC_nil, wlC_t, wlC_u, wlC_st, wlC_su, nextT_eq, nextU_eq, wlC_g, guardC_hit, guardC_tf, guardC_ft, guardC_u, pure_move, pure_assign, pure_pick, pure_bin, pure_un, pure_ext, pure_fa, pure_ia, pure_load, pure_store, pure_conv, pure_build, pure_call, pure_append, pure_len, Nat.reduceSub, condK_t, condK_f, guardK_tt, guardK_ff, guardK_tf, guardK_ft, guardQ_tt, guardQ_ff, guardQ_tf, guardQ_ft, Bool.true_beq, Bool.false_beq, go_sem, p1, p5, p6, p8, p9, p12, p13, p14, L1, Nat.zero_add]
        refine (has_fun q.b1 x).call (Nat.le_refl _) ?_
        rintro _ H2 c1 c2 ⟨rfl, rfl⟩
        simp (maxSteps := 10000000) (disch := omega) only [wlC_nil, wlC_t, wlC_u, wlC_st, wlC_su, nextT_eq, nextU_eq, wlC_g, guardC_hit, guardC_tf, guardC_ft, guardC_u, pure_move, pure_assign, pure_pick, pure_bin, pure_un, pure_ext, pure_fa, pure_ia, pure_load, pure_store, pure_conv, pure_build, pure_call, pure_append, pure_len, Nat.reduceSub, condK_t, condK_f, guardK_tt, guardK_ff, guardK_tf, guardK_ft, guardQ_tt, guardQ_ff, guardQ_tf, guardQ_ft, Bool.true_beq, Bool.false_beq, go_sem, p1, p5, p6, p8, p9, p12, p13, p14, L1, M0, M1, q.b2.map.getE, q.e x, Nat.zero_add]
        refine (total_fun q.b1).call (Nat.le_refl _) ?_
        rintro _ H2 c1 c2 ⟨rfl, rfl⟩
        simp (maxSteps := 10000000) (disch := omega) only [wlC_nil, wlC_t, wlC_u, wlC_st, wlC_su, nextT_eq, nextU_eq, wlC_g, guardC_hit, guardC_tf, guardC_ft, guardC_u, pure_move, pure_assign, pure_pick, pure_bin, pure_un, pure_ext, pure_fa, pure_ia, pure_load, pure_store, pure_conv, pure_build, pure_call, pure_append, pure_len, Nat.reduceSub, condK_t, condK_f, guardK_tt, guardK_ff, guardK_tf, guardK_ft, guardQ_tt, guardQ_ff, guardQ_tf, guardQ_ft, Bool.true_beq, Bool.false_beq, go_sem, p1, p5, p6, p8, p9, p12, p13, p14, L1, M0, M1, Nat.zero_add]
        exact ⟨f, g, t, q⟩
    · clear p1 p5 p6 p12 p13 p14 q
      rintro a H ⟨f, g, t, q, p1, p5, p6, p12, p13, p14⟩
      refine wrun_of ?_
      have := q.bn
      simp (maxSteps := 10000000) (disch := omega) only [wlC_nil, wlC_t, wlC_u, wlC_st, wlC_su, nextT_eq, nextU_eq, wlC_g, guardC_hit, guardC_tf, guardC_ft, guardC_u, pure_move, pure_assign, pure_pick, pure_bin, pure_un, pure_ext, pure_fa, pure_ia, pure_load, pure_store, pure_conv, pure_build, pure_call, pure_append, pure_len, Nat.reduceSub, condK_t, condK_f, guardK_tt, guardK_ff, guardK_tf, guardK_ft, guardQ_tt, guardQ_ff, guardQ_tf, guardQ_ft, Bool.true_beq, Bool.false_beq, go_sem, p1, p5, p6, p12, p13, p14, wrap_i64]
      exact ⟨m - 1, by omega, k + 1, f, g, t, by omega, by simp, q⟩
  · clear p0 p1 p5 p6 q
    rintro a H ⟨f, g, t, p1, p5, p6, q⟩
    have hb := q.bb
    have M0 := load_cell (P := Try.prog) (t := 40) q.b2.blk kind_40 (o := 0) (x := .map (some j2)) rfl
    refine wrun_of ?_
    simp (maxSteps := 10000000) (disch := omega) only [wlC_nil, wlC_t, wlC_u, wlC_st, wlC_su, nextT_eq, nextU_eq, wlC_g, guardC_hit, guardC_tf, guardC_ft, guardC_u, pure_move, pure_assign, pure_pick, pure_bin, pure_un, pure_ext, pure_fa, pure_ia, pure_load, pure_store, pure_conv, pure_build, pure_call, pure_append, pure_len, Nat.reduceSub, condK_t, condK_f, guardK_tt, guardK_ff, guardK_tf, guardK_ft, guardQ_tt, guardQ_ff, guardQ_tf, guardQ_ft, Bool.true_beq, Bool.false_beq, go_sem, p1, p5, p6]
    refine draw_of 9 (by kernel_rfl) ?_
    simp (maxSteps := 10000000) (disch := omega) only [wlC_nil, wlC_t, wlC_u, wlC_st, wlC_su, nextT_eq, nextU_eq, wlC_g, guardC_hit, guardC_tf, guardC_ft, guardC_u, pure_move, pure_assign, pure_pick, pure_bin, pure_un, pure_ext, pure_fa, pure_ia, pure_load, pure_store, pure_conv, pure_build, pure_call, pure_append, pure_len, Nat.reduceSub, condK_t, condK_f, guardK_tt, guardK_ff, guardK_tf, guardK_ft, guardQ_tt, guardQ_ff, guardQ_tf, guardQ_ft, Bool.true_beq, Bool.false_beq, go_sem, p1, p5, p6]
    refine (has_fun q.b1 id).call (Nat.le_refl _) ?_
    rintro _ H2 c1 c2 ⟨rfl, rfl⟩
    simp (maxSteps := 10000000) (disch := omega) only [wlC_nil, wlC_t, wlC_u, wlC_st, wlC_su, nextT_eq, nextU_eq, wlC_g, guardC_hit, guardC_tf, guardC_ft, guardC_u, pure_move, pure_assign, pure_pick, pure_bin, pure_un, pure_ext, pure_fa, pure_ia, pure_load, pure_store, pure_conv, pure_build, pure_call, pure_append, pure_len, Nat.reduceSub, condK_t, condK_f, guardK_tt, guardK_ff, guardK_tf, guardK_ft, guardQ_tt, guardQ_ff, guardQ_tf, guardQ_ft, Bool.true_beq, Bool.false_beq, go_sem, p1, p5, p6, M0, q.b2.map.getE, q.e id]
    refine (awake17_fun _).call hb ?_
    rintro _ H7 c11 c12 rfl
    simp (maxSteps := 10000000) (disch := omega) only [wlC_nil, wlC_t, wlC_u, wlC_st, wlC_su, nextT_eq, nextU_eq, wlC_g, guardC_hit, guardC_tf, guardC_ft, guardC_u, pure_move, pure_assign, pure_pick, pure_bin, pure_un, pure_ext, pure_fa, pure_ia, pure_load, pure_store, pure_conv, pure_build, pure_call, pure_append, pure_len, Nat.reduceSub, condK_t, condK_f, guardK_tt, guardK_ff, guardK_tf, guardK_ft, guardQ_tt, guardQ_ff, guardQ_tf, guardQ_ft, Bool.true_beq, Bool.false_beq, go_sem]
end Go.Proofs.Ytcapjjmikapmfaa.M
