/- QuotaApart. -/
import Derived.Test.YtcapjjmikapmfaaQc
import Derived.Test.YtcapjjmikapmfaaMs
set_option linter.unusedVariables false
set_option linter.unusedSimpArgs false
namespace Go.Proofs.Ytcapjjmikapmfaa.M
open Go Go.Proofs

structure AS (H0 : Heap) (i1 j1 i2 j2 : Nat) (id : Int) (H : Heap) (mo : Int) (n : Nat) (f1 : Int → Int) (t1 : Int) (f2 : Int → Int) (t2 : Int) : Prop where
  b1 : BookAt H H0.size i1 j1 f1 t1
  b2 : BookAt H H0.size i2 j2 f2 t2
  old : Old H0 H
  bb : H0.size ≤ H.size
  bf1 : ∀ q, 0 ≤ f1 q ∧ f1 q ≤ n
  bt1 : -n ≤ t1 ∧ t1 ≤ n
  bf2 : ∀ q, 0 ≤ f2 q ∧ f2 q ≤ n
  bt2 : -n ≤ t2 ∧ t2 ≤ n
  e : f1 id = f2 id
  m : f1 id ≤ mo
  s : t2 = f2 id
  bn : n ≤ 200
section
variable {H0 H : Heap} {i1 j1 i2 j2 : Nat} {id mo : Int} {n : Nat} {f1 f2 : Int → Int} {t1 t2 : Int} (q : AS H0 i1 j1 i2 j2 id H mo n f1 t1 f2 t2)
include q
theorem AS.g1 : ∀ x, 0 ≤ f1 x ∧ f1 x ≤ 1000 := fun x => by have := q.bf1 x; have := q.bn; omega
theorem AS.g2 : ∀ x, 0 ≤ f2 x ∧ f2 x ≤ 1000 := fun x => by have := q.bf2 x; have := q.bn; omega
theorem AS.h1 : -1000 ≤ t1 ∧ t1 ≤ 1000 := by have := q.bt1; have := q.bn; omega
theorem AS.h2 : -1000 ≤ t2 ∧ t2 ≤ 1000 := by have := q.bt2; have := q.bn; omega
theorem AS.more {k : Nat} (h : n ≤ k) (hk : k ≤ 200) : AS H0 i1 j1 i2 j2 id H mo k f1 t1 f2 t2 :=
  ⟨q.b1, q.b2, q.old, q.bb, fun x => by have := q.bf1 x; omega, by have := q.bt1; omega, fun x => by have := q.bf2 x; omega, by have := q.bt2; omega, q.e, q.m, q.s, hk⟩
end
def apart (i1 j1 i2 j2 : Nat) : Prop := i1 ≠ i2 ∧ i1 ≠ j2 ∧ j1 ≠ i2 ∧ j1 ≠ j2

set_option maxRecDepth 20000 in
set_option maxHeartbeats 4000000 in
theorem quotaApart_fun {H0 : Heap} {v : Value} {cs : List CallT} (hv0 : CallsAt H0 v cs) (id : Int) : Fun Try.prog 7 [v, .int .i64 id] H0 (fun r _ => r = .bool true) := by
  refine fun_of_r Try.func7 rfl (by decide +kernel) (Nat.le_of_ble_eq_true rfl) ?_
  unfold Try.f7
  iterate 2 (refine wrun_assoc ?_)
  refine wrun_mid (fun a H => ∃ i1 j1 i2 j2, apart i1 j1 i2 j2 ∧ a 0 = v ∧ a 1 = .int .i64 id ∧ a 5 = .pointer (some ⟨i1, 0, none⟩) ∧ a 6 = .pointer (some ⟨i2, 0, none⟩) ∧ a 7 = .int .i64 0 ∧ AS H0 i1 j1 i2 j2 id H 0 0 (fun _ => 0) 0 (fun _ => 0) 0) ?_ ?_
  · simp (maxSteps := 10000000) (disch := omega) only [wlC_nil, wlC_t, wlC_u, wlC_st, wlC_su, nextT_eq, nextU_eq, wlC_g, guardC_hit, guardC_tf, guardC_ft, guardC_u, pure_move, pure_assign, pure_pick, pure_bin, pure_un, pure_ext, pure_fa, pure_ia, pure_load, pure_store, pure_conv, pure_build, pure_call, pure_append, pure_len, Nat.reduceSub, go_sem]
    refine (bookNew_fun _).call (Nat.le_refl _) ?_
    rintro _ H1 a1 a2 ⟨i1, j1, rfl, b1⟩
    simp (maxSteps := 10000000) (disch := omega) only [wlC_nil, wlC_t, wlC_u, wlC_st, wlC_su, nextT_eq, nextU_eq, wlC_g, guardC_hit, guardC_tf, guardC_ft, guardC_u, pure_move, pure_assign, pure_pick, pure_bin, pure_un, pure_ext, pure_fa, pure_ia, pure_load, pure_store, pure_conv, pure_build, pure_call, pure_append, pure_len, Nat.reduceSub, go_sem]
    refine (bookNew_fun _).call (show H0.size ≤ H1.size by omega) ?_
    rintro _ H2 a3 a4 ⟨i2, j2, rfl, b2⟩
    have l1 := b1.lt
    have n2 := b2.n
    have m2 := b2.m
    simp (maxSteps := 10000000) (disch := omega) only [wlC_nil, wlC_t, wlC_u, wlC_st, wlC_su, nextT_eq, nextU_eq, wlC_g, guardC_hit, guardC_tf, guardC_ft, guardC_u, pure_move, pure_assign, pure_pick, pure_bin, pure_un, pure_ext, pure_fa, pure_ia, pure_load, pure_store, pure_conv, pure_build, pure_call, pure_append, pure_len, Nat.reduceSub, go_sem]
    exact ⟨i1, j1, i2, j2, ⟨by omega, by omega, by omega, by omega⟩, rfl, rfl, b1.keep (a4 _ l1.1) (a4 _ l1.2), b2.le (by omega), fun q hq => by rw [a4 q (by omega), a2 q hq], by omega, fun _ => ⟨Int.le_refl _, Int.le_refl _⟩, ⟨by omega, by omega⟩, fun _ => ⟨Int.le_refl _, Int.le_refl _⟩, ⟨by omega, by omega⟩, rfl, Int.le_refl _, rfl, by omega⟩
  rintro a H ⟨i1, j1, i2, j2, ap, p0, p1, p5, p6, p7, q⟩
  obtain ⟨ap1, ap2, ap3, ap4⟩ := ap
  refine wrun_mid' (fun a H => ∃ mo f1 t1 f2 t2, a 1 = .int .i64 id ∧ a 5 = .pointer (some ⟨i1, 0, none⟩) ∧ a 6 = .pointer (some ⟨i2, 0, none⟩) ∧ a 7 = .int .i64 mo ∧ AS H0 i1 j1 i2 j2 id H mo 200 f1 t1 f2 t2) ?_ ?_
  · refine wrun_mid (fun a H' => H' = H ∧ a 1 = .int .i64 id ∧ a 5 = .pointer (some ⟨i1, 0, none⟩) ∧ a 6 = .pointer (some ⟨i2, 0, none⟩) ∧ a 7 = .int .i64 0 ∧ a 12 = v ∧ a 13 = .int .i64 (cs.length : Nat) ∧ a 14 = .int .i64 (0 : Nat)) (by simp (maxSteps := 10000000) (disch := omega) only [wlC_nil, wlC_t, wlC_u, wlC_st, wlC_su, nextT_eq, nextU_eq, wlC_g, guardC_hit, guardC_tf, guardC_ft, guardC_u, pure_move, pure_assign, pure_pick, pure_bin, pure_un, pure_ext, pure_fa, pure_ia, pure_load, pure_store, pure_conv, pure_build, pure_call, pure_append, pure_len, Nat.reduceSub, go_sem, p0, p1, p5, p6, p7, hv0.len]) ?_
    clear p0 p1 p5 p6 p7 a
    rintro a H ⟨rfl, p1, p5, p6, p7, p12, p13, p14⟩
    refine wrun_block (wrun_loop (fun m a H' => ∃ (k : Nat) (mo : Int) (f1 : Int → Int) (t1 : Int) (f2 : Int → Int) (t2 : Int), k + m = cs.length ∧ a 1 = .int .i64 id ∧ a 5 = .pointer (some ⟨i1, 0, none⟩) ∧ a 6 = .pointer (some ⟨i2, 0, none⟩) ∧ a 7 = .int .i64 mo ∧ a 12 = v ∧ a 13 = .int .i64 (cs.length : Nat) ∧ a 14 = .int .i64 (k : Nat) ∧ AS H0 i1 j1 i2 j2 id H' mo k f1 t1 f2 t2) ?_ cs.length ⟨0, _, _, _, _, _, by omega, p1, p5, p6, p7, p12, p13, p14, q⟩)
    clear p1 p5 p6 p7 p12 p13 p14 q
    rintro m a H ⟨k, mo, f1, t1, f2, t2, hk, p1, p5, p6, p7, p12, p13, p14, q⟩
    iterate 1 (refine wrun_assoc ?_)
    refine wrun_mid (fun a H' => H' = H ∧ k < cs.length ∧ a 1 = .int .i64 id ∧ a 5 = .pointer (some ⟨i1, 0, none⟩) ∧ a 6 = .pointer (some ⟨i2, 0, none⟩) ∧ a 7 = .int .i64 mo ∧ a 12 = v ∧ a 13 = .int .i64 (cs.length : Nat) ∧ a 14 = .int .i64 (k : Nat)) ?_ ?_
    · by_cases hlt : k < cs.length
      · have hlt' := eq_true (show (k : Int) < (cs.length : Nat) by omega)
        simp (maxSteps := 10000000) (disch := omega) only [wlC_nil, wlC_t, wlC_u, wlC_st, wlC_su, nextT_eq, nextU_eq, wlC_g, guardC_hit, guardC_tf, guardC_ft, guardC_u, pure_move, pure_assign, pure_pick, pure_bin, pure_un, pure_ext, pure_fa, pure_ia, pure_load, pure_store, pure_conv, pure_build, pure_call, pure_append, pure_len, Nat.reduceSub, go_sem, p1, p5, p6, p7, p12, p13, p14, hlt']
        exact hlt
      · have hlt' := eq_false (show ¬ (k : Int) < (cs.length : Nat) by omega)
        simp (maxSteps := 10000000) (disch := omega) only [wlC_nil, wlC_t, wlC_u, wlC_st, wlC_su, nextT_eq, nextU_eq, wlC_g, guardC_hit, guardC_tf, guardC_ft, guardC_u, pure_move, pure_assign, pure_pick, pure_bin, pure_un, pure_ext, pure_fa, pure_ia, pure_load, pure_store, pure_conv, pure_build, pure_call, pure_append, pure_len, Nat.reduceSub, go_sem, p1, p5, p6, p7, p12, p13, p14, hlt']
        exact ⟨mo, f1, t1, f2, t2, rfl, q.more q.bn (Nat.le_refl _)⟩
    clear p1 p5 p6 p7 p12 p13 p14 a
    rintro a H ⟨rfl, hlt, p1, p5, p6, p7, p12, p13, p14⟩
    refine wrun_mid' (fun a H' => ∃ mo f1 t1 f2 t2, AS H0 i1 j1 i2 j2 id H' mo (k + 1) f1 t1 f2 t2 ∧ a 1 = .int .i64 id ∧ a 5 = .pointer (some ⟨i1, 0, none⟩) ∧ a 6 = .pointer (some ⟨i2, 0, none⟩) ∧ a 7 = .int .i64 mo ∧ a 12 = v ∧ a 13 = .int .i64 (cs.length : Nat) ∧ a 14 = .int .i64 (k : Nat)) (wrun_block (wrun_of ?_)) ?_
    · obtain ⟨b, x, y, _, ad, g1, g2⟩ := (hv0.keep q.old).elem hlt
      have hbb := q.bb
      simp (maxSteps := 10000000) (disch := omega) only [wlC_nil, wlC_t, wlC_u, wlC_st, wlC_su, nextT_eq, nextU_eq, wlC_g, guardC_hit, guardC_tf, guardC_ft, guardC_u, pure_move, pure_assign, pure_pick, pure_bin, pure_un, pure_ext, pure_fa, pure_ia, pure_load, pure_store, pure_conv, pure_build, pure_call, pure_append, pure_len, Nat.reduceSub, go_sem, p1, p5, p6, p7, p12, p13, p14, g1, g2]
      refine store_36 get_push_new hbb ?_
      intro H1 s1 s2 s3
      have s1' : H1.size = H.size + 1 := by rw [s1]; simp
      have k1 : ∀ q, q < H.size → H1[q]? = H[q]? := fun q hq => by rw [s2 q (by omega), get_push_old hq]
      have l1 := q.b1.lt
      have l2 := q.b2.lt
      have n1 := q.b1.n
      have m1 := q.b1.m
      have n2 := q.b2.n
      have m2 := q.b2.m
      have b11 := q.b1.keep (k1 _ l1.1) (k1 _ l1.2)
      have b21 := q.b2.keep (k1 _ l2.1) (k1 _ l2.2)
      have o1 : Old H0 H1 := q.old.step fun q hq => k1 q (by omega)
      have L0 := load_cell (P := Try.prog) (t := 4) s3 kind_4 (o := 0) (x := .bool b) rfl
      have L1 := load_cell (P := Try.prog) (t := 3) s3 kind_3 (o := 1) (x := .int .i64 x) rfl
      have L2 := load_cell (P := Try.prog) (t := 3) s3 kind_3 (o := 2) (x := .int .i64 y) rfl
      by_cases h200 : 200 ≤ k
      · have h200' := eq_true (show (200 : Int) ≤ k by omega)
        simp (maxSteps := 10000000) (disch := omega) only [wlC_nil, wlC_t, wlC_u, wlC_st, wlC_su, nextT_eq, nextU_eq, wlC_g, guardC_hit, guardC_tf, guardC_ft, guardC_u, pure_move, pure_assign, pure_pick, pure_bin, pure_un, pure_ext, pure_fa, pure_ia, pure_load, pure_store, pure_conv, pure_build, pure_call, pure_append, pure_len, Nat.reduceSub, go_sem, p1, p5, p6, p7, p12, p13, p14, h200']
        have q2 := q.more (k := 200) q.bn (Nat.le_refl _)
        exact ⟨mo, f1, t1, f2, t2, rfl, b11, b21, o1, by omega, q2.bf1, q2.bt1, q2.bf2, q2.bt2, q2.e, q2.m, q2.s, Nat.le_refl _⟩
      · have h200' := eq_false (show ¬ (200 : Int) ≤ k by omega)
        have bt1 := q.bt1
        have bt2 := q.bt2
        have e := q.e
        have em := q.m
        have es := q.s
        by_cases hx : x = id
        · subst hx
          have bx := q.bf1 x
          have by_ := q.bf2 x
          cases b with
          | true =>
            simp (maxSteps := 10000000) (disch := omega) only [wlC_nil, wlC_t, wlC_u, wlC_st, wlC_su, nextT_eq, nextU_eq, wlC_g, guardC_hit, guardC_tf, guardC_ft, guardC_u, pure_move, pure_assign, pure_pick, pure_bin, pure_un, pure_ext, pure_fa, pure_ia, pure_load, pure_store, pure_conv, pure_build, pure_call, pure_append, pure_len, Nat.reduceSub, go_sem, p1, p5, p6, p7, p12, p13, p14, h200', Nat.zero_add, L0, L1, L2, decide_true]
            refine give_call b11 q.g1 q.h1 x (Nat.le_refl _) ?_
            intro H2 c1 c2 d1
            simp (maxSteps := 10000000) (disch := omega) only [wlC_nil, wlC_t, wlC_u, wlC_st, wlC_su, nextT_eq, nextU_eq, wlC_g, guardC_hit, guardC_tf, guardC_ft, guardC_u, pure_move, pure_assign, pure_pick, pure_bin, pure_un, pure_ext, pure_fa, pure_ia, pure_load, pure_store, pure_conv, pure_build, pure_call, pure_append, pure_len, Nat.reduceSub, go_sem, p1, p5, p6, p7, p12, p13, p14]
            have d2 := b21.keep (c2 _ (Ne.symm ap1) (Ne.symm ap3)) (c2 _ (Ne.symm ap2) (Ne.symm ap4))
            have o2 : Old H0 H2 := o1.step fun q hq => c2 q (by omega) (by omega)
            refine give_call d2 q.g2 q.h2 x (Nat.le_refl _) ?_
            intro H3 c3 c4 d3
            have d4 := d1.keep (c4 _ ap1 ap2) (c4 _ ap3 ap4)
            have o3 : Old H0 H3 := o2.step fun q hq => c4 q (by omega) (by omega)
            simp (maxSteps := 10000000) (disch := omega) only [wlC_nil, wlC_t, wlC_u, wlC_st, wlC_su, nextT_eq, nextU_eq, wlC_g, guardC_hit, guardC_tf, guardC_ft, guardC_u, pure_move, pure_assign, pure_pick, pure_bin, pure_un, pure_ext, pure_fa, pure_ia, pure_load, pure_store, pure_conv, pure_build, pure_call, pure_append, pure_len, Nat.reduceSub, go_sem, p1, p5, p6, p7, p12, p13, p14, e]
            rw [← e] at d3
            by_cases g : f1 x = 0
            · rw [if_pos g, if_pos g] at d4 d3
              exact ⟨mo, f1, t1, f2, t2, ⟨d4, d3, o3, by omega, fun z => by have := q.bf1 z; omega, by omega, fun z => by have := q.bf2 z; omega, by omega, e, em, es, by omega⟩, rfl⟩
            · rw [if_neg g, if_neg g] at d4 d3
              exact ⟨mo, _, _, _, _, ⟨d4, d3, o3, by omega, fun z => by have := q.bf1 z; unfold updF; split <;> omega, by omega, fun z => by have := q.bf2 z; unfold updF; split <;> omega, by omega, by simp [updF], by simp [updF]; omega, by simp [updF]; omega, by omega⟩, rfl⟩
          | false =>
            simp (maxSteps := 10000000) (disch := omega) only [wlC_nil, wlC_t, wlC_u, wlC_st, wlC_su, nextT_eq, nextU_eq, wlC_g, guardC_hit, guardC_tf, guardC_ft, guardC_u, pure_move, pure_assign, pure_pick, pure_bin, pure_un, pure_ext, pure_fa, pure_ia, pure_load, pure_store, pure_conv, pure_build, pure_call, pure_append, pure_len, Nat.reduceSub, go_sem, p1, p5, p6, p7, p12, p13, p14, h200', Nat.zero_add, L0, L1, L2, decide_true]
            refine draw_calm 4 [false, false, false, false, false, false, false, false, true, false, false] (fun K => K[H.size]? = some (.cells [.bool false, .int .i64 x, .int .i64 y] true false)) (by kernel_rfl) (show H0.size ≤ H1.size by omega) (fun h => by cases h) ?_
            simp (maxSteps := 10000000) (disch := omega) only [wlC_nil, wlC_t, wlC_u, wlC_st, wlC_su, nextT_eq, nextU_eq, wlC_g, guardC_hit, guardC_tf, guardC_ft, guardC_u, pure_move, pure_assign, pure_pick, pure_bin, pure_un, pure_ext, pure_fa, pure_ia, pure_load, pure_store, pure_conv, pure_build, pure_call, pure_append, pure_len, Nat.reduceSub, go_sem, p1, p5, p6, p7, p12, p13, p14, L2, Nat.zero_add]
            refine ⟨?_, s3⟩
            refine take_call b11 q.g1 q.h1 x y (Nat.le_refl _) ?_
            intro H2 c1 c2 d1
            have s4 := (c2 H.size (by omega) (by omega)).trans s3
            have L3 := load_cell (P := Try.prog) (t := 3) s4 kind_3 (o := 2) (x := .int .i64 y) rfl
            simp (maxSteps := 10000000) (disch := omega) only [wlC_nil, wlC_t, wlC_u, wlC_st, wlC_su, nextT_eq, nextU_eq, wlC_g, guardC_hit, guardC_tf, guardC_ft, guardC_u, pure_move, pure_assign, pure_pick, pure_bin, pure_un, pure_ext, pure_fa, pure_ia, pure_load, pure_store, pure_conv, pure_build, pure_call, pure_append, pure_len, Nat.reduceSub, go_sem, p1, p5, p6, p7, p12, p13, p14, Nat.zero_add]
            refine ⟨s4, ?_⟩
            unfold stillT
            refine ⟨by omega, .int .i64 y, fun _ => True, load_still (i := H.size) (o := 2) (by simp (maxSteps := 10000000) (disch := omega) only [wlC_nil, wlC_t, wlC_u, wlC_st, wlC_su, nextT_eq, nextU_eq, wlC_g, guardC_hit, guardC_tf, guardC_ft, guardC_u, pure_move, pure_assign, pure_pick, pure_bin, pure_un, pure_ext, pure_fa, pure_ia, pure_load, pure_store, pure_conv, pure_build, pure_call, pure_append, pure_len, Nat.reduceSub, go_sem, Nat.zero_add]) s4 kind_3 rfl, trivial, .inl (fun K hK => load_still (i := H.size) (o := 2) (by simp (maxSteps := 10000000) (disch := omega) only [wlC_nil, wlC_t, wlC_u, wlC_st, wlC_su, nextT_eq, nextU_eq, wlC_g, guardC_hit, guardC_tf, guardC_ft, guardC_u, pure_move, pure_assign, pure_pick, pure_bin, pure_un, pure_ext, pure_fa, pure_ia, pure_load, pure_store, pure_conv, pure_build, pure_call, pure_append, pure_len, Nat.reduceSub, go_sem, Nat.zero_add]) hK kind_3 rfl), ?_⟩
            have d2 := b21.keep (c2 _ (Ne.symm ap1) (Ne.symm ap3)) (c2 _ (Ne.symm ap2) (Ne.symm ap4))
            have o2 : Old H0 H2 := o1.step fun q hq => c2 q (by omega) (by omega)
            simp (maxSteps := 10000000) (disch := omega) only [wlC_nil, wlC_t, wlC_u, wlC_st, wlC_su, nextT_eq, nextU_eq, wlC_g, guardC_hit, guardC_tf, guardC_ft, guardC_u, pure_move, pure_assign, pure_pick, pure_bin, pure_un, pure_ext, pure_fa, pure_ia, pure_load, pure_store, pure_conv, pure_build, pure_call, pure_append, pure_len, Nat.reduceSub, go_sem, p1, p5, p6, p7, p12, p13, p14, Nat.zero_add]
            refine take_call d2 q.g2 q.h2 x y (Nat.le_refl _) ?_
            intro H3 c3 c4 d3
            have d4 := d1.keep (c4 _ ap1 ap2) (c4 _ ap3 ap4)
            have o3 : Old H0 H3 := o2.step fun q hq => c4 q (by omega) (by omega)
            have s5 := (c4 H.size (by omega) (by omega)).trans s4
            simp (maxSteps := 10000000) (disch := omega) only [wlC_nil, wlC_t, wlC_u, wlC_st, wlC_su, nextT_eq, nextU_eq, wlC_g, guardC_hit, guardC_tf, guardC_ft, guardC_u, pure_move, pure_assign, pure_pick, pure_bin, pure_un, pure_ext, pure_fa, pure_ia, pure_load, pure_store, pure_conv, pure_build, pure_call, pure_append, pure_len, Nat.reduceSub, go_sem, p1, p5, p6, p7, p12, p13, p14, e]
            refine ⟨s5, ?_⟩
            rw [← e] at d3
            by_cases g : f1 x < y
            · rw [if_pos g, if_pos g] at d4 d3
              exact ⟨if y > mo then y else mo, _, _, _, _, ⟨d4, d3, o3, by omega, fun z => by have := q.bf1 z; unfold updF; split <;> omega, by omega, fun z => by have := q.bf2 z; unfold updF; split <;> omega, by omega, by simp [updF], by simp [updF]; split <;> omega, by simp [updF]; omega, by omega⟩, rfl⟩
            · rw [if_neg g, if_neg g] at d4 d3
              exact ⟨if y > mo then y else mo, f1, t1, f2, t2, ⟨d4, d3, o3, by omega, fun z => by have := q.bf1 z; omega, by omega, fun z => by have := q.bf2 z; omega, by omega, e, by split <;> omega, es, by omega⟩, rfl⟩
        · have hx' := eq_true hx
          have hxne : ∀ z : Int, updF f1 x z id = f1 id := fun z => by unfold updF; rw [if_neg (fun h => hx h.symm)]
          have bx := q.bf1 x
          cases b with
          | true =>
            simp (maxSteps := 10000000) (disch := omega) only [wlC_nil, wlC_t, wlC_u, wlC_st, wlC_su, nextT_eq, nextU_eq, wlC_g, guardC_hit, guardC_tf, guardC_ft, guardC_u, pure_move, pure_assign, pure_pick, pure_bin, pure_un, pure_ext, pure_fa, pure_ia, pure_load, pure_store, pure_conv, pure_build, pure_call, pure_append, pure_len, Nat.reduceSub, go_sem, p1, p5, p6, p7, p12, p13, p14, h200', Nat.zero_add, L0, L1, L2, hx, decide_false]
            refine give_call b11 q.g1 q.h1 x (Nat.le_refl _) ?_
            intro H2 c1 c2 d1
            simp (maxSteps := 10000000) (disch := omega) only [wlC_nil, wlC_t, wlC_u, wlC_st, wlC_su, nextT_eq, nextU_eq, wlC_g, guardC_hit, guardC_tf, guardC_ft, guardC_u, pure_move, pure_assign, pure_pick, pure_bin, pure_un, pure_ext, pure_fa, pure_ia, pure_load, pure_store, pure_conv, pure_build, pure_call, pure_append, pure_len, Nat.reduceSub, go_sem, p1, p5, p6, p7, p12, p13, p14]
            have d2 := b21.keep (c2 _ (Ne.symm ap1) (Ne.symm ap3)) (c2 _ (Ne.symm ap2) (Ne.symm ap4))
            have o2 : Old H0 H2 := o1.step fun q hq => c2 q (by omega) (by omega)
            by_cases g : f1 x = 0
            · rw [if_pos g, if_pos g] at d1
              exact ⟨mo, f1, t1, f2, t2, ⟨d1, d2, o2, by omega, fun z => by have := q.bf1 z; omega, by omega, fun z => by have := q.bf2 z; omega, by omega, e, em, es, by omega⟩, rfl⟩
            · rw [if_neg g, if_neg g] at d1
              exact ⟨mo, _, _, f2, t2, ⟨d1, d2, o2, by omega, fun z => by have := q.bf1 z; unfold updF; split <;> omega, by omega, fun z => by have := q.bf2 z; omega, by omega, by rw [hxne]; exact e, by rw [hxne]; exact em, es, by omega⟩, rfl⟩
          | false =>
            simp (maxSteps := 10000000) (disch := omega) only [wlC_nil, wlC_t, wlC_u, wlC_st, wlC_su, nextT_eq, nextU_eq, wlC_g, guardC_hit, guardC_tf, guardC_ft, guardC_u, pure_move, pure_assign, pure_pick, pure_bin, pure_un, pure_ext, pure_fa, pure_ia, pure_load, pure_store, pure_conv, pure_build, pure_call, pure_append, pure_len, Nat.reduceSub, go_sem, p1, p5, p6, p7, p12, p13, p14, h200', Nat.zero_add, L0, L1, L2, hx, decide_false]
            refine take_call b11 q.g1 q.h1 x y (Nat.le_refl _) ?_
            intro H2 c1 c2 d1
            simp (maxSteps := 10000000) (disch := omega) only [wlC_nil, wlC_t, wlC_u, wlC_st, wlC_su, nextT_eq, nextU_eq, wlC_g, guardC_hit, guardC_tf, guardC_ft, guardC_u, pure_move, pure_assign, pure_pick, pure_bin, pure_un, pure_ext, pure_fa, pure_ia, pure_load, pure_store, pure_conv, pure_build, pure_call, pure_append, pure_len, Nat.reduceSub, go_sem, p1, p5, p6, p7, p12, p13, p14]
            have d2 := b21.keep (c2 _ (Ne.symm ap1) (Ne.symm ap3)) (c2 _ (Ne.symm ap2) (Ne.symm ap4))
            have o2 : Old H0 H2 := o1.step fun q hq => c2 q (by omega) (by omega)
            by_cases g : f1 x < y
            · rw [if_pos g, if_pos g] at d1
              exact ⟨mo, _, _, f2, t2, ⟨d1, d2, o2, by omega, fun z => by have := q.bf1 z; unfold updF; split <;> omega, by omega, fun z => by have := q.bf2 z; omega, by omega, by rw [hxne]; exact e, by rw [hxne]; exact em, es, by omega⟩, rfl⟩
            · rw [if_neg g, if_neg g] at d1
              exact ⟨mo, f1, t1, f2, t2, ⟨d1, d2, o2, by omega, fun z => by have := q.bf1 z; omega, by omega, fun z => by have := q.bf2 z; omega, by omega, e, em, es, by omega⟩, rfl⟩
    · clear p1 p5 p6 p7 p12 p13 p14 q
      rintro a H ⟨mo, f1, t1, f2, t2, q, p1, p5, p6, p7, p12, p13, p14⟩
      refine wrun_of ?_
      have := q.bn
      simp (maxSteps := 10000000) (disch := omega) only [wlC_nil, wlC_t, wlC_u, wlC_st, wlC_su, nextT_eq, nextU_eq, wlC_g, guardC_hit, guardC_tf, guardC_ft, guardC_u, pure_move, pure_assign, pure_pick, pure_bin, pure_un, pure_ext, pure_fa, pure_ia, pure_load, pure_store, pure_conv, pure_build, pure_call, pure_append, pure_len, Nat.reduceSub, go_sem, p1, p5, p6, p7, p12, p13, p14, wrap_i64]
      exact ⟨m - 1, by omega, k + 1, mo, f1, t1, f2, t2, by omega, rfl, by simp, q⟩
  · clear p0 p1 p5 p6 p7 q
    rintro a H ⟨mo, f1, t1, f2, t2, p1, p5, p6, p7, q⟩
    have hb := q.bb
    have em := eq_true (show f2 id ≤ mo by have := q.m; have := q.e; omega)
    refine wrun_of ?_
    simp (maxSteps := 10000000) (disch := omega) only [wlC_nil, wlC_t, wlC_u, wlC_st, wlC_su, nextT_eq, nextU_eq, wlC_g, guardC_hit, guardC_tf, guardC_ft, guardC_u, pure_move, pure_assign, pure_pick, pure_bin, pure_un, pure_ext, pure_fa, pure_ia, pure_load, pure_store, pure_conv, pure_build, pure_call, pure_append, pure_len, Nat.reduceSub, go_sem, p1, p5, p6, p7]
    refine (has_fun q.b1 id).call hb ?_
    rintro _ H2 c1 c2 ⟨rfl, rfl⟩
    simp (maxSteps := 10000000) (disch := omega) only [wlC_nil, wlC_t, wlC_u, wlC_st, wlC_su, nextT_eq, nextU_eq, wlC_g, guardC_hit, guardC_tf, guardC_ft, guardC_u, pure_move, pure_assign, pure_pick, pure_bin, pure_un, pure_ext, pure_fa, pure_ia, pure_load, pure_store, pure_conv, pure_build, pure_call, pure_append, pure_len, Nat.reduceSub, go_sem, p1, p5, p6, p7]
    refine (has_fun q.b2 id).call hb ?_
    rintro _ H2 c1 c2 ⟨rfl, rfl⟩
    simp (maxSteps := 10000000) (disch := omega) only [wlC_nil, wlC_t, wlC_u, wlC_st, wlC_su, nextT_eq, nextU_eq, wlC_g, guardC_hit, guardC_tf, guardC_ft, guardC_u, pure_move, pure_assign, pure_pick, pure_bin, pure_un, pure_ext, pure_fa, pure_ia, pure_load, pure_store, pure_conv, pure_build, pure_call, pure_append, pure_len, Nat.reduceSub, go_sem, p1, p5, p6, p7, q.e]
    refine (has_fun q.b1 id).call hb ?_
    rintro _ H2 c1 c2 ⟨rfl, rfl⟩
    simp (maxSteps := 10000000) (disch := omega) only [wlC_nil, wlC_t, wlC_u, wlC_st, wlC_su, nextT_eq, nextU_eq, wlC_g, guardC_hit, guardC_tf, guardC_ft, guardC_u, pure_move, pure_assign, pure_pick, pure_bin, pure_un, pure_ext, pure_fa, pure_ia, pure_load, pure_store, pure_conv, pure_build, pure_call, pure_append, pure_len, Nat.reduceSub, go_sem, p1, p5, p6, p7, q.e, em]
    refine (total_fun q.b2).call hb ?_
    rintro _ H2 c1 c2 ⟨rfl, rfl⟩
    simp (maxSteps := 10000000) (disch := omega) only [wlC_nil, wlC_t, wlC_u, wlC_st, wlC_su, nextT_eq, nextU_eq, wlC_g, guardC_hit, guardC_tf, guardC_ft, guardC_u, pure_move, pure_assign, pure_pick, pure_bin, pure_un, pure_ext, pure_fa, pure_ia, pure_load, pure_store, pure_conv, pure_build, pure_call, pure_append, pure_len, Nat.reduceSub, go_sem, p1, p5, p6, p7]
    refine (has_fun q.b2 id).call hb ?_
    rintro _ H2 c1 c2 ⟨rfl, rfl⟩
    simp (maxSteps := 10000000) (disch := omega) only [wlC_nil, wlC_t, wlC_u, wlC_st, wlC_su, nextT_eq, nextU_eq, wlC_g, guardC_hit, guardC_tf, guardC_ft, guardC_u, pure_move, pure_assign, pure_pick, pure_bin, pure_un, pure_ext, pure_fa, pure_ia, pure_load, pure_store, pure_conv, pure_build, pure_call, pure_append, pure_len, Nat.reduceSub, go_sem, p1, p5, p6, p7, q.s]
    refine (awake17_fun _).call hb ?_
    rintro _ H7 c11 c12 rfl
    simp (maxSteps := 10000000) (disch := omega) only [wlC_nil, wlC_t, wlC_u, wlC_st, wlC_su, nextT_eq, nextU_eq, wlC_g, guardC_hit, guardC_tf, guardC_ft, guardC_u, pure_move, pure_assign, pure_pick, pure_bin, pure_un, pure_ext, pure_fa, pure_ia, pure_load, pure_store, pure_conv, pure_build, pure_call, pure_append, pure_len, Nat.reduceSub, go_sem]
end Go.Proofs.Ytcapjjmikapmfaa.M
