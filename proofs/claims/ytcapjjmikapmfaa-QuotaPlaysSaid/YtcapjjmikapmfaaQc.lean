/- QuotaSums. -/
import Derived.Test.YtcapjjmikapmfaaQb
set_option linter.unusedVariables false
set_option linter.unusedSimpArgs false
namespace Go.Proofs.Ytcapjjmikapmfaa.M
open Go Go.Proofs

/-! ### Runs in parts -/
section
variable {P : Program} {N : Nat} {fn : FuncId} {n : Nat} {top : Bool} {Q : Post} {a : AAct} {H : Heap}
theorem wrun_mid' {x y : Code} (R : AAct → Heap → Prop) (h1 : wrun P N fn n top x (seqK R Q) a H) (h2 : ∀ a H, R a H → wrun P N fn n top y Q a H) : wrun P N fn n top (.seq x y) Q a H := by
  obtain ⟨e, a1, H1, r1, q1⟩ := h1
  cases e with
  | normal =>
    obtain ⟨e, a2, H2, r2, q2⟩ := h2 _ _ q1
    exact ⟨e, a2, H2, .seq r1 r2, q2⟩
  | exit id => exact ⟨_, a1, H1, .seqx r1 (by simp), q1⟩
  | ret => exact ⟨_, a1, H1, .seqx r1 (by simp), q1⟩
theorem wrun_block {c : Code} {id : Nat} (h : wrun P N fn n top c (blockK id Q) a H) : wrun P N fn n top (.block id c) Q a H := by
  obtain ⟨e, a1, H1, r1, q1⟩ := h
  exact ⟨_, a1, H1, .block r1, q1⟩
theorem wrun_loop {c : Code} (I : Nat → AAct → Heap → Prop) (hstep : ∀ m a H, I m a H → wrun P N fn n top c (backK I m Q) a H) (m : Nat) (h : I m a H) : wrun P N fn n top (.loop c) Q a H := by
  induction m using Nat.strongRecOn generalizing a H with
  | _ m ih =>
    obtain ⟨e, a1, H1, h1, h2⟩ := hstep m a H h
    cases e with
    | normal =>
      obtain ⟨m', hm, hI⟩ := h2
      obtain ⟨e, a', H', h3, h4⟩ := ih m' hm hI
      exact ⟨e, a', H', .loop h1 h3, h4⟩
    | exit id => exact ⟨_, a1, H1, .loopx h1 (by simp), h2⟩
    | ret => exact ⟨_, a1, H1, .loopx h1 (by simp), h2⟩
theorem wrun_assoc {x y z : Code} (h : wrun P N fn n top (.seq (.seq x y) z) Q a H) : wrun P N fn n top (.seq x (.seq y z)) Q a H := by
  obtain ⟨e, a1, H1, r, q⟩ := h
  refine ⟨e, a1, H1, ?_, q⟩
  cases r with
  | seq r1 r2 =>
    cases r1 with
    | seq r3 r4 => exact .seq r3 (.seq r4 r2)
    | seqx r3 hne => exact absurd rfl hne
  | seqx r1 hne =>
    cases r1 with
    | seq r3 r4 => exact .seq r3 (.seqx r4 hne)
    | seqx r3 hne => exact .seqx r3 hne
end

/-! ### Sums -/
def sum8 (f : Int → Int) : Int := f 0 + f 1 + f 2 + f 3 + f 4 + f 5 + f 6 + f 7
theorem sum8_upd (f : Int → Int) (id x : Int) (h : 0 ≤ id ∧ id < 8) : sum8 (updF f id x) = sum8 f - f id + x := by
  have : id = 0 ∨ id = 1 ∨ id = 2 ∨ id = 3 ∨ id = 4 ∨ id = 5 ∨ id = 6 ∨ id = 7 := by omega
  rcases this with rfl | rfl | rfl | rfl | rfl | rfl | rfl | rfl <;> simp only [sum8, updF, Int.reduceEq, if_true, if_false, ↓reduceIte] <;> omega
def psF (f : Int → Int) : Nat → Int
  | 0 => 0
  | n + 1 => psF f n + f (n : Nat)
theorem psF_8 (f : Int → Int) : psF f 8 = sum8 f := by simp only [psF, sum8, Int.natCast_zero, Int.natCast_one]; norm_cast; omega
theorem psF_le (f : Int → Int) (hf : ∀ k, 0 ≤ f k ∧ f k ≤ 1000) : ∀ n, 0 ≤ psF f n ∧ psF f n ≤ 1000 * n
  | 0 => ⟨Int.le_refl _, Int.le_refl _⟩
  | n + 1 => by
    have := psF_le f hf n
    have := hf (n : Nat)
    simp only [psF]
    omega
theorem and7 (x : Int) : ∃ r : Int, (0 ≤ r ∧ r < 8) ∧ binA Try.prog .and 3 (.int .i64 x) (.int .i64 7) = some (.int .i64 r) := by
  have h1 : (BitVec.ofInt 64 x &&& BitVec.ofInt 64 7).toNat < 8 := by
    rw [BitVec.toNat_and]
    exact Nat.lt_of_le_of_lt Nat.and_le_right (by decide)
  refine ⟨((BitVec.ofInt 64 x &&& BitVec.ofInt 64 7).toNat : Nat), ⟨by omega, by omega⟩, ?_⟩
  rw [bin_and_i, wrap_i64 _ (by omega) (by omega)]

theorem store_36 {N : Nat} {H : Heap} {i : Nat} {u v w : Value} {b : Bool} {x y : Int} {tl : Bool} (hi : H[i]? = some (.cells [u, v, w] true tl)) (hN : N ≤ i) {K : Value → Heap → Prop}
    (hK : ∀ H', H'.size = H.size → (∀ j, j ≠ i → H'[j]? = H[j]?) → H'[i]? = some (.cells [.bool b, .int .i64 x, .int .i64 y] true tl) → K undef H') : storeK Try.prog N 36 (.pointer (some ⟨i, 0, none⟩)) (.agg #[.bool b, .int .i64 x, .int .i64 y]) H K := by
  have hil := get_lt hi
  have hst : stc 3 (.agg #[.bool b, .int .i64 x, .int .i64 y]) = some [.bool b, .int .i64 x, .int .i64 y] := rfl
  simp only [storeK, hi, sz_36, hst]
  refine ⟨hN, by simp, hK _ (by simp) (fun j hj => ?_) ?_⟩
  · rw [Array.getElem?_setIfInBounds_ne (fun hij => hj hij.symm)]
  · have : wr [u, v, w] 0 [.bool b, .int .i64 x, .int .i64 y] = [.bool b, .int .i64 x, .int .i64 y] := rfl
    rw [this, Array.getElem?_setIfInBounds, if_pos rfl, if_pos hil]

structure QS (H : Heap) (B i j : Nat) (f : Int → Int) (t : Int) (n : Nat) : Prop where
  at_ : BookAt H B i j f t
  bf : ∀ q, 0 ≤ f q ∧ f q ≤ n
  bt : -n ≤ t ∧ t ≤ n
  bs : sum8 f = t
  bn : n ≤ 200
  bb : B ≤ H.size
theorem QS.f1 {H : Heap} {B i j : Nat} {f : Int → Int} {t : Int} {n : Nat} (h : QS H B i j f t n) : ∀ q, 0 ≤ f q ∧ f q ≤ 1000 := fun q => by have := h.bf q; have := h.bn; omega
theorem QS.t1 {H : Heap} {B i j : Nat} {f : Int → Int} {t : Int} {n : Nat} (h : QS H B i j f t n) : -1000 ≤ t ∧ t ≤ 1000 := by have := h.bt; have := h.bn; omega

def Old (H0 H : Heap) : Prop := ∀ q, q < H0.size → H[q]? = H0[q]?
theorem Old.refl (H : Heap) : Old H H := fun _ _ => rfl
theorem Old.step {H0 H H2 : Heap} (h : Old H0 H) (hk : ∀ q, q < H0.size → H2[q]? = H[q]?) : Old H0 H2 := fun q hq => by rw [hk q hq, h q hq]

set_option maxRecDepth 20000 in
set_option maxHeartbeats 4000000 in
theorem quotaSums_fun {H0 : Heap} {v : Value} {cs : List CallT} (hv0 : CallsAt H0 v cs) : Fun Try.prog 8 [v] H0 (fun r _ => r = .bool true) := by
  refine fun_of_r Try.func8 rfl (by decide +kernel) (Nat.le_of_ble_eq_true rfl) ?_
  unfold Try.f8
  generalize hN : H0.size = N0
  iterate 1 (refine wrun_assoc ?_)
  refine wrun_mid (fun a H' => ∃ i j, a 0 = v ∧ a 3 = .pointer (some ⟨i, 0, none⟩) ∧ QS H' N0 i j (fun _ => 0) 0 0 ∧ Old H0 H') ?_ ?_
  · simp (maxSteps := 10000000) (disch := omega) only [go_sem]
    refine (bookNew_fun _).call (show N0 ≤ _ by omega) ?_
    rintro _ H1 a1 a2 ⟨i, j, rfl, b1⟩
    simp (maxSteps := 10000000) (disch := omega) only [go_sem]
    rw [hN] at b1
    exact ⟨i, j, rfl, ⟨b1, fun _ => ⟨Int.le_refl _, Int.le_refl _⟩, ⟨by omega, by omega⟩, rfl, by omega, by omega⟩, (Old.refl H0).step (fun q hq => a2 q hq)⟩
  rintro a H ⟨i, j, p0, p3, q, hv⟩
  refine wrun_mid' (fun a H' => ∃ f t, a 3 = .pointer (some ⟨i, 0, none⟩) ∧ QS H' N0 i j f t 200) ?_ ?_
  · refine wrun_mid (fun a H' => H' = H ∧ a 3 = .pointer (some ⟨i, 0, none⟩) ∧ a 11 = v ∧ a 12 = .int .i64 (cs.length : Nat) ∧ a 13 = .int .i64 (0 : Nat)) (by simp (maxSteps := 10000000) (disch := omega) only [go_sem, p0, p3, hv0.len]) ?_
    clear p0 p3 a
    rintro a H ⟨rfl, p3, p11, p12, p13⟩
    refine wrun_block (wrun_loop (fun m a H' => ∃ (k : Nat) (f : Int → Int) (t : Int), k + m = cs.length ∧ a 3 = .pointer (some ⟨i, 0, none⟩) ∧ QS H' N0 i j f t k ∧ Old H0 H' ∧ a 11 = v ∧ a 12 = .int .i64 (cs.length : Nat) ∧ a 13 = .int .i64 (k : Nat)) ?_ cs.length ⟨0, _, _, by omega, p3, q, hv, p11, p12, p13⟩)
    clear p3 q hv p11 p12 p13
    rintro m a H ⟨k, f, t, hk, p3, q, hv, p11, p12, p13⟩
    have hq200 : k ≤ 200 → QS H N0 i j f t 200 := fun hk => ⟨q.at_, fun x => by have := q.bf x; omega, by have := q.bt; omega, q.bs, by omega, q.bb⟩
    iterate 1 (refine wrun_assoc ?_)
    refine wrun_mid (fun a H' => H' = H ∧ k < cs.length ∧ a 3 = .pointer (some ⟨i, 0, none⟩) ∧ a 11 = v ∧ a 12 = .int .i64 (cs.length : Nat) ∧ a 13 = .int .i64 (k : Nat)) ?_ ?_
    · by_cases hlt : k < cs.length
      · have hlt' := eq_true (show (k : Int) < (cs.length : Nat) by omega)
        simp (maxSteps := 10000000) (disch := omega) only [go_sem, p3, p11, p12, p13, hlt']
        exact hlt
      · have hlt' := eq_false (show ¬ (k : Int) < (cs.length : Nat) by omega)
        simp (maxSteps := 10000000) (disch := omega) only [go_sem, p3, p11, p12, p13, hlt']
        exact ⟨f, t, hq200 q.bn⟩
    clear p3 p11 p12 p13 a
    rintro a H ⟨rfl, hlt, p3, p11, p12, p13⟩
    refine wrun_mid' (fun a H' => ∃ f t, QS H' N0 i j f t (k + 1) ∧ Old H0 H' ∧ a 3 = .pointer (some ⟨i, 0, none⟩) ∧ a 11 = v ∧ a 12 = .int .i64 (cs.length : Nat) ∧ a 13 = .int .i64 (k : Nat)) (wrun_block ?_) ?_
    · iterate 3 (refine wrun_assoc ?_)
      refine wrun_mid (fun a H' => ∃ f t, QS H' N0 i j f t (k + 1) ∧ Old H0 H' ∧ a 3 = .pointer (some ⟨i, 0, none⟩) ∧ a 11 = v ∧ a 12 = .int .i64 (cs.length : Nat) ∧ a 13 = .int .i64 (k : Nat)) ?_ ?_
      · obtain ⟨b, x, y, _, ad, g1, g2⟩ := (hv0.keep hv).elem hlt
        simp (maxSteps := 10000000) (disch := omega) only [go_sem, p3, p11, p12, p13, g1, g2]
        have hb := q.bb
        refine store_36 get_push_new (by omega) ?_
        intro H1 s1 s2 s3
        have s1' : H1.size = H.size + 1 := by rw [s1]; simp
        have k1 : ∀ q, q < H.size → H1[q]? = H[q]? := fun q hq => by rw [s2 q (by omega), get_push_old hq]
        have hl := q.at_.lt
        have b1 := q.at_.keep (k1 i hl.1) (k1 j hl.2)
        have v1 : Old H0 H1 := hv.step fun q hq => k1 q (by omega)
        have L0 := load_cell (P := Try.prog) (t := 4) s3 kind_4 (o := 0) (x := .bool b) rfl
        have L1 := load_cell (P := Try.prog) (t := 3) s3 kind_3 (o := 1) (x := .int .i64 x) rfl
        have L2 := load_cell (P := Try.prog) (t := 3) s3 kind_3 (o := 2) (x := .int .i64 y) rfl
        by_cases h200 : 200 ≤ k
        · have h200' := eq_true (show (200 : Int) ≤ k by omega)
          simp (maxSteps := 10000000) (disch := omega) only [go_sem, p3, p11, p12, p13, h200']
          have := q.bn
          have hkk : k = 200 := by omega
          subst hkk
          exact ⟨f, t, b1, q.bf, q.bt, q.bs, q.bn, by omega⟩
        · have h200' := eq_false (show ¬ (200 : Int) ≤ k by omega)
          obtain ⟨r, hr, e7⟩ := and7 x
          have hfr := q.bf r
          have ht := q.bt
          cases b with
          | true =>
            simp (maxSteps := 10000000) (disch := omega) only [go_sem, p3, p11, p12, p13, h200', Nat.zero_add, L0, L1, L2, e7]
            refine give_call b1 q.f1 q.t1 r (Nat.le_refl _) ?_
            intro H2 c1 c2 b2
            simp (maxSteps := 10000000) (disch := omega) only [go_sem, p3, p11, p12, p13]
            have v2 : Old H0 H2 := v1.step fun q hq => c2 q (by have := b1.n; omega) (by have := b1.m; omega)
            by_cases g : f r = 0
            · rw [if_pos g, if_pos g] at b2
              exact ⟨f, t, ⟨b2, fun z => by have := q.bf z; omega, by omega, q.bs, by omega, by omega⟩, v2⟩
            · rw [if_neg g, if_neg g] at b2
              exact ⟨_, _, ⟨b2, fun z => by have := q.bf z; unfold updF; split <;> omega, by omega, by rw [sum8_upd f r _ hr, q.bs]; omega, by omega, by omega⟩, v2⟩
          | false =>
            simp (maxSteps := 10000000) (disch := omega) only [go_sem, p3, p11, p12, p13, h200', Nat.zero_add, L0, L1, L2, e7]
            refine take_call b1 q.f1 q.t1 r y (Nat.le_refl _) ?_
            intro H2 c1 c2 b2
            simp (maxSteps := 10000000) (disch := omega) only [go_sem, p3, p11, p12, p13]
            have v2 : Old H0 H2 := v1.step fun q hq => c2 q (by have := b1.n; omega) (by have := b1.m; omega)
            by_cases g : f r < y
            · rw [if_pos g, if_pos g] at b2
              exact ⟨_, _, ⟨b2, fun z => by have := q.bf z; unfold updF; split <;> omega, by omega, by rw [sum8_upd f r _ hr, q.bs]; omega, by omega, by omega⟩, v2⟩
            · rw [if_neg g, if_neg g] at b2
              exact ⟨f, t, ⟨b2, fun z => by have := q.bf z; omega, by omega, q.bs, by omega, by omega⟩, v2⟩
      · clear p3 q hv p11 p12 p13
        rintro a H ⟨f, t, q, hv, p3, p11, p12, p13⟩
        refine wrun_of ?_
        simp (maxSteps := 10000000) (disch := omega) only [go_sem, p3, p11, p12, p13]
        refine wp_loop (fun m a H' => ∃ n : Nat, n + m = 8 ∧ H' = H ∧ a 3 = .pointer (some ⟨i, 0, none⟩) ∧ a 11 = v ∧ a 12 = .int .i64 (cs.length : Nat) ∧ a 13 = .int .i64 (k : Nat) ∧ a 7 = .int .i64 (psF f n) ∧ a 33 = .int .i64 (n : Nat)) ?_ 8 ?_
        · clear p3 p11 p12 p13
          rintro m a _ ⟨n, hn, rfl, p3, p11, p12, p13, p7, p33⟩
          by_cases h8 : n < 8
          · have h8' := eq_true (show (n : Int) < 8 by omega)
            have hps := psF_le f q.f1 n
            have hfn := q.f1 (n : Nat)
            have hneg := eq_false (show ¬ f (n : Nat) < 0 by omega)
            simp (maxSteps := 10000000) (disch := omega) only [go_sem, p3, p11, p12, p13, p7, p33, h8']
            refine (has_fun q.at_ _).call q.bb ?_
            rintro _ H2 c1 c2 ⟨rfl, rfl⟩
            simp (maxSteps := 10000000) (disch := omega) only [go_sem, p3, p11, p12, p13, p7, p33, hneg]
            refine (has_fun q.at_ _).call q.bb ?_
            rintro _ H2 c1 c2 ⟨rfl, rfl⟩
            simp (maxSteps := 10000000) (disch := omega) only [go_sem, p3, p11, p12, p13, p7, p33, wrap_i64]
            exact ⟨m - 1, by omega, n + 1, by omega, by simp [psF]⟩
          · have h8' := eq_false (show ¬ (n : Int) < 8 by omega)
            have hn8 : n = 8 := by omega
            subst hn8
            rw [psF_8, q.bs] at p7
            simp (maxSteps := 10000000) (disch := omega) only [go_sem, p3, p11, p12, p13, p7, p33, h8']
            refine (total_fun q.at_).call q.bb ?_
            rintro _ H2 c1 c2 ⟨rfl, rfl⟩
            simp (maxSteps := 10000000) (disch := omega) only [go_sem, p3, p11, p12, p13, p7, p33]
            exact ⟨f, t, q, hv⟩
        · exact ⟨0, rfl, rfl, by simp (maxSteps := 10000000) (disch := omega) only [go_sem, p3, p11, p12, p13, psF]⟩
    · clear p3 q hv p11 p12 p13
      rintro a H ⟨f, t, q, hv, p3, p11, p12, p13⟩
      refine wrun_of ?_
      have := q.bn
      simp (maxSteps := 10000000) (disch := omega) only [go_sem, p3, p11, p12, p13, wrap_i64]
      exact ⟨m - 1, by omega, k + 1, f, t, by omega, q, hv, by simp⟩
  · clear p3 q hv p0
    rintro a H ⟨f, t, p3, q⟩
    have hN0 := q.bb
    have n3 := q.bf 3
    have nt := q.bt
    refine wrun_of ?_
    simp (maxSteps := 10000000) (disch := omega) only [go_sem, p3]
    refine (has_fun q.at_ 3).call hN0 ?_
    rintro _ H2 c1 c2 ⟨rfl, rfl⟩
    simp (maxSteps := 10000000) (disch := omega) only [go_sem, p3, wrap_i64]
    refine take_call q.at_ q.f1 q.t1 3 (f 3 + 1) (Nat.le_refl _) ?_
    have g1 : f 3 < f 3 + 1 := by omega
    rw [if_pos g1, if_pos g1, decide_eq_true g1]
    intro H3 c3 c4 b3
    have f3 : ∀ z, 0 ≤ updF f 3 (f 3 + 1) z ∧ updF f 3 (f 3 + 1) z ≤ 1000 := fun z => by have := q.bf z; unfold updF; split <;> omega
    have e3 : updF f 3 (f 3 + 1) 3 = f 3 + 1 := by simp [updF]
    simp (maxSteps := 10000000) (disch := omega) only [go_sem, p3]
    refine give_call b3 f3 (by omega) 3 (Nat.le_refl _) ?_
    rw [e3]
    have g2 : ¬ f 3 + 1 = 0 := by omega
    rw [if_neg g2, if_neg g2, decide_eq_false g2]
    intro H4 c5 c6 b4
    have e4 : ∀ z, updF (updF f 3 (f 3 + 1)) 3 (f 3 + 1 - 1) z = f z := fun z => by unfold updF; split <;> simp_all
    simp (maxSteps := 10000000) (disch := omega) only [go_sem, p3]
    refine (has_fun b4 3).call (show N0 ≤ _ by omega) ?_
    rintro _ H5 c7 c8 ⟨rfl, rfl⟩
    rw [e4]
    simp (maxSteps := 10000000) (disch := omega) only [go_sem, p3]
    refine take_call b4 (fun z => by rw [e4]; exact q.f1 z) (by omega) 3 (f 3) (Nat.le_refl _) ?_
    rw [e4]
    have g3 : ¬ f 3 < f 3 := by omega
    rw [if_neg g3, if_neg g3, decide_eq_false g3]
    intro H6 c9 c10 b6
    simp (maxSteps := 10000000) (disch := omega) only [go_sem, p3]
    refine (awake17_fun _).call (show N0 ≤ _ by omega) ?_
    rintro _ H7 c11 c12 rfl
    simp (maxSteps := 10000000) (disch := omega) only [go_sem]
end Go.Proofs.Ytcapjjmikapmfaa.M
