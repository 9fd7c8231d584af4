/- Poly1305 by the document: carrying, products, the least number. -/
import Derived.Test.YtcapjjmikapmfaaPc
set_option linter.unusedVariables false
set_option linter.unusedSimpArgs false
namespace Go.Proofs.Ytcapjjmikapmfaa.M
open Go Go.Proofs

def dn (ds : List Nat) : List (BitVec 64) := ds.map w64
theorem dn_length (ds : List Nat) : (dn ds).length = ds.length := by simp [dn]
theorem dn_get {ds : List Nat} {k x : Nat} (h : ds[k]? = some x) : (dn ds)[k]? = some (w64 x) := by simp [dn, h]
theorem dn_set (ds : List Nat) (k x : Nat) : (dn ds).set k (w64 x) = dn (ds.set k x) := by simp [dn, List.map_set]
theorem w64_add (a b : Nat) : w64 a + w64 b = w64 (a + b) := by simp [w64, BitVec.ofNat_add]
theorem w64_mul (a b : Nat) : w64 a * w64 b = w64 (a * b) := by simp [w64, BitVec.ofNat_mul]
theorem w64_and255 (a : Nat) (h : a < 2 ^ 64) : w64 a &&& 255#64 = w64 (a % 256) := by
  apply BitVec.eq_of_toNat_eq
  rw [BitVec.toNat_and, w64_toNat a h, w64_toNat _ (by omega)]
  exact Nat.and_two_pow_sub_one_eq_mod a 8
theorem w64_and3 (a : Nat) (h : a < 2 ^ 64) : w64 a &&& 3#64 = w64 (a % 4) := by
  apply BitVec.eq_of_toNat_eq
  rw [BitVec.toNat_and, w64_toNat a h, w64_toNat _ (by omega)]
  exact Nat.and_two_pow_sub_one_eq_mod a 2
theorem w64_shr8 (a : Nat) (h : a < 2 ^ 64) : w64 a >>> (8#64).toNat = w64 (a / 256) := by
  apply BitVec.eq_of_toNat_eq
  rw [BitVec.toNat_ushiftRight, w64_toNat a h, w64_toNat _ (by omega), Nat.shiftRight_eq_div_pow]
  rfl
theorem w64_shr2 (a : Nat) (h : a < 2 ^ 64) : w64 a >>> (2#64).toNat = w64 (a / 4) := by
  apply BitVec.eq_of_toNat_eq
  rw [BitVec.toNat_ushiftRight, w64_toNat a h, w64_toNat _ (by omega), Nat.shiftRight_eq_div_pow]
  rfl

def rndN (ds : List Nat) : Nat → List Nat
  | 0 => ds
  | n + 1 => rnd130 (rndN ds n)
theorem rndN_ok {ds : List Nat} (hl : ds.length = 17) (hm : ∀ d ∈ ds, d ≤ 2 ^ 54) (hv : val 256 ds < 2 ^ 180) : ∀ n, (rndN ds n).length = 17 ∧ (∀ d ∈ rndN ds n, d ≤ 2 ^ 54) ∧ val 256 (rndN ds n) < 2 ^ 180
  | 0 => ⟨hl, hm, hv⟩
  | n + 1 => by
    obtain ⟨h1, h2, h3⟩ := rndN_ok hl hm hv n
    refine ⟨rnd130_length _, fun d hd => ?_, ?_⟩
    · rw [rndN, rnd130] at hd
      rcases List.mem_or_eq_of_mem_set hd with hd | rfl
      · have := digs_lt _ d hd
        omega
      · omega
    · rw [rndN, val_rnd130, fp]
      omega

def coIn (cs : List Nat) (i1 i2 : Nat) (H0 : Heap) (i : Nat) (m : Nat) (a : AAct) (H : Heap) : Prop :=
  ∃ k : Nat, k + m = 16 ∧ a 1 = .pointer (some ⟨i1, 0, none⟩) ∧ a 2 = .pointer (some ⟨i2, 0, none⟩) ∧ a 3 = u64 (w64 (rndC cs k)) ∧ a 5 = .int .i64 (i : Nat) ∧ a 7 = .int .i64 (k : Nat) ∧
    H[i1]? = some (.cells ((dn (rndL cs k)).map u64) true false) ∧ (∃ us : List Value, us.length = 17 ∧ H[i2]? = some (.cells us true false)) ∧ H0.size ≤ H.size
def coOut (ds : List Nat) (i1 i2 : Nat) (H0 : Heap) (m : Nat) (a : AAct) (H : Heap) : Prop :=
  ∃ i : Nat, i + m = 3 ∧ a 1 = .pointer (some ⟨i1, 0, none⟩) ∧ a 2 = .pointer (some ⟨i2, 0, none⟩) ∧ a 5 = .int .i64 (i : Nat) ∧
    H[i1]? = some (.cells ((dn (rndN ds i)).map u64) true false) ∧ (∃ us : List Value, us.length = 17 ∧ H[i2]? = some (.cells us true false)) ∧ H0.size ≤ H.size

set_option maxRecDepth 20000 in
set_option maxHeartbeats 4000000 in
theorem carry_fun {ds : List Nat} (hl : ds.length = 17) (hm : ∀ d ∈ ds, d ≤ 2 ^ 54) (hv : val 256 ds < 2 ^ 180) (H : Heap) : Fun Try.prog 116 [aw (dn ds)] H (fun r H' => r = aw (dn (digs (car (val 256 ds))))) := by
  refine fun_of Try.func116 rfl (by decide +kernel) (Nat.le_of_ble_eq_true rfl) ?_
  unfold Try.f116
  simp (maxSteps := 10000000) (disch := omega) only [go_sem, box_aw]
  obtain ⟨H1, hH1⟩ : ∃ H1, H1 = (H.push (.cells ((dn ds).map u64) true false)).push (.cells (List.replicate 17 (u64 0)) true false) := ⟨_, rfl⟩
  have z1 : H1.size = H.size + 2 := by rw [hH1]; simp
  have n1 : (H.push (.cells ((dn ds).map u64) true false)).size = H.size + 1 := by simp
  have b1 : H1[H.size]? = some (.cells ((dn ds).map u64) true false) := by rw [hH1]; exact keep_push get_push_new
  have b2 : H1[H.size + 1]? = some (.cells (List.replicate 17 (u64 0)) true false) := by rw [hH1, ← n1]; exact get_push_new
  rw [n1, ← hH1]
  refine wp_loop (coOut ds H.size (H.size + 1) H) ?_ 3 ?_
  · rintro m a H2 ⟨i, hi, q1, q2, q5, d1, ⟨us, u1, u2⟩, hz⟩
    obtain ⟨r1, r2, r3⟩ := rndN_ok hl hm hv i
    simp (maxSteps := 10000000) (disch := omega) only [go_sem, q1, q2, q5]
    by_cases hlt : i < 3
    · have hlt' := eq_true (show (i : Int) < 3 by omega)
      obtain ⟨cs, hcs⟩ : ∃ cs, cs = rndN ds i := ⟨_, rfl⟩
      rw [← hcs] at r1 r2 r3 d1
      simp (maxSteps := 10000000) (disch := omega) only [go_sem, q1, q2, q5, hlt']
      refine wp_loop (coIn cs H.size (H.size + 1) H i) ?_ 16 ?_
      · rintro m2 a H3 ⟨k, hk, q1, q2, q3, q5, q7, d1, ⟨us, u1, u2⟩, hz⟩
        have hcl := rndC_le r2 k
        simp (maxSteps := 10000000) (disch := omega) only [go_sem, q1, q2, q3, q5, q7]
        by_cases hk16 : k < 16
        · have hk' := eq_true (show (k : Int) < 16 by omega)
          have L := load_u64 d1 (o := k) (dn_get (rndL_get (show k < cs.length by omega)))
          have hd := r2 cs[k] (List.getElem_mem _)
          have e1 := w64_and255 (rndC cs k + cs[k]) (by omega)
          have e2 := w64_shr8 (rndC cs k + cs[k]) (by omega)
          simp (maxSteps := 10000000) (disch := omega) only [go_sem, q1, q2, q3, q5, q7, hk', Nat.zero_add, L, w64_add, e1]
          refine store_u64 d1 (by omega) (by rw [dn_length, rndL_length (by omega)]; omega) ?_
          intro H4 s1 s2 s3
          rw [dn_set, rndL_succ (by omega)] at s3
          simp (maxSteps := 10000000) (disch := omega) only [go_sem, q7, e2, wrap_i64]
          refine ⟨m2 - 1, by omega, k + 1, by omega, by simp (maxSteps := 10000000) (disch := omega) only [go_sem, q1], by simp (maxSteps := 10000000) (disch := omega) only [go_sem, q2], by simp (maxSteps := 10000000) (disch := omega) only [go_sem]; rw [rndC_succ (by omega)], by simp (maxSteps := 10000000) (disch := omega) only [go_sem, q5], by simp (maxSteps := 10000000) (disch := omega) only [go_sem]; push_cast; rfl, s3, ⟨us, u1, by rw [s2 _ (by omega)]; exact u2⟩, by omega⟩
        · have hk' := eq_false (show ¬ (k : Int) < 16 by omega)
          have hkk : k = 16 := by omega
          subst hkk
          obtain ⟨g1, g2⟩ := rnd130_end r1
          have gl : (rndL cs 16).length = 17 := by rw [rndL_length (by omega), r1]
          have hd := r2 cs[16] (List.getElem_mem _)
          have L := load_u64 d1 (o := 16) (dn_get (rndL_get (show 16 < cs.length by omega)))
          have e1 := w64_and3 (rndC cs 16 + cs[16]) (by omega)
          have e2 := w64_shr2 (rndC cs 16 + cs[16]) (by omega)
          simp (maxSteps := 10000000) (disch := omega) only [go_sem, q1, q2, q3, q5, q7, hk', Nat.zero_add, L, w64_add, e1]
          refine store_u64 d1 (by omega) (by rw [dn_length, gl]; omega) ?_
          intro H4 s1 s2 s3
          rw [dn_set] at s3
          have L2 := load_u64 s3 (o := 0) (dn_get g2)
          have e5 : (5#64 : BitVec 64) = w64 5 := rfl
          simp (maxSteps := 10000000) (disch := omega) only [go_sem, q1, q2, q3, q5, q7, Nat.zero_add, L2, e2]
          rw [e5, w64_mul, w64_add]
          refine store_u64 s3 (by omega) (by rw [dn_length, List.length_set, gl]; omega) ?_
          intro H5 s4 s5 s6
          rw [dn_set, g1] at s6
          simp (maxSteps := 10000000) (disch := omega) only [go_sem, q1, q2, q3, q5, q7, wrap_i64]
          exact ⟨m - 1, by omega, i + 1, by omega, by simp (maxSteps := 10000000) (disch := omega) only [go_sem, q1], by simp (maxSteps := 10000000) (disch := omega) only [go_sem, q2], by simp (maxSteps := 10000000) (disch := omega) only [go_sem]; push_cast; rfl, by rw [rndN, ← hcs]; exact s6, ⟨us, u1, by rw [s5 _ (by omega), s2 _ (by omega)]; exact u2⟩, by omega⟩
      · exact ⟨0, by omega, by simp (maxSteps := 10000000) (disch := omega) only [go_sem, q1], by simp (maxSteps := 10000000) (disch := omega) only [go_sem, q2], by simp (maxSteps := 10000000) (disch := omega) only [go_sem]; rw [rndC_zero]; rfl, by simp (maxSteps := 10000000) (disch := omega) only [go_sem, q5], by simp (maxSteps := 10000000) (disch := omega) only [go_sem], by rw [rndL_zero]; exact d1, ⟨us, u1, u2⟩, hz⟩
    · have hlt' := eq_false (show ¬ (i : Int) < 3 by omega)
      have hii : i = 3 := by omega
      subst hii
      have er : rndN ds 3 = digs (car (val 256 ds)) := rnd_three (show val 256 ds < 2 ^ 190 by omega)
      rw [er] at d1
      have L := load_aw (t := 120) d1 (by rw [dn_length, digs_length]; exact kind_120)
      simp (maxSteps := 10000000) (disch := omega) only [go_sem, q1, q2, q5, hlt', L]
      refine store_aw u2 (by rw [dn_length, digs_length]; exact sz_120) (by rw [dn_length, digs_length]; exact u1) (by omega) ?_
      intro H3 s1 s2 s3
      simp (maxSteps := 10000000) (disch := omega) only [go_sem, q2, cell_aw s3 (t := 120) (by rw [dn_length, digs_length]; exact kind_120)]
  · exact ⟨0, by omega, by simp (maxSteps := 10000000) (disch := omega) only [go_sem], by simp (maxSteps := 10000000) (disch := omega) only [go_sem], by simp (maxSteps := 10000000) (disch := omega) only [go_sem], b1, ⟨_, by simp, b2⟩, by omega⟩

/-! ### Products -/
structure TM (xs ys : List Nat) (i2 i3 i4 i5 : Nat) (H0 : Heap) (a : AAct) (H : Heap) (t : List Nat) : Prop where
  a2 : a 2 = .pointer (some ⟨i2, 0, none⟩)
  a3 : a 3 = .pointer (some ⟨i3, 0, none⟩)
  a4 : a 4 = .pointer (some ⟨i4, 0, none⟩)
  a5 : a 5 = .pointer (some ⟨i5, 0, none⟩)
  b2 : H[i2]? = some (.cells ((dn xs).map u64) true false)
  b3 : H[i3]? = some (.cells ((dn ys).map u64) true false)
  b4 : ∃ us : List Value, us.length = 17 ∧ H[i4]? = some (.cells us true false)
  b5 : H[i5]? = some (.cells ((dn t).map u64) true false)
  size : H0.size ≤ H.size
theorem TM.act {xs ys : List Nat} {i2 i3 i4 i5 : Nat} {H0 : Heap} {a b : AAct} {H : Heap} {t : List Nat} (h : TM xs ys i2 i3 i4 i5 H0 a H t) (e2 : b 2 = a 2) (e3 : b 3 = a 3) (e4 : b 4 = a 4) (e5 : b 5 = a 5) : TM xs ys i2 i3 i4 i5 H0 b H t :=
  ⟨by rw [e2, h.a2], by rw [e3, h.a3], by rw [e4, h.a4], by rw [e5, h.a5], h.b2, h.b3, h.b4, h.b5, h.size⟩
def tmOut (xs ys : List Nat) (i2 i3 i4 i5 : Nat) (H0 : Heap) (m : Nat) (a : AAct) (H : Heap) : Prop :=
  ∃ (i : Nat) (t : List Nat), i + m = 17 ∧ a 8 = .int .i64 (i : Nat) ∧ TI xs ys i 0 t ∧ TM xs ys i2 i3 i4 i5 H0 a H t
def tmIn (xs ys : List Nat) (i2 i3 i4 i5 : Nat) (H0 : Heap) (i : Nat) (m : Nat) (a : AAct) (H : Heap) : Prop :=
  ∃ (j : Nat) (t : List Nat), j + m = 17 ∧ a 8 = .int .i64 (i : Nat) ∧ a 6 = .int .i64 (i : Nat) ∧ a 11 = .int .i64 (j : Nat) ∧ TI xs ys i j t ∧ TM xs ys i2 i3 i4 i5 H0 a H t

theorem getD_some' {l : List Nat} {k : Nat} (h : k < l.length) : l[k]? = some (l.getD k 0) := by
  rw [List.getD_eq_getElem?_getD, List.getElem?_eq_getElem h]; rfl

set_option maxRecDepth 20000 in
set_option maxHeartbeats 4000000 in
theorem times_fun {xs ys : List Nat} (hx : xs.length = 17) (hy : ys.length = 17) (hx2 : ∀ d ∈ xs, d ≤ 255) (hy2 : ∀ d ∈ ys, d ≤ 255) (H : Heap) : Fun Try.prog 115 [aw (dn xs), aw (dn ys)] H (fun r H' => ∃ W, W < 2 ^ 130 ∧ W % PP = (val 256 xs * val 256 ys) % PP ∧ r = aw (dn (digs W))) := by
  refine fun_of Try.func115 rfl (by decide +kernel) (Nat.le_of_ble_eq_true rfl) ?_
  unfold Try.f115
  simp (maxSteps := 10000000) (disch := omega) only [go_sem, box_aw]
  have n1 : (H.push (.cells ((dn xs).map u64) true false)).size = H.size + 1 := by simp
  have n2 : ((H.push (.cells ((dn xs).map u64) true false)).push (.cells ((dn ys).map u64) true false)).size = H.size + 2 := by simp
  have n3 : (((H.push (.cells ((dn xs).map u64) true false)).push (.cells ((dn ys).map u64) true false)).push (.cells (List.replicate 17 (u64 0)) true false)).size = H.size + 3 := by simp
  rw [n1, n2, n3]
  obtain ⟨H1, hH1⟩ : ∃ H1, H1 = (((H.push (.cells ((dn xs).map u64) true false)).push (.cells ((dn ys).map u64) true false)).push (.cells (List.replicate 17 (u64 0)) true false)).push (.cells (List.replicate 17 (u64 0)) true false) := ⟨_, rfl⟩
  have z1 : H1.size = H.size + 4 := by rw [hH1]; simp
  have c2 : H1[H.size]? = some (.cells ((dn xs).map u64) true false) := by rw [hH1]; exact keep_push (keep_push (keep_push get_push_new))
  have c3 : H1[H.size + 1]? = some (.cells ((dn ys).map u64) true false) := by rw [hH1, ← n1]; exact keep_push (keep_push get_push_new)
  have c4 : H1[H.size + 2]? = some (.cells (List.replicate 17 (u64 0)) true false) := by rw [hH1, ← n2]; exact keep_push get_push_new
  have c5 : H1[H.size + 3]? = some (.cells (List.replicate 17 (u64 0)) true false) := by rw [hH1, ← n3]; exact get_push_new
  rw [← hH1]
  refine wp_loop (tmOut xs ys H.size (H.size + 1) (H.size + 2) (H.size + 3) H) ?_ 17 ?_
  · rintro m a H2 ⟨i, t, hi, h8, hT, R⟩
    have q2 := R.a2
    have q3 := R.a3
    have q4 := R.a4
    have q5 := R.a5
    simp (maxSteps := 10000000) (disch := omega) only [go_sem, h8, q2, q3, q4, q5]
    by_cases hlt : i < 17
    · have hlt' := eq_true (show (i : Int) < 17 by omega)
      simp (maxSteps := 10000000) (disch := omega) only [go_sem, h8, q2, q3, q4, q5, hlt']
      refine wp_loop (tmIn xs ys H.size (H.size + 1) (H.size + 2) (H.size + 3) H i) ?_ 17 ?_
      · rintro m2 a H3 ⟨j, t, hj, h8, h6, h11, hT, R⟩
        have q2 := R.a2
        have q3 := R.a3
        have q4 := R.a4
        have q5 := R.a5
        have hlen := hT.len
        have hsz := R.size
        simp (maxSteps := 10000000) (disch := omega) only [go_sem, h8, h6, h11, q2, q3, q4, q5]
        by_cases hj17 : j < 17
        · have hj' := eq_true (show (j : Int) < 17 by omega)
          have L2 := load_u64 R.b2 (o := i) (dn_get (getD_some' (show i < xs.length by omega)))
          have L3 := load_u64 R.b3 (o := j) (dn_get (getD_some' (show j < ys.length by omega)))
          obtain ⟨st1, st2⟩ := hT.step hx hy hx2 hy2 hlt hj17
          obtain ⟨us, u1, u2⟩ := R.b4
          simp (maxSteps := 10000000) (disch := omega) only [go_sem, h8, h6, h11, q2, q3, q4, q5, hj', wrap_i64]
          by_cases hs : i + j < 17
          · have hs' := eq_true (show (i : Int) + (j : Int) < 17 by omega)
            have hnat : ((i : Int) + (j : Int)).toNat = i + j := by omega
            have L5 := load_u64 R.b5 (o := i + j) (dn_get (getD_some' (show i + j < t.length by omega)))
            simp (maxSteps := 10000000) (disch := omega) only [go_sem, h8, h6, h11, q2, q3, q4, q5, hs']
            refine draw_of 14 (by kernel_rfl) ?_
            simp (maxSteps := 10000000) (disch := omega) only [go_sem, h8, h6, h11, q2, q3, q4, q5, wrap_i64, hnat, Nat.zero_add, L2, L3, L5, w64_mul, w64_add]
            refine store_u64 R.b5 (by omega) (by rw [dn_length]; omega) ?_
            intro H4 s1 s2 s3
            rw [dn_set] at s3
            simp (maxSteps := 10000000) (disch := omega) only [go_sem, h11, wrap_i64]
            exact ⟨m2 - 1, by omega, j + 1, _, by omega, by simp (maxSteps := 10000000) (disch := omega) only [go_sem, h8], by simp (maxSteps := 10000000) (disch := omega) only [go_sem, h6], by simp (maxSteps := 10000000) (disch := omega) only [go_sem]; push_cast; rfl, st1 hs, ⟨by simp (maxSteps := 10000000) (disch := omega) only [go_sem, q2], by simp (maxSteps := 10000000) (disch := omega) only [go_sem, q3], by simp (maxSteps := 10000000) (disch := omega) only [go_sem, q4], by simp (maxSteps := 10000000) (disch := omega) only [go_sem, q5], by rw [s2 _ (by omega)]; exact R.b2, by rw [s2 _ (by omega)]; exact R.b3, ⟨us, u1, by rw [s2 _ (by omega)]; exact u2⟩, s3, by omega⟩⟩
          · have hs' := eq_false (show ¬ (i : Int) + (j : Int) < 17 by omega)
            have hnat : ((i : Int) + (j : Int) - 17).toNat = i + j - 17 := by omega
            have L5 := load_u64 R.b5 (o := i + j - 17) (dn_get (getD_some' (show i + j - 17 < t.length by omega)))
            have e320 : (320#64 : BitVec 64) = w64 320 := rfl
            simp (maxSteps := 10000000) (disch := omega) only [go_sem, h8, h6, h11, q2, q3, q4, q5, hs']
            refine draw_of 16 (by kernel_rfl) ?_
            simp (maxSteps := 10000000) (disch := omega) only [go_sem, h8, h6, h11, q2, q3, q4, q5, wrap_i64, hnat, Nat.zero_add, L2, L3, L5, w64_mul, w64_add, e320]
            refine store_u64 R.b5 (by omega) (by rw [dn_length]; omega) ?_
            intro H4 s1 s2 s3
            rw [dn_set] at s3
            simp (maxSteps := 10000000) (disch := omega) only [go_sem, h11, wrap_i64]
            exact ⟨m2 - 1, by omega, j + 1, _, by omega, by simp (maxSteps := 10000000) (disch := omega) only [go_sem, h8], by simp (maxSteps := 10000000) (disch := omega) only [go_sem, h6], by simp (maxSteps := 10000000) (disch := omega) only [go_sem]; push_cast; rfl, st2 hs, ⟨by simp (maxSteps := 10000000) (disch := omega) only [go_sem, q2], by simp (maxSteps := 10000000) (disch := omega) only [go_sem, q3], by simp (maxSteps := 10000000) (disch := omega) only [go_sem, q4], by simp (maxSteps := 10000000) (disch := omega) only [go_sem, q5], by rw [s2 _ (by omega)]; exact R.b2, by rw [s2 _ (by omega)]; exact R.b3, ⟨us, u1, by rw [s2 _ (by omega)]; exact u2⟩, s3, by omega⟩⟩
        · have hj' := eq_false (show ¬ (j : Int) < 17 by omega)
          have hjj : j = 17 := by omega
          subst hjj
          simp (maxSteps := 10000000) (disch := omega) only [go_sem, h8, h6, h11, q2, q3, q4, q5, hj', wrap_i64]
          exact ⟨m - 1, by omega, i + 1, t, by omega, by simp (maxSteps := 10000000) (disch := omega) only [go_sem]; push_cast; rfl, hT.turn hx hy hlt, R.act (by simp (maxSteps := 10000000) (disch := omega) only [go_sem]) (by simp (maxSteps := 10000000) (disch := omega) only [go_sem]) (by simp (maxSteps := 10000000) (disch := omega) only [go_sem]) (by simp (maxSteps := 10000000) (disch := omega) only [go_sem])⟩
      · exact ⟨0, t, by omega, by simp (maxSteps := 10000000) (disch := omega) only [go_sem, h8], by simp (maxSteps := 10000000) (disch := omega) only [go_sem], by simp (maxSteps := 10000000) (disch := omega) only [go_sem], hT, R.act (by simp (maxSteps := 10000000) (disch := omega) only [go_sem]) (by simp (maxSteps := 10000000) (disch := omega) only [go_sem]) (by simp (maxSteps := 10000000) (disch := omega) only [go_sem]) (by simp (maxSteps := 10000000) (disch := omega) only [go_sem])⟩
    · have hlt' := eq_false (show ¬ (i : Int) < 17 by omega)
      have hii : i = 17 := by omega
      subst hii
      obtain ⟨t1, t2, t3⟩ := hT.end hx
      have hlen := hT.len
      obtain ⟨us, u1, u2⟩ := R.b4
      have hsz := R.size
      have L := load_aw (t := 120) R.b5 (by rw [dn_length, hlen]; exact kind_120)
      simp (maxSteps := 10000000) (disch := omega) only [go_sem, h8, q2, q3, q4, q5, hlt', L]
      refine (carry_fun hlen (fun d hd => by have := t3 d hd; omega) t2 _).call hsz ?_
      rintro _ H4 g1 g2 rfl
      simp (maxSteps := 10000000) (disch := omega) only [go_sem, q4]
      refine store_aw (show H4[H.size + 2]? = _ by rw [g2 _ (get_lt u2)]; exact u2) (by rw [dn_length, digs_length]; exact sz_120) (by rw [dn_length, digs_length]; exact u1) (by omega) ?_
      intro H5 s1 s2 s3
      simp (maxSteps := 10000000) (disch := omega) only [go_sem, q4, cell_aw s3 (t := 120) (by rw [dn_length, digs_length]; exact kind_120)]
      exact ⟨_, car_lt (by omega), by rw [car_mod, t1], rfl⟩
  · exact ⟨0, List.replicate 17 0, by omega, by simp (maxSteps := 10000000) (disch := omega) only [go_sem], TI.zero _ _, by simp (maxSteps := 10000000) (disch := omega) only [go_sem], by simp (maxSteps := 10000000) (disch := omega) only [go_sem], by simp (maxSteps := 10000000) (disch := omega) only [go_sem], by simp (maxSteps := 10000000) (disch := omega) only [go_sem], c2, c3, ⟨_, by simp, c4⟩, c5, by omega⟩

/-! ### The least number -/
def whInv (cs : List Nat) (W : Nat) (i1 i2 i3 : Nat) (H0 : Heap) (m : Nat) (a : AAct) (H : Heap) : Prop :=
  ∃ k : Nat, k + m = 17 ∧ a 1 = .pointer (some ⟨i1, 0, none⟩) ∧ a 2 = .pointer (some ⟨i2, 0, none⟩) ∧ a 3 = .pointer (some ⟨i3, 0, none⟩) ∧ a 4 = u64 (w64 (rndC cs k)) ∧ a 14 = .int .i64 (k : Nat) ∧
    H[i1]? = some (.cells ((dn (digs W)).map u64) true false) ∧ (∃ us : List Value, us.length = 17 ∧ H[i2]? = some (.cells us true false)) ∧ H[i3]? = some (.cells ((dn (rndL cs k)).map u64) true false) ∧ H0.size ≤ H.size

theorem digs_head (W : Nat) : (digs W)[0]? = some (W % 256) := by
  rw [List.getElem?_eq_getElem (by rw [digs_length]; omega), digs_zero_get]
theorem more_digs {W : Nat} (hW : W < 2 ^ 130) : val 256 ((digs W).set 0 (W % 256 + 5)) = W + 5 := by
  have h := val_set 256 (digs W) 0 (W % 256 + 5) (by rw [digs_length]; omega)
  rw [digs_zero_get, val_digs, Nat.mod_eq_of_lt hW] at h
  simp only [Nat.pow_zero, Nat.mul_one] at h
  omega
theorem lowD_17 {V : Nat} (h : V / 256 ^ 16 % 256 % 4 = V / 256 ^ 16 % 4) : (lowD V 17).set 16 (V / 256 ^ 16 % 256 % 4) = digs V := by
  rw [lowD_succ, h, digs, List.set_append_right _ _ (by rw [lowD_length]; omega), lowD_length]
  rfl

theorem digs_less (X Y : Nat) (h : X = Y + 2 ^ 130) : digs X = digs Y := by
  have h1 : lowD X 16 = lowD Y 16 := by
    refine List.map_congr_left fun i hi => ?_
    rw [List.mem_range] at hi
    have e : X = Y + 256 ^ i * (256 * (256 ^ (15 - i) * 4)) := by
      have e1 : (256 : Nat) ^ i * (256 * (256 ^ (15 - i) * 4)) = (256 ^ i * 256 ^ (15 - i)) * 1024 := by
        rw [Nat.mul_left_comm, Nat.mul_comm 256, ← Nat.mul_assoc, Nat.mul_assoc (256 ^ i * 256 ^ (15 - i))]
      have e2 : (256 : Nat) ^ i * 256 ^ (15 - i) = 256 ^ 15 := by rw [← Nat.pow_add]; congr 1; omega
      have e3 : (256 : Nat) ^ 15 * 1024 = 2 ^ 130 := by decide
      rw [e1, e2, e3]
      exact h
    rw [e, Nat.add_mul_div_left _ _ (pow256_pos i), Nat.add_mul_mod_self_left]
  have h2 : X / 256 ^ 16 % 4 = Y / 256 ^ 16 % 4 := by omega
  rw [digs, digs, h1, h2]

set_option maxRecDepth 20000 in
set_option maxHeartbeats 4000000 in
theorem whole_fun {ds : List Nat} (hl : ds.length = 17) (hm : ∀ d ∈ ds, d ≤ 2 ^ 54) (hv : val 256 ds < 2 ^ 180) (H : Heap) : Fun Try.prog 117 [aw (dn ds)] H (fun r H' => r = aw (dn (digs (val 256 ds % PP)))) := by
  obtain ⟨W, hW⟩ : ∃ W, W = car (car (val 256 ds)) := ⟨_, rfl⟩
  have hc := car_lt (V := val 256 ds) (by omega)
  have hWl : W < 2 ^ 130 := by rw [hW]; exact car_lt (by omega)
  have hWm : W % PP = val 256 ds % PP := by rw [hW, car_mod, car_mod]
  obtain ⟨l1, l2⟩ := least_of hWl
  have hd := digs_lt W
  obtain ⟨cs, hcs⟩ : ∃ cs, cs = (digs W).set 0 (W % 256 + 5) := ⟨_, rfl⟩
  have hcl : cs.length = 17 := by rw [hcs, List.length_set, digs_length]
  have hcv : val 256 cs = W + 5 := by rw [hcs]; exact more_digs hWl
  have hcd : ∀ d ∈ cs, d ≤ 260 := fun d hd2 => by
    rw [hcs] at hd2
    rcases List.mem_or_eq_of_mem_set hd2 with h | rfl
    · have := hd d h; omega
    · omega
  refine fun_of Try.func117 rfl (by decide +kernel) (Nat.le_of_ble_eq_true rfl) ?_
  unfold Try.f117
  simp (maxSteps := 10000000) (disch := omega) only [go_sem, box_aw]
  obtain ⟨H1, hH1⟩ : ∃ H1, H1 = (H.push (.cells ((dn ds).map u64) true false)).push (.cells (List.replicate 17 (u64 0)) true false) := ⟨_, rfl⟩
  have z1 : H1.size = H.size + 2 := by rw [hH1]; simp
  have n1 : (H.push (.cells ((dn ds).map u64) true false)).size = H.size + 1 := by simp
  have b1 : H1[H.size]? = some (.cells ((dn ds).map u64) true false) := by rw [hH1]; exact keep_push get_push_new
  have b2 : H1[H.size + 1]? = some (.cells (List.replicate 17 (u64 0)) true false) := by rw [hH1, ← n1]; exact get_push_new
  rw [n1, ← hH1]
  have L := load_aw (t := 120) b1 (by rw [dn_length, hl]; exact kind_120)
  simp (maxSteps := 10000000) (disch := omega) only [go_sem, L]
  refine (carry_fun hl hm hv _).call (by omega) ?_
  rintro _ H2 g1 g2 rfl
  simp (maxSteps := 10000000) (disch := omega) only [go_sem]
  have vd : val 256 (digs (car (val 256 ds))) = car (val 256 ds) := by rw [val_digs, Nat.mod_eq_of_lt hc]
  refine (carry_fun (digs_length _) (fun d hd => by have := digs_lt _ d hd; omega) (by rw [vd]; omega) _).call (by omega) ?_
  rintro _ H3 g3 g4 rfl
  have o3 : ∀ j, j < H1.size → H3[j]? = H1[j]? := fun j hj => by rw [g4 j (by omega), g2 j hj]
  rw [vd, ← hW]
  simp (maxSteps := 10000000) (disch := omega) only [go_sem]
  refine store_aw (show H3[H.size]? = _ by rw [o3 _ (by omega)]; exact b1) (by rw [dn_length, digs_length]; exact sz_120) (by simp [dn_length, digs_length, hl]) (Nat.le_refl _) ?_
  intro H4 s1 s2 s3
  have L4 := load_aw (t := 120) s3 (by rw [dn_length, digs_length]; exact kind_120)
  simp (maxSteps := 10000000) (disch := omega) only [go_sem, L4]
  refine store_aw get_push_new (by rw [dn_length, digs_length]; exact sz_120) (by simp [dn_length, digs_length]) (by omega) ?_
  intro H5 s4 s5 s6
  have o5 : ∀ j, j < H4.size → H5[j]? = H4[j]? := fun j hj => by rw [s5 j (by omega), get_push_old (by omega)]
  have L5 := load_u64 s6 (o := 0) (dn_get (digs_head W))
  have e5 : (5#64 : BitVec 64) = w64 5 := rfl
  simp (maxSteps := 10000000) (disch := omega) only [go_sem, Nat.zero_add, L5, e5, w64_add]
  refine store_u64 s6 (by omega) (by rw [dn_length, digs_length]; omega) ?_
  intro H6 s7 s8 s9
  rw [dn_set, ← hcs] at s9
  have z4 : H.size + 2 ≤ H4.size := by omega
  have z6 : H6.size = H4.size + 1 := by rw [s7, s4]; simp
  have c1 : H6[H.size]? = some (.cells ((dn (digs W)).map u64) true false) := by rw [s8 _ (by omega), o5 _ (by omega)]; exact s3
  have c2 : H6[H.size + 1]? = some (.cells (List.replicate 17 (u64 0)) true false) := by rw [s8 _ (by omega), o5 _ (by omega), s2 _ (by omega), o3 _ (by omega)]; exact b2
  simp (maxSteps := 10000000) (disch := omega) only [go_sem]
  refine wp_loop (whInv cs W H.size (H.size + 1) H4.size H) ?_ 17 ?_
  · rintro m a H7 ⟨k, hk, q1, q2, q3, q4, q14, d1, ⟨us, u1, u2⟩, d3, hz⟩
    have hcl2 := rndC_le hcd k
    simp (maxSteps := 10000000) (disch := omega) only [go_sem, q1, q2, q3, q4, q14]
    by_cases hk17 : k < 17
    · have hk' := eq_true (show (k : Int) < 17 by omega)
      have L := load_u64 d3 (o := k) (dn_get (rndL_get (show k < cs.length by omega)))
      have hd := hcd cs[k] (List.getElem_mem _)
      have e1 := w64_and255 (rndC cs k + cs[k]) (by omega)
      have e2 := w64_shr8 (rndC cs k + cs[k]) (by omega)
      simp (maxSteps := 10000000) (disch := omega) only [go_sem, q1, q2, q3, q4, q14, hk', Nat.zero_add, L, w64_add, e1]
      refine store_u64 d3 (by omega) (by rw [dn_length, rndL_length (by omega)]; omega) ?_
      intro H8 s1 s2 s3
      rw [dn_set, rndL_succ (by omega)] at s3
      simp (maxSteps := 10000000) (disch := omega) only [go_sem, q14, e2, wrap_i64]
      exact ⟨m - 1, by omega, k + 1, by omega, by simp (maxSteps := 10000000) (disch := omega) only [go_sem, q1], by simp (maxSteps := 10000000) (disch := omega) only [go_sem, q2], by simp (maxSteps := 10000000) (disch := omega) only [go_sem, q3], by simp (maxSteps := 10000000) (disch := omega) only [go_sem]; rw [rndC_succ (by omega)], by simp (maxSteps := 10000000) (disch := omega) only [go_sem]; push_cast; rfl, by rw [s2 _ (by omega)]; exact d1, ⟨us, u1, by rw [s2 _ (by omega)]; exact u2⟩, s3, by omega⟩
    · have hk' := eq_false (show ¬ (k : Int) < 17 by omega)
      have hkk : k = 17 := by omega
      subst hkk
      have er : rndL cs 17 = lowD (W + 5) 17 := by rw [rndL, hcv, List.drop_eq_nil_of_le (by omega), List.append_nil]
      rw [er] at d3
      have eg : (lowD (W + 5) 17)[16]? = some ((W + 5) / 256 ^ 16 % 256) := by simp [lowD]
      have L := load_u64 d3 (o := 16) (dn_get eg)
      have et := w64_toNat ((W + 5) / 256 ^ 16 % 256) (by omega)
      have e4 : (4#64 : BitVec 64).toNat = 4 := rfl
      simp (maxSteps := 10000000) (disch := omega) only [go_sem, q1, q2, q3, q4, q14, hk', Nat.zero_add, L, et, e4]
      by_cases hg : 2 ^ 130 ≤ W + 5
      · have hg' := eq_true (show 4 ≤ (W + 5) / 256 ^ 16 % 256 by omega)
        have e1 := w64_and3 ((W + 5) / 256 ^ 16 % 256) (by omega)
        simp (maxSteps := 10000000) (disch := omega) only [go_sem, q1, q2, q3, q4, hg', Nat.zero_add, L, e1]
        refine store_u64 d3 (by omega) (by rw [dn_length, lowD_length]; omega) ?_
        intro H8 s1 s2 s3
        rw [dn_set, lowD_17 (by omega)] at s3
        have ed : digs (W + 5) = digs (val 256 ds % PP) := by
          rw [← hWm, ← l2 hg]
          exact digs_less _ _ (by omega)
        rw [ed] at s3
        have L8 := load_aw (t := 120) s3 (by rw [dn_length, digs_length]; exact kind_120)
        simp (maxSteps := 10000000) (disch := omega) only [go_sem, q2, q3, L8]
        refine store_aw (show H8[H.size + 1]? = _ by rw [s2 _ (by omega)]; exact u2) (by rw [dn_length, digs_length]; exact sz_120) (by rw [dn_length, digs_length]; exact u1) (by omega) ?_
        intro H9 s4 s5 s6
        simp (maxSteps := 10000000) (disch := omega) only [go_sem, q2, cell_aw s6 (t := 120) (by rw [dn_length, digs_length]; exact kind_120)]
      · have hg' := eq_false (show ¬ 4 ≤ (W + 5) / 256 ^ 16 % 256 by omega)
        have L8 := load_aw (t := 120) d1 (by rw [dn_length, digs_length]; exact kind_120)
        simp (maxSteps := 10000000) (disch := omega) only [go_sem, q1, q2, hg', L8]
        refine store_aw u2 (by rw [dn_length, digs_length]; exact sz_120) (by rw [dn_length, digs_length]; exact u1) (by omega) ?_
        intro H9 s4 s5 s6
        simp (maxSteps := 10000000) (disch := omega) only [go_sem, q2, cell_aw s6 (t := 120) (by rw [dn_length, digs_length]; exact kind_120)]
        have eW : W % PP = W := (l1 (by omega)).symm
        rw [← hWm, eW]
  · exact ⟨0, by omega, by simp (maxSteps := 10000000) (disch := omega) only [go_sem], by simp (maxSteps := 10000000) (disch := omega) only [go_sem], by simp (maxSteps := 10000000) (disch := omega) only [go_sem], by simp (maxSteps := 10000000) (disch := omega) only [go_sem]; rw [rndC_zero]; rfl, by simp (maxSteps := 10000000) (disch := omega) only [go_sem], c1, ⟨_, by simp, c2⟩, by rw [rndL_zero]; exact s9, by omega⟩

end Go.Proofs.Ytcapjjmikapmfaa.M
