/- Poly1305: products of numbers. -/
import Derived.Test.YtcapjjmikapmfaaPc
set_option linter.unusedVariables false
set_option linter.unusedSimpArgs false
namespace Go.Proofs.Ytcapjjmikapmfaa.M
open Go Go.Proofs

theorem mul_step {W Wk x r o c n c' V V' T : Nat} (h1 : n + W * c' = x * r + o + c) (h2 : V' + o * Wk = V + n * Wk) (h3 : V + Wk * c = T) : V' + Wk * W * c' = T + x * r * Wk := by
  have h4 : Wk * (n + W * c') = Wk * (x * r + o + c) := by rw [h1]
  rw [Nat.mul_add, Nat.mul_add, Nat.mul_add, ← Nat.mul_assoc] at h4
  rw [Nat.mul_comm (x * r) Wk]
  rw [Nat.mul_comm o, Nat.mul_comm n] at h2
  generalize Wk * W * c' = t1 at *
  generalize Wk * n = t2 at *
  generalize Wk * (x * r) = t3 at *
  generalize Wk * o = t4 at *
  generalize Wk * c = t5 at *
  omega

structure MP (rs : List (BitVec 64)) (H0 : Heap) (i3 i4 i5 : Nat) (i : Nat) (a : AAct) (H : Heap) (out : List (BitVec 64)) : Prop where
  a3 : a 3 = .pointer (some ⟨i3, 0, none⟩)
  a4 : a 4 = .pointer (some ⟨i4, 0, none⟩)
  a5 : a 5 = .pointer (some ⟨i5, 0, none⟩)
  b3 : H[i3]? = some (.cells (rs.map u64) true false)
  b4 : ∃ us : List Value, us.length = 4 ∧ H[i4]? = some (.cells us true false)
  b5 : H[i5]? = some (.cells (out.map u64) true false)
  len : out.length = 4
  zero : ∀ j, i + 2 ≤ j → j < 4 → out[j]? = some 0#64
  size : H0.size ≤ H.size
theorem MP.act {rs : List (BitVec 64)} {H0 : Heap} {i3 i4 i5 i : Nat} {a b : AAct} {H : Heap} {out : List (BitVec 64)} (h : MP rs H0 i3 i4 i5 i a H out) (e3 : b 3 = a 3) (e4 : b 4 = a 4) (e5 : b 5 = a 5) : MP rs H0 i3 i4 i5 i b H out :=
  ⟨by rw [e3, h.a3], by rw [e4, h.a4], by rw [e5, h.a5], h.b3, h.b4, h.b5, h.len, h.zero, h.size⟩
def mpOut (xs rs : List (BitVec 64)) (H0 : Heap) (i3 i4 i5 : Nat) (m : Nat) (a : AAct) (H : Heap) : Prop :=
  ∃ (i : Nat) (out : List (BitVec 64)), i + m = 3 ∧ a 14 = aw xs ∧ a 15 = .int .i64 (i : Nat) ∧ MP rs H0 i3 i4 i5 i a H out ∧ vw out = vw (xs.take i) * vw rs
def mpIn (xs rs : List (BitVec 64)) (H0 : Heap) (i3 i4 i5 : Nat) (i : Nat) (x : BitVec 64) (m : Nat) (a : AAct) (H : Heap) : Prop :=
  ∃ (j : Nat) (c : BitVec 64) (out : List (BitVec 64)), j + m = 2 ∧ a 14 = aw xs ∧ a 15 = .int .i64 (i : Nat) ∧ a 6 = .int .i64 (i : Nat) ∧ a 7 = u64 x ∧ a 8 = u64 c ∧ a 19 = aw rs ∧ a 20 = .int .i64 (j : Nat) ∧ MP rs H0 i3 i4 i5 i a H out ∧
    vw out + (2 ^ 64) ^ (i + j) * c.toNat = vw (xs.take i) * vw rs + x.toNat * (2 ^ 64) ^ i * vw (rs.take j)

theorem word_mul (x y o c hi lo l2 d1 h2 n d2 h3 : Nat) (hx : x < 2 ^ 64) (hy : y < 2 ^ 64) (ho : o < 2 ^ 64) (hc : c < 2 ^ 64) (e1 : 2 ^ 64 * hi + lo = x * y) (e2 : l2 + 2 ^ 64 * d1 = lo + o) (e3 : h2 = (hi + d1) % 2 ^ 64) (e4 : n + 2 ^ 64 * d2 = l2 + c) (e5 : h3 = (h2 + d2) % 2 ^ 64) :
    n + 2 ^ 64 * h3 = x * y + o + c := by
  have hxy : x * y ≤ 18446744073709551615 * 18446744073709551615 := Nat.mul_le_mul (by omega) (by omega)
  omega

set_option maxRecDepth 20000 in
set_option maxHeartbeats 4000000 in
theorem product_fun {xs rs : List (BitVec 64)} (hx : xs.length = 3) (hr : rs.length = 2) (hlt : vw xs * vw rs < 2 ^ 256) (H : Heap) : Fun Try.prog 113 [aw xs, aw rs] H (fun r H' => ∃ out, out.length = 4 ∧ r = aw out ∧ vw out = vw xs * vw rs) := by
  refine fun_of Try.func113 rfl (by decide +kernel) (Nat.le_of_ble_eq_true rfl) ?_
  unfold Try.f113
  simp (maxSteps := 10000000) (disch := omega) only [go_sem, box_aw]
  have n1 : (H.push (.cells (xs.map u64) true false)).size = H.size + 1 := by simp
  have n2 : ((H.push (.cells (xs.map u64) true false)).push (.cells (rs.map u64) true false)).size = H.size + 2 := by simp
  have n3 : (((H.push (.cells (xs.map u64) true false)).push (.cells (rs.map u64) true false)).push (.cells (List.replicate 4 (u64 0)) true false)).size = H.size + 3 := by simp
  rw [n1, n2, n3, rep_u64]
  rw [rep_u64] at n3
  obtain ⟨H1, hH1⟩ : ∃ H1, H1 = (((H.push (.cells (xs.map u64) true false)).push (.cells (rs.map u64) true false)).push (.cells ((List.replicate 4 0#64).map u64) true false)).push (.cells ((List.replicate 4 0#64).map u64) true false) := ⟨_, rfl⟩
  have z1 : H1.size = H.size + 4 := by rw [hH1]; simp
  have c2 : H1[H.size]? = some (.cells (xs.map u64) true false) := by rw [hH1]; exact keep_push (keep_push (keep_push get_push_new))
  have c3 : H1[H.size + 1]? = some (.cells (rs.map u64) true false) := by rw [hH1, ← n1]; exact keep_push (keep_push get_push_new)
  have c4 : H1[H.size + 2]? = some (.cells ((List.replicate 4 0#64).map u64) true false) := by rw [hH1, ← n2]; exact keep_push get_push_new
  have c5 : H1[H.size + 3]? = some (.cells ((List.replicate 4 0#64).map u64) true false) := by rw [hH1, ← n3]; exact get_push_new
  rw [← hH1]
  have L2 := load_aw (t := 114) c2 (by rw [hx]; exact kind_114)
  simp (maxSteps := 10000000) (disch := omega) only [go_sem, L2]
  refine wp_loop (mpOut xs rs H (H.size + 1) (H.size + 2) (H.size + 3)) ?_ 3 ?_
  · rintro m a H2 ⟨i, out, hi, h14, h15, R, hv⟩
    have q3 := R.a3
    have q4 := R.a4
    have q5 := R.a5
    simp (maxSteps := 10000000) (disch := omega) only [go_sem, h14, h15, q3, q4, q5]
    by_cases hi3 : i < 3
    · have hi3' := eq_true (show (i : Int) < 3 by omega)
      have hix := ix_aw (t := 114) Try.underlying114 hi3 (List.getElem?_eq_getElem (show i < xs.length by omega))
      have L3 := load_aw (t := 112) R.b3 (by rw [hr]; exact kind_112)
      simp (maxSteps := 10000000) (disch := omega) only [go_sem, h14, h15, q3, q4, q5, hi3', hix, L3]
      refine wp_loop (mpIn xs rs H (H.size + 1) (H.size + 2) (H.size + 3) i xs[i]) ?_ 2 ?_
      · rintro m2 a H3 ⟨j, c, out, hj, h14, h15, h6, h7, h8, h19, h20, R, hv⟩
        have q3 := R.a3
        have q4 := R.a4
        have q5 := R.a5
        have hlen := R.len
        simp (maxSteps := 10000000) (disch := omega) only [go_sem, h14, h15, h6, h7, h8, h19, h20, q3, q4, q5]
        by_cases hj2 : j < 2
        · have hj2' := eq_true (show (j : Int) < 2 by omega)
          have hix := ix_aw (t := 112) Try.underlying112 hj2 (List.getElem?_eq_getElem (show j < rs.length by omega))
          have hno := eq_false (show ¬ (3 : Int) < (i : Int) + (j : Int) by omega)
          have hnat : ((i : Int) + (j : Int)).toNat = i + j := by omega
          have L5 := load_u64 R.b5 (o := i + j) (List.getElem?_eq_getElem (show i + j < out.length by omega))
          simp (maxSteps := 10000000) (disch := omega) only [go_sem, h14, h15, h6, h7, h8, h19, h20, q3, q4, q5, hj2', hix, wrap_i64, hno]
          refine (mul64_fun _ _ _).call R.size ?_
          rintro _ H4 _ _ ⟨rfl, hi', lo, rfl, e1⟩
          simp (maxSteps := 10000000) (disch := omega) only [go_sem, h14, h15, h6, h7, h8, h19, h20, q3, q4, q5, wrap_i64, hnat, Nat.zero_add, L5]
          refine add64_call _ _ _ (by decide) ?_
          intro l2 d1 e2 e2'
          simp (maxSteps := 10000000) (disch := omega) only [go_sem, h14, h15, h6, h7, h8, h19, h20, q3, q4, q5, wrap_i64, hnat, Nat.zero_add]
          refine add64_call _ _ _ (by decide) ?_
          intro n d2 e4 e4'
          simp (maxSteps := 10000000) (disch := omega) only [go_sem, h14, h15, h6, h7, h8, h19, h20, q3, q4, q5, wrap_i64, hnat, Nat.zero_add]
          refine store_u64 R.b5 (by omega) (by omega) ?_
          intro H5 s1 s2 s3
          simp (maxSteps := 10000000) (disch := omega) only [go_sem, h14, h15, h6, h7, h8, h19, h20, q3, q4, q5, wrap_i64]
          have z0 : (0#64 : BitVec 64).toNat = 0 := rfl
          rw [z0, Nat.add_zero] at e2 e4
          have key := word_mul _ _ _ _ _ _ _ _ _ _ _ _ xs[i].isLt rs[j].isLt out[i + j].isLt c.isLt e1 e2 (BitVec.toNat_add hi' d1) e4 (BitVec.toNat_add (hi' + d1) d2)
          have hset := vw_set out (i + j) n (by omega)
          have pk : (2 ^ 64) ^ (i + (j + 1)) = (2 ^ 64) ^ (i + j) * 2 ^ 64 := by rw [← Nat.add_assoc]; exact Nat.pow_succ ..
          obtain ⟨us, u1, u2⟩ := R.b4
          refine ⟨m2 - 1, by omega, j + 1, hi' + d1 + d2, _, by omega, by simp (maxSteps := 10000000) (disch := omega) only [go_sem, h14], by simp (maxSteps := 10000000) (disch := omega) only [go_sem, h15], by simp (maxSteps := 10000000) (disch := omega) only [go_sem, h6], by simp (maxSteps := 10000000) (disch := omega) only [go_sem, h7], by simp (maxSteps := 10000000) (disch := omega) only [go_sem], by simp (maxSteps := 10000000) (disch := omega) only [go_sem, h19], by simp (maxSteps := 10000000) (disch := omega) only [go_sem]; push_cast; rfl,
            ⟨by simp (maxSteps := 10000000) (disch := omega) only [go_sem, q3], by simp (maxSteps := 10000000) (disch := omega) only [go_sem, q4], by simp (maxSteps := 10000000) (disch := omega) only [go_sem, q5], by rw [s2 _ (by omega)]; exact R.b3, ⟨us, u1, by rw [s2 _ (by omega)]; exact u2⟩, s3, by simp [hlen], fun q hq1 hq2 => ?_, by have := R.size; omega⟩, ?_⟩
          · rw [List.getElem?_set_ne (by omega)]; exact R.zero q hq1 hq2
          · have hm := mul_step key hset hv
            rw [pk, hm, vw_take_succ _ _ (by omega), Nat.mul_add, Nat.add_assoc, Nat.pow_add]
            congr 2
            simp only [Nat.mul_assoc, Nat.mul_left_comm]
        · have hj2' := eq_false (show ¬ (j : Int) < 2 by omega)
          have hjj : j = 2 := by omega
          subst hjj
          rw [List.take_of_length_le (Nat.le_of_eq hr)] at hv
          simp (maxSteps := 10000000) (disch := omega) only [go_sem, h14, h15, h6, h7, h8, h19, h20, q3, q4, q5, hj2', wrap_i64]
          by_cases hlast : i + 2 < 4
          · have hlast' := eq_true (show (i : Int) + 2 < 4 by omega)
            have hnat : ((i : Int) + 2).toNat = i + 2 := by omega
            simp (maxSteps := 10000000) (disch := omega) only [go_sem, h14, h15, h6, h7, h8, h19, h20, q3, q4, q5, hlast', wrap_i64, hnat, Nat.zero_add]
            refine store_u64 R.b5 (by omega) (by omega) ?_
            intro H5 s1 s2 s3
            simp (maxSteps := 10000000) (disch := omega) only [go_sem, h15, wrap_i64]
            have hset := vw_set out (i + 2) c (by omega)
            have hz : out[i + 2] = 0#64 := by
              have := R.zero (i + 2) (Nat.le_refl _) hlast
              rw [List.getElem?_eq_getElem (by omega)] at this
              exact Option.some.inj this
            obtain ⟨us, u1, u2⟩ := R.b4
            refine ⟨m - 1, by omega, i + 1, _, by omega, by simp (maxSteps := 10000000) (disch := omega) only [go_sem, h14], by simp (maxSteps := 10000000) (disch := omega) only [go_sem]; push_cast; rfl,
              ⟨by simp (maxSteps := 10000000) (disch := omega) only [go_sem, q3], by simp (maxSteps := 10000000) (disch := omega) only [go_sem, q4], by simp (maxSteps := 10000000) (disch := omega) only [go_sem, q5], by rw [s2 _ (by omega)]; exact R.b3, ⟨us, u1, by rw [s2 _ (by omega)]; exact u2⟩, s3, by simp [hlen], fun q hq1 hq2 => ?_, by have := R.size; omega⟩, ?_⟩
            · rw [List.getElem?_set_ne (by omega)]; exact R.zero q (by omega) hq2
            · have z0 : (0#64 : BitVec 64).toNat = 0 := rfl
              rw [hz, z0, Nat.zero_mul, Nat.add_zero, Nat.mul_comm c.toNat, hv] at hset
              rw [hset, vw_take_succ _ _ (by omega), Nat.add_mul]
          · have hlast' := eq_false (show ¬ (i : Int) + 2 < 4 by omega)
            have hii : i = 2 := by omega
            simp (maxSteps := 10000000) (disch := omega) only [go_sem, h15, hlast', wrap_i64]
            have hc : c.toNat = 0 := by
              have e3 : vw (xs.take i) * vw rs + xs[i].toNat * (2 ^ 64) ^ i * vw rs = vw xs * vw rs := by
                rw [← Nat.add_mul, ← vw_take_succ _ _ (by omega), List.take_of_length_le (by omega)]
              have e4 : ((2 : Nat) ^ 64) ^ (i + 2) = 2 ^ 256 := by rw [hii]
              rw [e3, e4] at hv
              omega
            refine ⟨m - 1, by omega, i + 1, _, by omega, by simp (maxSteps := 10000000) (disch := omega) only [go_sem, h14], by simp (maxSteps := 10000000) (disch := omega) only [go_sem]; push_cast; rfl,
              ⟨by simp (maxSteps := 10000000) (disch := omega) only [go_sem, q3], by simp (maxSteps := 10000000) (disch := omega) only [go_sem, q4], by simp (maxSteps := 10000000) (disch := omega) only [go_sem, q5], R.b3, R.b4, R.b5, hlen, fun q hq1 hq2 => R.zero q (by omega) hq2, R.size⟩, ?_⟩
            rw [hc, Nat.mul_zero, Nat.add_zero] at hv
            rw [hv, vw_take_succ _ _ (by omega), Nat.add_mul]
      · exact ⟨0, 0#64, out, by omega, by simp (maxSteps := 10000000) (disch := omega) only [go_sem, h14], by simp (maxSteps := 10000000) (disch := omega) only [go_sem, h15], by simp (maxSteps := 10000000) (disch := omega) only [go_sem], by simp (maxSteps := 10000000) (disch := omega) only [go_sem], by simp (maxSteps := 10000000) (disch := omega) only [go_sem], by simp (maxSteps := 10000000) (disch := omega) only [go_sem], by simp (maxSteps := 10000000) (disch := omega) only [go_sem], R.act (by simp (maxSteps := 10000000) (disch := omega) only [go_sem]) (by simp (maxSteps := 10000000) (disch := omega) only [go_sem]) (by simp (maxSteps := 10000000) (disch := omega) only [go_sem]), by
          have z0 : (0#64 : BitVec 64).toNat = 0 := rfl
          rw [hv, z0, List.take_zero, vw_nil, Nat.mul_zero, Nat.mul_zero]⟩
    · have hi3' := eq_false (show ¬ (i : Int) < 3 by omega)
      have hii : i = 3 := by omega
      subst hii
      rw [List.take_of_length_le (Nat.le_of_eq hx)] at hv
      obtain ⟨us, u1, u2⟩ := R.b4
      have hlen := R.len
      have L := load_aw (t := 116) R.b5 (by rw [hlen]; exact kind_116)
      simp (maxSteps := 10000000) (disch := omega) only [go_sem, h14, h15, q3, q4, q5, hi3', L]
      refine store_aw u2 (by rw [hlen]; exact sz_116) (by omega) (by omega) ?_
      intro H3 s1 s2 s3
      simp (maxSteps := 10000000) (disch := omega) only [go_sem, q4, cell_aw s3 (t := 116) (by rw [hlen]; exact kind_116)]
      exact ⟨out, hlen, rfl, hv⟩
  · refine ⟨0, List.replicate 4 0#64, by omega, by simp (maxSteps := 10000000) (disch := omega) only [go_sem], by simp (maxSteps := 10000000) (disch := omega) only [go_sem], ⟨by simp (maxSteps := 10000000) (disch := omega) only [go_sem], by simp (maxSteps := 10000000) (disch := omega) only [go_sem], by simp (maxSteps := 10000000) (disch := omega) only [go_sem], c3, ⟨_, by simp, c4⟩, c5, by simp, fun j h1 h2 => (by rw [List.getElem?_replicate, if_pos h2]), by omega⟩, by simp [vw, val]⟩

theorem vw3 {xs : List (BitVec 64)} (h : xs.length = 3) : ∃ a b c, xs = [a, b, c] ∧ vw xs = a.toNat + 2 ^ 64 * b.toNat + 2 ^ 128 * c.toNat := by
  match xs, h with
  | [a, b, c], _ =>
    refine ⟨a, b, c, rfl, ?_⟩
    simp only [vw, val, List.map_cons, List.map_nil]
    omega
theorem vw4 {xs : List (BitVec 64)} (h : xs.length = 4) : ∃ a b c d, xs = [a, b, c, d] ∧ vw xs = a.toNat + 2 ^ 64 * b.toNat + 2 ^ 128 * c.toNat + 2 ^ 192 * d.toNat := by
  match xs, h with
  | [a, b, c, d], _ =>
    refine ⟨a, b, c, d, rfl, ?_⟩
    simp only [vw, val, List.map_cons, List.map_nil]
    omega
theorem vw_3 (a b c : BitVec 64) : vw [a, b, c] = a.toNat + 2 ^ 64 * b.toNat + 2 ^ 128 * c.toNat := by
  simp only [vw, val, List.map_cons, List.map_nil]
  omega

theorem build_114 (a b c : BitVec 64) : buildA Try.prog 114 [(0, u64 a), (1, u64 b), (2, u64 c)] = some (aw [a, b, c]) := by kernel_rfl
theorem build_114b (a b : BitVec 64) : buildA Try.prog 114 [(0, u64 a), (1, u64 b)] = some (aw [a, b, 0#64]) := by kernel_rfl
theorem build_114a (a : BitVec 64) : buildA Try.prog 114 [(0, u64 a)] = some (aw [a, 0#64, 0#64]) := by kernel_rfl
theorem build_112 (a b : BitVec 64) : buildA Try.prog 112 [(0, u64 a), (1, u64 b)] = some (aw [a, b]) := by kernel_rfl
attribute [go_sem] build_114 build_114b build_114a build_112

theorem and3 (x : BitVec 64) : (x &&& 3#64).toNat = x.toNat % 4 := by
  rw [BitVec.toNat_and]
  exact Nat.and_two_pow_sub_one_eq_mod x.toNat 2
theorem andNot3 (x : BitVec 64) : (x &&& ~~~3#64).toNat = 4 * (x.toNat / 4) := by
  have key : ∀ i (h : i < 64), (~~~3#64 : BitVec 64)[i] = decide (2 ≤ i) := by decide
  have h : x &&& ~~~3#64 = (x >>> 2) <<< 2 := by
    apply BitVec.eq_of_getElem_eq
    intro i hi
    rw [BitVec.getElem_and, key i hi, BitVec.getElem_shiftLeft]
    by_cases h2 : 2 ≤ i
    · have e : 2 + (i - 2) = i := by omega
      have h3 : ¬ i < 2 := by omega
      simp [h2, h3, e]
      rw [BitVec.getLsbD_eq_getElem]
    · have h3 : i < 2 := by omega
      simp [h2, h3]
  rw [h, BitVec.toNat_shiftLeft, BitVec.toNat_ushiftRight, Nat.shiftLeft_eq, Nat.shiftRight_eq_div_pow]
  have := x.isLt
  omega
theorem shr2 (x : BitVec 64) : (x >>> (2#64).toNat).toNat = x.toNat / 4 := by
  rw [BitVec.toNat_ushiftRight, Nat.shiftRight_eq_div_pow]; rfl
theorem or62 (x y : BitVec 64) : (x >>> (2#64).toNat ||| y <<< (62#64).toNat).toNat = x.toNat / 4 + 2 ^ 62 * (y.toNat % 4) := by
  have h1 : (y <<< (62#64).toNat).toNat = 2 ^ 62 * (y.toNat % 4) := by
    rw [BitVec.toNat_shiftLeft, Nat.shiftLeft_eq]
    have e : (62#64 : BitVec 64).toNat = 62 := rfl
    rw [e]
    omega
  have hx := x.isLt
  rw [BitVec.toNat_or, shr2, h1, Nat.or_comm, ← Nat.two_pow_add_eq_or_of_lt (by omega)]
  omega

set_option maxRecDepth 20000 in
set_option maxHeartbeats 4000000 in
theorem folded_fun {ps : List (BitVec 64)} (hp : ps.length = 4) (H : Heap) : Fun Try.prog 110 [aw ps] H (fun r H' => ∃ zs, zs.length = 3 ∧ r = aw zs ∧ vw zs = (vw ps % 2 ^ 130 + 4 * (vw ps / 2 ^ 130) + vw ps / 2 ^ 130) % 2 ^ 192) := by
  obtain ⟨p0, p1, p2, p3, e, hv⟩ := vw4 hp
  obtain ⟨c1, hc1⟩ : ∃ b : Blk, b = .cells (ps.map u64) true false := ⟨_, rfl⟩
  refine fun_of Try.func110 rfl (by decide +kernel) (Nat.le_of_ble_eq_true rfl) ?_
  unfold Try.f110
  simp (maxSteps := 10000000) (disch := omega) only [go_sem, box_aw]
  obtain ⟨H1, hH1⟩ : ∃ H1, H1 = (H.push (.cells (ps.map u64) true false)).push (.cells (List.replicate 3 (u64 0)) true false) := ⟨_, rfl⟩
  have z1 : H1.size = H.size + 2 := by rw [hH1]; simp
  have n1 : (H.push (.cells (ps.map u64) true false)).size = H.size + 1 := by simp
  have b1 : H1[H.size]? = some (.cells (ps.map u64) true false) := by rw [hH1]; exact keep_push get_push_new
  have b2 : H1[H.size + 1]? = some (.cells (List.replicate 3 (u64 0)) true false) := by rw [hH1, ← n1]; exact get_push_new
  rw [n1, ← hH1]
  have L0 := load_u64 b1 (o := 0) (x := p0) (by rw [e]; rfl)
  have L1 := load_u64 b1 (o := 1) (x := p1) (by rw [e]; rfl)
  have L2 := load_u64 b1 (o := 2) (x := p2) (by rw [e]; rfl)
  simp (maxSteps := 10000000) (disch := omega) only [go_sem, L0, L1, L2]
  refine store_aw (ws := [p0, p1, p2 &&& 3#64]) get_push_new sz_114 (by simp) (by omega) ?_
  intro H2 s1 s2 s3
  have y2 : H2.size = H.size + 3 := by rw [s1]; simp; omega
  rw [z1] at s2 s3
  have o2 : ∀ j, j < H.size + 2 → H2[j]? = H1[j]? := fun j hj => by rw [s2 j (by omega), get_push_old (by omega)]
  have b21 : H2[H.size]? = some (.cells (ps.map u64) true false) := by rw [o2 _ (by omega)]; exact b1
  have L22 := load_u64 b21 (o := 2) (x := p2) (by rw [e]; rfl)
  have L23 := load_u64 b21 (o := 3) (x := p3) (by rw [e]; rfl)
  simp (maxSteps := 10000000) (disch := omega) only [go_sem, z1, L22, L23]
  refine store_aw (ws := [p2 &&& ~~~3#64, p3, 0#64]) get_push_new sz_114 (by simp) (by omega) ?_
  intro H3 s4 s5 s6
  have y3 : H3.size = H.size + 4 := by rw [s4]; simp; omega
  rw [y2] at s5 s6
  have o3 : ∀ j, j < H.size + 3 → H3[j]? = H2[j]? := fun j hj => by rw [s5 j (by omega), get_push_old (by omega)]
  have b31 : H3[H.size]? = some (.cells (ps.map u64) true false) := by rw [o3 _ (by omega)]; exact b21
  have L32 := load_u64 b31 (o := 2) (x := p2) (by rw [e]; rfl)
  have L33 := load_u64 b31 (o := 3) (x := p3) (by rw [e]; rfl)
  simp (maxSteps := 10000000) (disch := omega) only [go_sem, y2, L32, L33]
  refine store_aw (ws := [p2 >>> (2#64).toNat ||| p3 <<< (62#64).toNat, p3 >>> (2#64).toNat, 0#64]) get_push_new sz_114 (by simp) (by omega) ?_
  intro H4 s7 s8 s9
  have y4 : H4.size = H.size + 5 := by rw [s7]; simp; omega
  rw [y3] at s8 s9
  have o4 : ∀ j, j < H.size + 4 → H4[j]? = H3[j]? := fun j hj => by rw [s8 j (by omega), get_push_old (by omega)]
  have M3 := load_aw (t := 114) (show H4[H.size + 2]? = _ by rw [o4 _ (by omega), o3 _ (by omega)]; exact s3) (ws := [p0, p1, p2 &&& 3#64]) kind_114
  have M4 := load_aw (t := 114) (show H4[H.size + 3]? = _ by rw [o4 _ (by omega)]; exact s6) (ws := [p2 &&& ~~~3#64, p3, 0#64]) kind_114
  have c2 : H4[H.size + 1]? = some (.cells (List.replicate 3 (u64 0)) true false) := by rw [o4 _ (by omega), o3 _ (by omega), o2 _ (by omega)]; exact b2
  simp (maxSteps := 10000000) (disch := omega) only [go_sem, y3]
  have M5 := load_aw (t := 114) s9 (ws := [p2 >>> (2#64).toNat ||| p3 <<< (62#64).toNat, p3 >>> (2#64).toNat, 0#64]) kind_114
  refine draw_of 5 (by kernel_rfl) ?_
  simp (maxSteps := 10000000) (disch := omega) only [go_sem, M3, M4, M5]
  refine (add_fun3 (xs := [p0, p1, p2 &&& 3#64]) (ys := [p2 &&& ~~~3#64, p3, 0#64]) rfl rfl _).call (Nat.le_refl _) ?_
  rintro _ H5 g1 g2 ⟨zs, hz, rfl, hzv⟩
  have M6 := load_aw (t := 114) (show H5[H.size + 4]? = _ by rw [g2 _ (by omega)]; exact s9) (ws := [p2 >>> (2#64).toNat ||| p3 <<< (62#64).toNat, p3 >>> (2#64).toNat, 0#64]) kind_114
  simp (maxSteps := 10000000) (disch := omega) only [go_sem, M6]
  refine (add_fun3 hz (ys := [p2 >>> (2#64).toNat ||| p3 <<< (62#64).toNat, p3 >>> (2#64).toNat, 0#64]) rfl _).call (Nat.le_refl _) ?_
  rintro _ H6 g3 g4 ⟨ys, hy, rfl, hyv⟩
  have c6 : H6[H.size + 1]? = some (.cells (List.replicate 3 (u64 0)) true false) := by rw [g4 _ (by omega), g2 _ (by omega)]; exact c2
  simp (maxSteps := 10000000) (disch := omega) only [go_sem]
  refine store_aw c6 (by rw [hy]; exact sz_114) (by simp [hy]) (by omega) ?_
  intro H7 s10 s11 s12
  simp (maxSteps := 10000000) (disch := omega) only [go_sem, cell_aw s12 (t := 114) (by rw [hy]; exact kind_114)]
  refine ⟨ys, hy, rfl, ?_⟩
  have z0 : (0#64 : BitVec 64).toNat = 0 := rfl
  have h0 := p0.isLt
  have h1 := p1.isLt
  have h2 := p2.isLt
  have h3 := p3.isLt
  rw [hyv, hzv, vw_3, vw_3, vw_3, and3, andNot3, or62, shr2, z0]
  have hq : vw ps / 2 ^ 130 = p2.toNat / 4 + 2 ^ 62 * p3.toNat := by rw [hv]; omega
  have hr : vw ps % 2 ^ 130 = p0.toNat + 2 ^ 64 * p1.toNat + 2 ^ 128 * (p2.toNat % 4) := by rw [hv]; omega
  have e1 : 4 * (p2.toNat / 4) + 2 ^ 64 * p3.toNat + 2 ^ 128 * 0 = 4 * (vw ps / 2 ^ 130) := by rw [hq]; omega
  have e2 : p2.toNat / 4 + 2 ^ 62 * (p3.toNat % 4) + 2 ^ 64 * (p3.toNat / 4) + 2 ^ 128 * 0 = vw ps / 2 ^ 130 := by rw [hq]; omega
  rw [e1, e2, ← hr, Nat.mod_add_mod]

set_option maxRecDepth 20000 in
set_option maxHeartbeats 4000000 in
theorem reduced_fun {xs : List (BitVec 64)} (hx : xs.length = 3) (hb : vw xs < 2 ^ 130 + 5 * 2 ^ 126) (H : Heap) : Fun Try.prog 114 [aw xs] H (fun r H' => ∃ zs, zs.length = 3 ∧ r = aw zs ∧ vw zs = vw xs % PP) := by
  obtain ⟨l1, l2⟩ := least_of2 hb
  refine fun_of Try.func114 rfl (by decide +kernel) (Nat.le_of_ble_eq_true rfl) ?_
  unfold Try.f114
  simp (maxSteps := 10000000) (disch := omega) only [go_sem, box_aw]
  obtain ⟨H1, hH1⟩ : ∃ H1, H1 = (H.push (.cells (xs.map u64) true false)).push (.cells (List.replicate 3 (u64 0)) true false) := ⟨_, rfl⟩
  have z1 : H1.size = H.size + 2 := by rw [hH1]; simp
  have n1 : (H.push (.cells (xs.map u64) true false)).size = H.size + 1 := by simp
  have b1 : H1[H.size]? = some (.cells (xs.map u64) true false) := by rw [hH1]; exact keep_push get_push_new
  have b2 : H1[H.size + 1]? = some (.cells (List.replicate 3 (u64 0)) true false) := by rw [hH1, ← n1]; exact get_push_new
  rw [n1, ← hH1]
  have L := load_aw (t := 114) b1 (by rw [hx]; exact kind_114)
  simp (maxSteps := 10000000) (disch := omega) only [go_sem, L]
  refine (add_fun3 hx (ys := [5#64, 0#64, 0#64]) rfl _).call (by omega) ?_
  rintro _ H2 g1 g2 ⟨zs, hz, rfl, hzv⟩
  simp (maxSteps := 10000000) (disch := omega) only [go_sem]
  refine store_aw get_push_new (by rw [hz]; exact sz_114) (by simp [hz]) (by omega) ?_
  intro H3 s1 s2 s3
  have o3 : ∀ j, j < H1.size → H3[j]? = H1[j]? := fun j hj => by rw [s2 j (by omega), get_push_old (by omega), g2 j hj]
  obtain ⟨p0, p1, p2, e, hv⟩ := vw3 hz
  have h0 := p0.isLt
  have h1 := p1.isLt
  have h2 := p2.isLt
  have z0 : (0#64 : BitVec 64).toNat = 0 := rfl
  have z5 : (5#64 : BitVec 64).toNat = 5 := rfl
  rw [vw_3, z0, z5] at hzv
  have L2 := load_u64 s3 (o := 2) (x := p2) (by rw [e]; rfl)
  simp (maxSteps := 10000000) (disch := omega) only [go_sem, L2, shr2]
  by_cases hg : 2 ^ 130 ≤ vw xs + 5
  · have hg' := eq_true (show (0 : Nat) < p2.toNat / 4 by omega)
    simp (maxSteps := 10000000) (disch := omega) only [go_sem, hg', L2, z0]
    refine store_u64 s3 (by omega) (by omega) ?_
    intro H4 s4 s5 s6
    have L4 := load_aw (t := 114) s6 (by simp [hz]; exact kind_114)
    simp (maxSteps := 10000000) (disch := omega) only [go_sem, L4]
    refine store_aw (show H4[H.size + 1]? = _ by rw [s5 _ (by omega), o3 _ (by omega)]; exact b2) (by simp [hz]; exact sz_114) (by simp [hz]) (by omega) ?_
    intro H5 s7 s8 s9
    simp (maxSteps := 10000000) (disch := omega) only [go_sem, cell_aw s9 (t := 114) (by simp [hz]; exact kind_114)]
    refine ⟨_, by simp [hz], rfl, ?_⟩
    rw [← l2 hg, e]
    show vw [p0, p1, p2 &&& 3#64] = _
    rw [vw_3, and3]
    omega
  · have hg' := eq_false (show ¬ (0 : Nat) < p2.toNat / 4 by omega)
    have L4 := load_aw (t := 114) (show H3[H.size]? = _ by rw [o3 _ (by omega)]; exact b1) (by rw [hx]; exact kind_114)
    simp (maxSteps := 10000000) (disch := omega) only [go_sem, hg', L4, z0]
    refine store_aw (show H3[H.size + 1]? = _ by rw [o3 _ (by omega)]; exact b2) (by rw [hx]; exact sz_114) (by simp [hx]) (by omega) ?_
    intro H5 s7 s8 s9
    simp (maxSteps := 10000000) (disch := omega) only [go_sem, cell_aw s9 (t := 114) (by rw [hx]; exact kind_114)]
    exact ⟨xs, hx, rfl, l1 (by omega)⟩

end Go.Proofs.Ytcapjjmikapmfaa.M
