/- Poly1305: the tag of the program. -/
import Derived.Test.YtcapjjmikapmfaaPd
import Derived.Test.YtcapjjmikapmfaaXd
set_option linter.unusedVariables false
set_option linter.unusedSimpArgs false
namespace Go.Proofs.Ytcapjjmikapmfaa.M
open Go Go.Proofs

theorem leN_take (xs : List (BitVec 8)) (k : Nat) (h : k ≤ xs.length) : leN xs = leN (xs.take k) + 256 ^ k * leN (xs.drop k) := by
  have := leN_append (xs.take k) (xs.drop k)
  rw [List.take_append_drop, List.length_take, Nat.min_eq_left h] at this
  exact this
theorem leN_take' (xs : List (BitVec 8)) (k : Nat) : leN xs = leN (xs.take k) + 256 ^ k * leN (xs.drop k) := by
  by_cases h : k ≤ xs.length
  · exact leN_take xs k h
  · rw [List.take_of_length_le (by omega), List.drop_eq_nil_of_le (by omega), leN_nil]; omega
theorem le24 (xs : List (BitVec 8)) (h : xs.length ≤ 24) : leN xs = leN ((xs.drop 0).take 8) + 2 ^ 64 * leN ((xs.drop 8).take 8) + 2 ^ 128 * leN ((xs.drop 16).take 8) := by
  have h1 := leN_take' xs 8
  have h2 := leN_take' (xs.drop 8) 8
  rw [List.drop_drop, show (8 + 8 : Nat) = 16 from rfl] at h2
  have h3 : (xs.drop 16).take 8 = xs.drop 16 := List.take_of_length_le (by simp; omega)
  rw [List.drop_zero, h3, h1, h2]
  have e : (256 : Nat) ^ 8 = 2 ^ 64 := by decide
  rw [e]
  omega
theorem le16 (xs : List (BitVec 8)) (h : xs.length ≤ 16) : leN xs = leN (xs.take 8) + 2 ^ 64 * leN (xs.drop 8) := by
  have e : (256 : Nat) ^ 8 = 2 ^ 64 := by decide
  rw [← e]
  exact leN_take' xs 8

set_option maxRecDepth 20000 in
theorem of_fun {v : Value} {xs : List (BitVec 8)} {H : Heap} (hv : Sl H v xs) (hl : xs.length ≤ 16) : Fun Try.prog 112 [v] H (fun r H' => ∃ zs, zs.length = 3 ∧ r = aw zs ∧ vw zs = leN (xs ++ [1#8])) := by
  refine fun_of Try.func112 rfl (by decide +kernel) (Nat.le_of_ble_eq_true rfl) ?_
  unfold Try.f112
  simp (maxSteps := 10000000) (disch := omega) only [go_sem]
  obtain ⟨H1, hH1⟩ : ∃ H1, H1 = H.push (.cells (List.replicate 3 (u64 0)) true false) := ⟨_, rfl⟩
  have z1 : H1.size = H.size + 1 := by rw [hH1]; simp
  have b2 : H1[H.size]? = some (.cells (List.replicate 3 (u64 0)) true false) := by rw [hH1]; exact get_push_new
  have o1 : ∀ j, j < H.size → H1[j]? = H[j]? := fun j hj => by rw [hH1, get_push_old hj]
  rw [← hH1]
  refine (clone_fun (hv.keep_old2 o1) (by omega)).call (by omega) ?_
  intro c H2 a1 a2 a3
  simp (maxSteps := 10000000) (disch := omega) only [go_sem]
  refine append_bytes (OV.push a3 _) (sl_one H2 _) (show H.size ≤ H1.size by omega) (by simp; omega) (by simp; omega) ?_
  intro w H3 c1 c2 c3 c4 c5
  have hw := c4.sl
  have z3 : H2.size ≤ H3.size := by simp at c1; omega
  simp (maxSteps := 10000000) (disch := omega) only [go_sem]
  refine (low64_fun hw (by simp; omega) 0).call (by omega) ?_
  simp (maxSteps := 10000000) (disch := omega) only [go_sem]
  refine (low64_fun hw (by simp; omega) 8).call (by omega) ?_
  simp (maxSteps := 10000000) (disch := omega) only [go_sem]
  refine (low64_fun hw (by simp; omega) 16).call (by omega) ?_
  have k3 : H3[H.size]? = some (.cells (List.replicate 3 (u64 0)) true false) := by
    rw [c3 _ (by simp; omega) (fun e => by have := (a3.in e).1; omega), get_push_old (by omega), a2 _ (by omega)]; exact b2
  simp (maxSteps := 10000000) (disch := omega) only [go_sem]
  refine store_aw k3 sz_114 (by simp) (by omega) ?_
  intro H4 s1 s2 s3
  simp (maxSteps := 10000000) (disch := omega) only [go_sem, cell_aw (ws := [_, _, _]) s3 kind_114]
  refine ⟨_, rfl, rfl, ?_⟩
  have t0 : (lowAt (xs ++ [1#8]) 0 8).toNat = _ := lowAt_toNat (xs ++ [1#8]) 0 8 (by omega)
  have t8 : (lowAt (xs ++ [1#8]) 8 8).toNat = _ := lowAt_toNat (xs ++ [1#8]) 8 8 (by omega)
  have t16 : (lowAt (xs ++ [1#8]) 16 8).toNat = _ := lowAt_toNat (xs ++ [1#8]) 16 8 (by omega)
  rw [vw_3, t0, t8, t16, le24 (xs ++ [1#8]) (by simp; omega)]

theorem lowAt_and {xs ys : List (BitVec 8)} {mask : BitVec 64} {m : Nat → BitVec 8} (h : ∀ j, j < 8 → byteAt ys 0 j = byteAt xs 0 j &&& m j) (hm : ∀ i, i < 64 → mask.getLsbD i = (m (i / 8)).getLsbD (i % 8)) : lowAt xs 0 8 &&& mask = lowAt ys 0 8 := by
  apply BitVec.eq_of_getLsbD_eq
  intro i hi
  rw [BitVec.getLsbD_and, lowAt_bit xs 8 (by omega) i hi, lowAt_bit ys 8 (by omega) i hi, hm i hi, h _ (by omega), BitVec.getLsbD_and, Bool.and_assoc]
theorem lowAt_drop (xs : List (BitVec 8)) (k : Nat) (h : k ≤ xs.length) (n : Nat) : lowAt xs (k : Int) n = lowAt (xs.drop k) 0 n := by
  apply lowAt_congr
  intro j hj
  unfold byteAt
  have e1 : ((k : Int) + (j : Int)).toNat = k + j := by omega
  have e2 : ((0 : Int) + (j : Int)).toNat = j := by omega
  rw [e1, e2, List.getD_eq_getElem?_getD, List.getD_eq_getElem?_getD, List.getElem?_drop, List.length_drop]
  by_cases hh : k + j < xs.length
  · rw [if_pos ⟨by omega, by omega, by omega⟩, if_pos ⟨by omega, by omega, by omega⟩]
  · rw [if_neg (by omega), if_neg (by omega)]

theorem clamp_get (k : List (BitVec 8)) (j : Nat) (h : j < 16) : (clampL k)[j]'(by rw [clampL_length]; exact h) = k.getD j 0#8 &&& clampM j := by simp [clampL]
theorem clampLow (k : List (BitVec 8)) (hk : k.length = 32) : lowAt k 0 8 &&& 1152921487695413247#64 = lowAt ((clampL k).take 8) 0 8 := by
  refine lowAt_and (m := clampM) (fun j hj => ?_) (by decide)
  rw [byteAt_get (by simp [clampL_length]; omega), byteAt_get (by omega), List.getElem_take, clamp_get k j (by omega), List.getD_eq_getElem?_getD, List.getElem?_eq_getElem (by omega)]
  rfl
theorem clampHigh (k : List (BitVec 8)) (hk : k.length = 32) : lowAt k 8 8 &&& 1152921487695413244#64 = lowAt ((clampL k).drop 8) 0 8 := by
  have e : lowAt k 8 8 = lowAt (k.drop 8) 0 8 := lowAt_drop k 8 (by omega) 8
  rw [e]
  refine lowAt_and (m := fun j => clampM (8 + j)) (fun j hj => ?_) (by decide)
  rw [byteAt_get (by simp [clampL_length]; omega), byteAt_get (by simp; omega), List.getElem_drop, List.getElem_drop, clamp_get k (8 + j) (by omega), List.getD_eq_getElem?_getD, List.getElem?_eq_getElem (by omega)]
  rfl
theorem lowAt_all (xs : List (BitVec 8)) (h : xs.length ≤ 8) : (lowAt xs 0 8).toNat = leN xs := by
  have h1 : (lowAt xs 0 8).toNat = _ := lowAt_toNat xs 0 8 (by omega)
  rw [h1, List.drop_zero, List.take_of_length_le h]
theorem vw_2 (a b : BitVec 64) : vw [a, b] = a.toNat + 2 ^ 64 * b.toNat := by
  simp only [vw, val, List.map_cons, List.map_nil]
  omega
theorem polyR_vw (k : List (BitVec 8)) (hk : k.length = 32) : vw [lowAt k 0 8 &&& 1152921487695413247#64, lowAt k 8 8 &&& 1152921487695413244#64] = polyR k := by
  rw [vw_2, clampLow k hk, clampHigh k hk, lowAt_all _ (by simp [clampL_length]), lowAt_all _ (by simp [clampL_length]), polyR, le16 (clampL k) (by rw [clampL_length]; omega)]
theorem polyR_lt (k : List (BitVec 8)) : polyR k < 2 ^ 124 := by
  have h := leN_take' (clampL k) 15
  have h1 := leN_lt ((clampL k).take 15)
  have e1 : ((clampL k).take 15).length = 15 := by simp [clampL_length]
  rw [e1] at h1
  have e2 : (clampL k).drop 15 = [k.getD 15 0#8 &&& 15#8] := by
    rw [List.drop_eq_getElem_cons (by rw [clampL_length]; omega), List.drop_eq_nil_of_le (by rw [clampL_length]; omega), clamp_get k 15 (by omega)]
    rfl
  have h2 : (k.getD 15 0#8 &&& 15#8).toNat ≤ 15 := by
    rw [BitVec.toNat_and]
    exact Nat.and_le_right
  rw [e2, leN_one] at h
  have e3 : (256 : Nat) ^ 15 * 16 = 2 ^ 124 := by decide
  have e4 : (256 : Nat) ^ 15 = 1329227995784915872903807060280344576 := by decide
  unfold polyR
  omega
theorem polyS_vw (k : List (BitVec 8)) (hk : k.length = 32) : vw [lowAt k 16 8, lowAt k 24 8, 0#64] = polyS k := by
  have t0 : (lowAt k 16 8).toNat = _ := lowAt_toNat k 16 8 (by omega)
  have t8 : (lowAt k 24 8).toNat = _ := lowAt_toNat k 24 8 (by omega)
  have z0 : (0#64 : BitVec 64).toNat = 0 := rfl
  rw [vw_3, t0, t8, z0, polyS, le16 ((k.drop 16).take 16) (by simp; omega), List.take_take, List.drop_take, List.drop_drop]
  have e : min 8 16 = 8 := rfl
  rw [e, show 16 - 8 = 8 from rfl, show 16 + 8 = 24 from rfl]
  omega

theorem leB_words (a b c : BitVec 64) : lowBytes a 8 ++ lowBytes b 8 = leB 16 (vw [a, b, c]) := by
  have h1 := a.isLt
  have h2 := b.isLt
  have e8 : (256 : Nat) ^ 8 = 18446744073709551616 := by decide
  rw [show (16 : Nat) = 8 + 8 from rfl, leB_add, lowBytes_leB, lowBytes_leB, vw_3, e8]
  congr 1
  · apply leB_congr
    rw [e8]; omega
  · apply leB_congr
    rw [e8]; omega

def TagQ (H : Heap) (key b : List (BitVec 8)) (r : Value) (H' : Heap) : Prop :=
  (key.length = 32 → ∃ w, r = .tuple #[w, .int .i64 0] ∧ Ow H' H.size w (polyTag key b)) ∧ (¬ key.length = 32 → r = .tuple #[.slice none 0 0, .int .i64 1])

structure PI (H0 : Heap) (bv : Value) (key bs : List (BitVec 8)) (rs : List (BitVec 64)) (i p q l : Nat) (L : Blk) (j : Nat) (H : Heap) : Prop where
  loop : H[l]? = some L
  bp : H[p]? = some (.cells [bv] true false)
  bq : H[q]? = some (.cells [.int .i64 (16 : Nat)] true false)
  b6 : H[i]? = some (.cells (rs.map u64) true false)
  b7 : ∃ hs, hs.length = 3 ∧ H[i + 1]? = some (.cells (hs.map u64) true false) ∧ vw hs % PP = polyH (polyR key) bs j ∧ vw hs < 2 ^ 130 + 5 * 2 ^ 126
  size : H0.size ≤ H.size
  old : ∀ k, k < H0.size → H[k]? = H0[k]?

theorem polyH_step {hs : List (BitVec 64)} {key bs : List (BitVec 8)} {j : Nat} (h1 : vw hs % PP = polyH (polyR key) bs j) (h2 : vw hs < 2 ^ 130 + 5 * 2 ^ 126) {m s p f : Nat} (hm : m = leN (pchunk bs j ++ [1#8])) (hs' : s = (vw hs + m) % 2 ^ 192) (hp : p = s * polyR key) (hf : f = (p % 2 ^ 130 + 4 * (p / 2 ^ 130) + p / 2 ^ 130) % 2 ^ 192) :
    p < 2 ^ 256 ∧ f % PP = polyH (polyR key) bs (j + 1) ∧ f < 2 ^ 130 + 5 * 2 ^ 126 := by
  have hm2 : m < 2 ^ 129 := by rw [hm]; exact piece_lt bs j
  have hr := polyR_lt key
  have es : s = vw hs + m := by rw [hs']; omega
  have hs2 : s ≤ 2 ^ 132 := by omega
  have hp2 : p ≤ 2 ^ 132 * (2 ^ 124 - 1) := by
    rw [hp]
    exact Nat.mul_le_mul hs2 (by omega)
  have e2 : f = p % 2 ^ 130 + 4 * (p / 2 ^ 130) + p / 2 ^ 130 := by rw [hf]; omega
  refine ⟨by omega, ?_, by omega⟩
  rw [e2, fold_mod, hp, es, polyH, hm, ← h1, Nat.mul_mod, Nat.mul_mod ((vw hs % PP + leN (pchunk bs j ++ [1#8]))), Nat.mod_add_mod]

theorem pchunk_eq (bs : List (BitVec 8)) (j : Nat) : chunk 16 bs j = pchunk bs j := rfl

set_option maxRecDepth 20000 in
set_option maxHeartbeats 4000000 in
theorem tag_fun {kv bv : Value} {key bs : List (BitVec 8)} {H : Heap} (hk : Sl H kv key) (hb : Sl H bv bs) (hl : key.length ≤ 100000000000000) (hl2 : bs.length ≤ 100000000000000) : Fun Try.prog 85 [kv, bv] H (TagQ H key bs) := by
  refine fun_of Try.func85 rfl (by decide +kernel) (Nat.le_of_ble_eq_true rfl) ?_
  unfold Try.f85
  simp (maxSteps := 10000000) (disch := omega) only [go_sem, hk.len]
  by_cases h : key.length = 32
  · have h' := eq_true (show ((key.length : Nat) : Int) = 32 by omega)
    simp (maxSteps := 10000000) (disch := omega) only [go_sem, h']
    refine (low64_fun hk (by omega) 0).call (Nat.le_refl _) ?_
    simp (maxSteps := 10000000) (disch := omega) only [go_sem]
    refine (low64_fun hk (by omega) 8).call (Nat.le_refl _) ?_
    simp (maxSteps := 10000000) (disch := omega) only [go_sem]
    obtain ⟨rs, hrs⟩ : ∃ rs, rs = [lowAt key 0 8 &&& 1152921487695413247#64, lowAt key 8 8 &&& 1152921487695413244#64] := ⟨_, rfl⟩
    have hrl : rs.length = 2 := by rw [hrs]; rfl
    have hrv : vw rs = polyR key := by rw [hrs]; exact polyR_vw key h
    rw [← hrs]
    refine store_aw get_push_new (by rw [hrl]; exact sz_112) (by simp [hrl]) (Nat.le_refl _) ?_
    intro H1 s1 s2 s3
    have z1 : H1.size = H.size + 1 := by rw [s1]; simp
    have o1 : ∀ j, j < H.size → H1[j]? = H[j]? := fun j hj => by rw [s2 _ (by omega), get_push_old hj]
    simp (maxSteps := 10000000) (disch := omega) only [go_sem, z1]
    obtain ⟨H2, hH2⟩ : ∃ H2, H2 = H1.push (.cells ((List.replicate 3 0#64).map u64) true false) := ⟨_, rfl⟩
    rw [rep_u64, ← hH2]
    have z2 : H2.size = H.size + 2 := by rw [hH2]; simp [z1]
    have o2 : ∀ j, j < H1.size → H2[j]? = H1[j]? := fun j hj => by rw [hH2, get_push_old hj]
    have b6 : H2[H.size]? = some (.cells (rs.map u64) true false) := by rw [o2 _ (by omega)]; exact s3
    have b7 : H2[H.size + 1]? = some (.cells ((List.replicate 3 0#64).map u64) true false) := by rw [hH2, ← z1]; exact get_push_new
    have ho2 : ∀ j, j < H.size → H2[j]? = H[j]? := fun j hj => by rw [o2 j (by omega), o1 j hj]
    refine (chunk_fun (hb.keep_old2 ho2) 16 (by omega)).call (by omega) ?_
    rintro _ H5 a1 a2 ⟨p, q, rfl, hpq, hp1, hq1, hp2, hq2, bp, bq⟩
    simp (maxSteps := 10000000) (disch := omega) only [go_sem]
    refine wp_gen (fun b => b 0 = kv ∧ b 6 = .pointer (some ⟨H.size, 0, none⟩) ∧ b 7 = .pointer (some ⟨H.size + 1, 0, none⟩) ∧ b 20 = .func (.func 122) #[] #[.pointer (some ⟨p, 0, none⟩), .pointer (some ⟨q, 0, none⟩)]) ⟨by simp (maxSteps := 10000000) (disch := omega) only [go_sem], by simp (maxSteps := 10000000) (disch := omega) only [go_sem], by simp (maxSteps := 10000000) (disch := omega) only [go_sem], by simp (maxSteps := 10000000) (disch := omega) only [go_sem]⟩ ?_
    rintro A ⟨q0, q6, q7, q20⟩
    refine wp_range2 (g := .func 122) (cap := [.pointer (some ⟨p, 0, none⟩), .pointer (some ⟨q, 0, none⟩)]) q20 ?_
    intro AS BD hAS hBD
    refine chunk_iter (PI H bv key bs rs H.size p q H5.size (.loop 85 45 A [21] AS BD .ready)) (by omega) (by omega) hl2 (fun j H6 X => ⟨X.bp, X.bq, hb.keep_old2 X.old⟩) ?_ ?_ ?_
    · intro j H6 part X hlt hpart
      rw [pchunk_eq] at hpart
      obtain ⟨hs, hsl, c7, hsm, hsb⟩ := X.b7
      have ll := get_lt X.loop
      have lp := get_lt X.bp
      have lq := get_lt X.bq
      refine yield_call (show H.size ≤ H5.size by omega) X.loop rfl ?_
      obtain ⟨Hb, hHb⟩ : ∃ Hb, Hb = H6.setIfInBounds H5.size (.loop 85 45 A [21] AS BD .busy) := ⟨_, rfl⟩
      have hne : ∀ k, k ≠ H5.size → Hb[k]? = H6[k]? := fun k hk => by rw [hHb]; exact set_ne hk
      have hbs : Hb.size = H6.size := by rw [hHb]; simp
      have d6 : Hb[H.size]? = some (.cells (rs.map u64) true false) := by rw [hne _ (by omega)]; exact X.b6
      have d7 : Hb[H.size + 1]? = some (.cells (hs.map u64) true false) := by rw [hne _ (by omega)]; exact c7
      have hL : Hb[H5.size]? = some (.loop 85 45 A [21] AS BD .busy) := by rw [hHb]; exact set_get ll
      have hpb : Sl Hb part (pchunk bs j) := by
        refine hpart.mono ?_
        intro k vs ex tl hc
        by_cases hk : k = H5.size
        · subst hk
          rw [X.loop] at hc; cases hc
        · exact ⟨ex, tl, by rw [hne k hk]; exact hc⟩
      have M7 := load_aw (t := 114) d7 (by rw [hsl]; exact kind_114)
      refine wp_code hAS ?_
      simp (maxSteps := 10000000) (disch := omega) only [go_sem, List.zip_cons_cons, List.zip_nil_left, List.foldl_cons, List.foldl_nil]
      refine ⟨X.loop, ?_⟩
      rw [← hHb]
      refine wp_code hBD ?_
      simp (maxSteps := 10000000) (disch := omega) only [go_sem]
      refine draw_of 7 (by kernel_rfl) ?_
      simp (maxSteps := 10000000) (disch := omega) only [go_sem, q0, q6, q7, q20, M7]
      refine (of_fun hpb (by simp [pchunk]; omega)).call (Nat.le_refl _) ?_
      rintro _ H7 e1 e2 ⟨ms, hml, rfl, hmv⟩
      simp (maxSteps := 10000000) (disch := omega) only [go_sem, q0, q6, q7, q20]
      refine (add_fun3 hsl hml _).call (Nat.le_refl _) ?_
      rintro _ H8 f1 f2 ⟨ss, hsl2, rfl, hsv⟩
      have o8 : ∀ k, k < Hb.size → H8[k]? = Hb[k]? := fun k hk => by rw [f2 k (by omega), e2 k hk]
      have M6 := load_aw (t := 112) (show H8[H.size]? = _ by rw [o8 _ (by omega)]; exact d6) (by rw [hrl]; exact kind_112)
      have st := polyH_step hsm hsb hmv hsv rfl rfl
      simp (maxSteps := 10000000) (disch := omega) only [go_sem, q0, q6, q7, q20, M6]
      refine (product_fun hsl2 hrl (by rw [hrv]; exact st.1) _).call (Nat.le_refl _) ?_
      rintro _ H9 g1 g2 ⟨ps, hpl, rfl, hpv⟩
      simp (maxSteps := 10000000) (disch := omega) only [go_sem, q0, q6, q7, q20]
      refine (folded_fun hpl _).call (Nat.le_refl _) ?_
      rintro _ H10 i1 i2 ⟨fs, hfl, rfl, hfv⟩
      have o10 : ∀ k, k < Hb.size → H10[k]? = Hb[k]? := fun k hk => by rw [i2 k (by omega), g2 k (by omega), o8 k hk]
      rw [hpv, hrv] at hfv
      simp (maxSteps := 10000000) (disch := omega) only [go_sem, q0, q6, q7, q20]
      refine store_aw (show H10[H.size + 1]? = _ by rw [o10 _ (by omega)]; exact d7) (by rw [hfl]; exact sz_114) (by simp [hfl, hsl]) (by omega) ?_
      intro H11 j1 j2 j3
      have o11 : ∀ k, k < Hb.size → k ≠ H.size + 1 → H11[k]? = Hb[k]? := fun k hk h1 => by rw [j2 k h1, o10 k hk]
      simp (maxSteps := 10000000) (disch := omega) only [go_sem]
      refine ⟨by rw [o11 _ (by omega) (by omega)]; exact hL, rfl, ?_⟩
      have hl11 : H5.size < H11.size := by omega
      have o12 : ∀ k, k ≠ H5.size → (H11.setIfInBounds H5.size (.loop 85 45 A [21] AS BD .ready))[k]? = H11[k]? := fun k hk => set_ne hk
      refine ⟨set_get hl11, ?_, ?_, ?_, ⟨fs, hfl, ?_, by rw [hfv]; exact st.2.1, by rw [hfv]; exact st.2.2⟩, by simp; omega, fun k hk => ?_⟩
      · rw [o12 _ (by omega), o11 _ (by omega) (by omega), hne _ (by omega)]; exact X.bp
      · rw [o12 _ (by omega), o11 _ (by omega) (by omega), hne _ (by omega)]; exact X.bq
      · rw [o12 _ (by omega), o11 _ (by omega) (by omega)]; exact d6
      · rw [o12 _ (by omega)]; exact j3
      · rw [o12 _ (by omega), o11 _ (by omega) (by omega), hne _ (by omega)]; exact X.old k hk
    · have hp0 : ∀ k, k < H5.size → (H5.push (.loop 85 45 A [21] AS BD .ready))[k]? = H5[k]? := fun k hk => get_push_old hk
      refine ⟨get_push_new, by rw [hp0 _ (by omega)]; exact bp, by rw [hp0 _ (by omega)]; exact bq, by rw [hp0 _ (by omega), a2 _ (by omega)]; exact b6,
        ⟨List.replicate 3 0#64, rfl, by rw [hp0 _ (by omega), a2 _ (by omega)]; exact b7, (show vw (List.replicate 3 0#64) % PP = 0 by decide), by decide⟩, by simp; omega, fun k hk => by rw [hp0 _ (by omega), a2 _ (by omega), ho2 k hk]⟩
    · intro j H6 hj1 hj2 X
      have hjn : j = (bs.length + 15) / 16 := by
        by_cases h0 : j = 0
        · subst h0; omega
        · have := hj2 h0; omega
      subst hjn
      refine .inl ⟨X.loop, ?_⟩
      obtain ⟨hs, hsl, c7, hsm, hsb⟩ := X.b7
      have ll := get_lt X.loop
      obtain ⟨H7, hH7⟩ : ∃ H7, H7 = H6.setIfInBounds H5.size (.loop 85 45 A [21] AS BD .over) := ⟨_, rfl⟩
      have hne : ∀ k, k ≠ H5.size → H7[k]? = H6[k]? := fun k hk => by rw [hH7]; exact set_ne hk
      have hbs : H7.size = H6.size := by rw [hH7]; simp
      rw [← hH7]
      have d7 : H7[H.size + 1]? = some (.cells (hs.map u64) true false) := by rw [hne _ (by omega)]; exact c7
      have M7 := load_aw (t := 114) d7 (by rw [hsl]; exact kind_114)
      have hk7 : Sl H7 kv key := hk.keep_old2 fun k hk => by rw [hne _ (by omega)]; exact X.old k hk
      simp (maxSteps := 10000000) (disch := omega) only [go_sem, q0, q6, q7, q20, M7]
      refine (reduced_fun hsl hsb _).call (by omega) ?_
      rintro _ H8 e1 e2 ⟨xs, hxl, rfl, hxv⟩
      simp (maxSteps := 10000000) (disch := omega) only [go_sem, q0, q6, q7, q20]
      have hxb : vw xs < PP := by rw [hxv]; exact Nat.mod_lt _ PP_pos
      refine (reduced_fun hxl (by unfold PP at hxb; omega) _).call (by omega) ?_
      rintro _ H9 f1 f2 ⟨ys, hyl, rfl, hyv⟩
      rw [Nat.mod_eq_of_lt hxb, hxv, hsm] at hyv
      have o9 : ∀ k, k < H7.size → H9[k]? = H7[k]? := fun k hk => by rw [f2 k (by omega), e2 k hk]
      have hk9 : Sl H9 kv key := hk7.keep_old2 o9
      simp (maxSteps := 10000000) (disch := omega) only [go_sem, q0, q6, q7, q20]
      refine (low64_fun hk9 (by omega) 16).call (by omega) ?_
      simp (maxSteps := 10000000) (disch := omega) only [go_sem, q0, q6, q7, q20]
      refine (low64_fun hk9 (by omega) 24).call (by omega) ?_
      simp (maxSteps := 10000000) (disch := omega) only [go_sem, q0, q6, q7, q20]
      refine (add_fun3 hyl (ys := [lowAt key 16 8, lowAt key 24 8, 0#64]) rfl _).call (by omega) ?_
      rintro _ H10 g1 g2 ⟨zs, hzl, rfl, hzv⟩
      rw [polyS_vw key h, hyv] at hzv
      simp (maxSteps := 10000000) (disch := omega) only [go_sem, q0, q6, q7, q20]
      refine store_aw (show H10[H.size + 1]? = _ by rw [g2 _ (by omega), o9 _ (by omega)]; exact d7) (by rw [hzl]; exact sz_114) (by simp [hzl, hsl]) (by omega) ?_
      intro H11 j1 j2 j3
      obtain ⟨p0, p1, p2, e, hv⟩ := vw3 hzl
      have L0 := load_u64 j3 (o := 0) (x := p0) (by rw [e]; rfl)
      simp (maxSteps := 10000000) (disch := omega) only [go_sem]
      refine draw_of 6 (by kernel_rfl) ?_
      simp (maxSteps := 10000000) (disch := omega) only [go_sem, q0, q6, q7, q20, L0]
      refine (putLow64_fun _ _).call (by omega) ?_
      intro r1 H12 k1 k2 k3
      have L1 := load_u64 (show H12[H.size + 1]? = _ by rw [k2 _ (by omega)]; exact j3) (o := 1) (x := p1) (by rw [e]; rfl)
      simp (maxSteps := 10000000) (disch := omega) only [go_sem, q0, q6, q7, q20, L1]
      refine (putLow64_fun _ _).call (by omega) ?_
      intro r2 H13 k4 k5 k6
      simp (maxSteps := 10000000) (disch := omega) only [go_sem, q0, q6, q7, q20]
      refine append_bytes (B := H.size) (Ow.le (B := H11.size) (by omega) (OV.keep k3 fun k hk _ => k5 k hk)) k6.sl (by omega) (by omega) (by rw [lowBytes_length, lowBytes_length]; omega) ?_
      intro r3 H14 m1 m2 m3 m4 m5
      simp (maxSteps := 10000000) (disch := omega) only [go_sem]
      refine ⟨fun _ => ⟨r3, rfl, ?_⟩, fun hh => absurd h hh⟩
      have hfin : lowBytes p0 8 ++ lowBytes p1 8 = polyTag key bs := by
        rw [leB_words p0 p1 p2, ← e, hzv, polyTag]
        apply leB_congr
        have e16 : (2 : Nat) ^ 192 = 256 ^ 16 * 2 ^ 64 := by decide
        rw [e16, Nat.mod_mul_right_mod]
      rw [← hfin]
      exact m4
  · have h' := eq_false (show ¬ ((key.length : Nat) : Int) = 32 by omega)
    simp (maxSteps := 10000000) (disch := omega) only [go_sem, h']
    exact ⟨fun hh => absurd hh h, fun _ => rfl⟩

end Go.Proofs.Ytcapjjmikapmfaa.M
