/- HkdfFirst, HkdfBounds. -/
import Derived.Test.YtcapjjmikapmfaaHf
set_option linter.unusedVariables false
set_option linter.unusedSimpArgs false
namespace Go.Proofs.Ytcapjjmikapmfaa.M
open Go Go.Proofs

theorem text_append (xs ys : List (BitVec 8)) : textOf xs ++ textOf ys = textOf (xs ++ ys) := by
  apply ByteArray.ext
  simp [textOf, ByteArray.data_append]
theorem text_size (xs : List (BitVec 8)) : (textOf xs).size = xs.length := by simp [textOf, ByteArray.size]
theorem bin_add_text {P : Program} (t : TypeId) {xs ys : List (BitVec 8)} (h : xs.length + ys.length ≤ 1000000) : binA P .add t (.string (textOf xs)) (.string (textOf ys)) = some (.string (textOf (xs ++ ys))) := by
  have h2 : ¬ (((textOf xs).size + (textOf ys).size : Nat) : Int) > IntKind.i64.max := by
    rw [text_size, text_size]
    show ¬ _ > (9223372036854775807 : Int)
    omega
  simp only [binA]
  rw [if_neg h2, text_append]

theorem hkOut_two (prk info : List (BitVec 8)) : hkOut prk info 2 = hkT prk info 1 ++ hkT prk info 2 := by
  rw [hkOut, hkOut, hkOut, List.nil_append]
theorem hkT_len1 (prk info : List (BitVec 8)) : (hkT prk info 1).length = 32 := hkT_succ_length prk info 0
theorem hkT_len2 (prk info : List (BitVec 8)) : (hkT prk info 2).length = 32 := hkT_succ_length prk info 1
theorem hk_first (prk info : List (BitVec 8)) : hmac prk (info ++ [1#8]) = hkT prk info 1 ∧ hmac prk (hkT prk info 1 ++ info ++ [2#8]) = hkT prk info 2 := by
  have b1 : BitVec.ofInt 8 (((0 : Nat) : Int) + 1) = 1#8 := by decide
  have b2 : BitVec.ofInt 8 (((1 : Nat) : Int) + 1) = 2#8 := by decide
  constructor
  · show _ = hmac prk [[], info, [BitVec.ofInt 8 (((0 : Nat) : Int) + 1)]].flatten
    rw [b1]; simp
  · show _ = hmac prk [hkT prk info 1, info, [BitVec.ofInt 8 (((1 : Nat) : Int) + 1)]].flatten
    rw [b2]; simp

set_option maxRecDepth 20000 in
set_option maxHeartbeats 4000000 in
theorem hkdfFirst_fun {H : Heap} {v : Value} {xs : List (BitVec 8)} (hv : Sl H v xs) (hl : xs.length ≤ 140737488351232) {v2 : Value} {ys : List (BitVec 8)} (hv2 : Sl H v2 ys) (hl2 : ys.length ≤ 140737488351232) : Fun Try.prog 33 [v, v2] H fun r _ => r = .bool true := by
  refine fun_of Try.func33 rfl (by decide +kernel) (Nat.le_of_ble_eq_true rfl) ?_
  unfold Try.f33
  simp (maxSteps := 10000000) (disch := omega) only [go_sem, hv.len]
  by_cases g1 : (100 : Int) < xs.length
  · simp (maxSteps := 10000000) (disch := omega) only [go_sem, g1, hv2.len]
    refine (awake4_fun _).call (Nat.le_refl _) ?_
    rintro _ H3 g7 g8 rfl
    simp (maxSteps := 10000000) (disch := omega) only [go_sem]
  simp (maxSteps := 10000000) (disch := omega) only [go_sem, g1, hv2.len]
  by_cases g2 : (100 : Int) < ys.length
  · simp (maxSteps := 10000000) (disch := omega) only [go_sem, g2]
    refine (awake4_fun _).call (Nat.le_refl _) ?_
    rintro _ H3 g7 g8 rfl
    simp (maxSteps := 10000000) (disch := omega) only [go_sem]
  simp (maxSteps := 10000000) (disch := omega) only [go_sem, g2]
  refine (expand_fun 64 hv hv2 (by omega) (by omega)).call (Nat.le_refl _) ?_
  rintro _ H1 a1 a2 q
  obtain ⟨w, rfl, hw⟩ := q.1 (by decide)
  have e64 : (hkOut xs ys (((64 : Int).toNat + 31) / 32)).take (64 : Int).toNat = hkT xs ys 1 ++ hkT xs ys 2 := by
    have c1 : ((64 : Int).toNat + 31) / 32 = 2 := by decide
    have c2 : (64 : Int).toNat = 64 := by decide
    rw [c1, c2, hkOut_two]
    refine List.take_of_length_le ?_
    rw [List.length_append, hkT_len1, hkT_len2]
    decide
  rw [e64] at hw
  have hwl := hw.len
  rw [List.length_append, hkT_len1, hkT_len2] at hwl
  obtain ⟨f1, f2⟩ := hk_first xs ys
  simp (maxSteps := 10000000) (disch := omega) only [go_sem, hwl]
  have o1 : OE (H1.push (.cells [] true true)) H1.size (.slice (some ⟨H1.size, 0, some 1⟩) 0 0) [] := OE.new (Nat.le_refl _) [] 0 (Nat.le_refl _)
  refine append_fresh o1 ((hv2.keep_old2 a2).mono (Rd.push _ _)) (by omega) (by simp) (by omega) ?_
  intro t2 H2 b1 b2 b3 b4
  have k2 : ∀ j, j < H1.size → H2[j]? = H1[j]? := fun j hj => by rw [b3 j (by simp; omega) (by simp [blockOf]; omega), get_push_old hj]
  have z2 : H1.size ≤ H2.size := by simp at b1; omega
  simp (maxSteps := 10000000) (disch := omega) only [go_sem]
  refine append_bytes (b4.ow.push _) (sl_one H2 _) (show H.size ≤ H1.size by omega) (by simp; omega) (by simp; omega) ?_
  intro t3 H3 c1 c2 c3 c4 c5
  have c4 := c4.sl
  rw [show ([1#8] : List (BitVec 8)) = [1#8] from rfl] at c4
  have z3 : H2.size ≤ H3.size := by simp at c1; omega
  have bb := b4.block
  obtain ⟨bi, hbi, hbi2, hbi3⟩ := bb
  have k3 : ∀ j, j < H1.size → H3[j]? = H1[j]? := fun j hj => by rw [c3 j (by simp; omega) (by rw [hbi]; intro e; cases e; omega), get_push_old (by omega), k2 j hj]
  simp (maxSteps := 10000000) (disch := omega) only [go_sem]
  refine (hmacSum_fun ((hv.keep_old2 a2).keep_old2 k3) c4 (by omega) (by simp; omega)).call (by omega) ?_
  intro t4 H4 d1 d2 d3
  rw [f1] at d3
  have k4 : ∀ j, j < H1.size → H4[j]? = H1[j]? := fun j hj => by rw [d2 j (by omega), k3 j hj]
  have o4 : OE (H4.push (.cells [] true true)) H4.size (.slice (some ⟨H4.size, 0, some 1⟩) 0 0) [] := OE.new (Nat.le_refl _) [] 0 (Nat.le_refl _)
  simp (maxSteps := 10000000) (disch := omega) only [go_sem]
  refine append_fresh o4 (d3.sl.mono (Rd.push _ _)) (show H.size ≤ H4.size by omega) (by simp) (by rw [hkT_len1]; omega) ?_
  intro t5 H5 e1 e2 e3 e4
  have z5 : H4.size ≤ H5.size := by simp at e1; omega
  have k5 : ∀ j, j < H4.size → H5[j]? = H4[j]? := fun j hj => by rw [e3 j (by simp; omega) (by simp [blockOf]; omega), get_push_old hj]
  have hv2' : Sl H5 v2 ys := ((hv2.keep_old2 a2).keep_old2 k4).keep_old2 k5
  simp (maxSteps := 10000000) (disch := omega) only [go_sem]
  refine append_bytes e4.ow hv2' (show H.size ≤ H4.size by omega) (by omega) (by rw [hkT_len1]; omega) ?_
  intro t6 H6 g1 g2 g3 g4 g5
  have k6 : ∀ j, j < H4.size → H6[j]? = H4[j]? := fun j hj => by rw [g3 j (by omega) (fun e => by have := (e4.ow.in e).1; omega), k5 j hj]
  simp (maxSteps := 10000000) (disch := omega) only [go_sem]
  refine append_bytes (OV.push g4 _) (sl_one H6 _) (show H.size ≤ H4.size by omega) (by simp; omega) (by simp [hkT_len1]; omega) ?_
  intro t7 H7 i1 i2 i3 i4 i5
  have i4' := i4.sl
  have k7 : ∀ j, j < H4.size → H7[j]? = H4[j]? := fun j hj => by rw [i3 j (by simp; omega) (fun e => by have := (g4.in e).1; omega), get_push_old (by omega), k6 j hj]
  have z7 : H6.size ≤ H7.size := by simp at i1; omega
  simp (maxSteps := 10000000) (disch := omega) only [go_sem]
  refine (hmacSum_fun (((hv.keep_old2 a2).keep_old2 k4).keep_old2 k7) i4' (by omega) (by simp [hkT_len1]; omega)).call (by omega) ?_
  intro t8 H8 j1 j2 j3
  rw [f2] at j3
  have ha := bin_add_text (P := Try.prog) 9 (show (hkT xs ys 1).length + (hkT xs ys 2).length ≤ 1000000 by rw [hkT_len1, hkT_len2]; omega)
  simp (maxSteps := 10000000) (disch := omega) only [go_sem]
  refine conv_text (((hw.keep_old2 k4).keep_old2 k7).keep_old2 j2) ?_
  simp (maxSteps := 10000000) (disch := omega) only [go_sem]
  refine conv_text ((d3.sl.keep_old2 k7).keep_old2 j2) ?_
  simp (maxSteps := 10000000) (disch := omega) only [go_sem]
  refine conv_text j3.sl ?_
  simp (maxSteps := 10000000) (disch := omega) only [go_sem, ha]
  refine (awake4_fun _).call (by first | omega | (show H.size ≤ _; omega)) ?_
  rintro _ H9 m1 m2 rfl
  simp (maxSteps := 10000000) (disch := omega) only [go_sem]

end Go.Proofs.Ytcapjjmikapmfaa.M
