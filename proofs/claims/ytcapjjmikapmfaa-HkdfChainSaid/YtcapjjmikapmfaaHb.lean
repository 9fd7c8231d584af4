/- HKDF: the parts, one by one. -/
import Derived.Test.YtcapjjmikapmfaaHa
set_option linter.unusedVariables false
set_option linter.unusedSimpArgs false
namespace Go.Proofs.Ytcapjjmikapmfaa.M
open Go Go.Proofs

def hkT (prk info : List (BitVec 8)) : Nat → List (BitVec 8)
  | 0 => []
  | k + 1 => hmac prk [hkT prk info k, info, [BitVec.ofInt 8 ((k : Int) + 1)]].flatten
theorem hkT_length (prk info : List (BitVec 8)) (k : Nat) : (hkT prk info k).length ≤ 32 := by
  cases k with
  | zero => simp [hkT]
  | succ k => rw [hkT, hmac_length]; omega
theorem hkT_succ_length (prk info : List (BitVec 8)) (k : Nat) : (hkT prk info (k + 1)).length = 32 := by rw [hkT, hmac_length]

set_option maxRecDepth 20000 in
theorem buildSlice_three (p q r : Option Addr) (m n c d e f : Nat) (H : Heap) (K : Value → Heap → Prop) : buildSliceK Try.prog 79 3 [(0, .slice p m c), (1, .slice q n d), (2, .slice r e f)] H K = K (.slice (some ⟨H.size, 0, some 1⟩) 3 3) (H.push (.cells [.slice p m c, .slice q n d, .slice r e f] true true)) := by
  have : buildSliceA Try.prog 79 3 [(0, .slice p m c), (1, .slice q n d), (2, .slice r e f)] = some ([.slice p m c, .slice q n d, .slice r e f], 1) := by kernel_rfl
  simp only [buildSliceK, this]
set_option maxRecDepth 20000 in
theorem build_three {H : Heap} {u v w : Value} {zs xs ys : List (BitVec 8)} (hu : Sl H u zs) (hv : Sl H v xs) (hw : Sl H w ys) {K : Value → Heap → Prop} (hK : ∀ H', H' = H.push (.cells [u, v, w] true true) → SlL H' (.slice (some ⟨H.size, 0, some 1⟩) 3 3) [zs, xs, ys] → K (.slice (some ⟨H.size, 0, some 1⟩) 3 3) H') : buildSliceK Try.prog 79 3 [(0, u), (1, v), (2, w)] H K := by
  have hs : SlL (H.push (.cells [u, v, w] true true)) (.slice (some ⟨H.size, 0, some 1⟩) 3 3) [zs, xs, ys] := by
    refine ⟨[u, v, w], .inr ⟨H.size, 0, 3, rfl, by simp, fun _ => ⟨[u, v, w], true, true, get_push_new, by simp, fun k x hk => by simpa using hk⟩⟩, rfl, fun j x zs h1 h2 => ?_⟩
    match j, h1, h2 with
    | 0, h1, h2 => cases h1; cases h2; exact hu.mono (Rd.push _ _)
    | 1, h1, h2 => cases h1; cases h2; exact hv.mono (Rd.push _ _)
    | 2, h1, h2 => cases h1; cases h2; exact hw.mono (Rd.push _ _)
    | j + 3, h1, h2 => cases h1
  have hk := hK _ rfl hs
  obtain ⟨p, n, c, rfl⟩ := hu.form
  obtain ⟨q, m, d, rfl⟩ := hv.form
  obtain ⟨r, e, f, rfl⟩ := hw.form
  rw [buildSlice_three]
  exact hk

set_option maxRecDepth 20000 in
theorem parts_fun {v w : Value} {prk info : List (BitVec 8)} {H : Heap} (hv : Sl H v prk) (hw : Sl H w info) : Fun Try.prog 119 [v, w] H (fun r H' => ∃ p q, r = .func (.func 129) #[] #[.pointer (some ⟨p, 0, none⟩), .pointer (some ⟨q, 0, none⟩)] ∧ p ≠ q ∧ H.size ≤ p ∧ H.size ≤ q ∧ p < H'.size ∧ q < H'.size ∧ H'[p]? = some (.cells [v] true false) ∧ H'[q]? = some (.cells [w] true false)) := by
  obtain ⟨pp, nn, cc, rfl⟩ := hv.form
  obtain ⟨qq, mm, dd, rfl⟩ := hw.form
  have z1 : (H.push (.cells [.slice pp nn cc] true false)).size = H.size + 1 := by simp
  refine fun_of Try.func119 rfl (by decide +kernel) (Nat.le_of_ble_eq_true rfl) ?_
  unfold Try.f119
  simp (maxSteps := 10000000) (disch := omega) only [go_sem]
  refine ⟨rfl, ?_⟩
  simp (maxSteps := 10000000) (disch := omega) only [go_sem]
  refine ⟨rfl, ?_⟩
  simp (maxSteps := 10000000) (disch := omega) only [go_sem]
  exact ⟨H.size, (H.push (.cells [.slice pp nn cc] true false)).size, rfl, by omega, Nat.le_refl _, by omega, by simp; omega, by simp, keep_push get_push_new, get_push_new⟩

def paInv (l p q : Nat) (prk info : List (BitVec 8)) (I : Nat → Heap → Prop) (m : Nat) (a : AAct) (H : Heap) : Prop :=
  ∃ j : Nat, j + m = 255 ∧ a 0 = .func (.yield l) #[] #[] ∧ a 1 = .pointer (some ⟨p, 0, none⟩) ∧ a 2 = .pointer (some ⟨q, 0, none⟩) ∧ a 5 = .int .i64 ((j : Int) + 1) ∧ Sl H (a 4) (hkT prk info j) ∧ I j H

set_option maxRecDepth 20000 in
set_option maxHeartbeats 1000000 in
theorem parts_iter {N l p q : Nat} {kv iv : Value} {prk info : List (BitVec 8)} {H : Heap} {K : Value → Heap → Prop} (I : Nat → Heap → Prop) (hp : prk.length ≤ 10000000000000) (hi : info.length ≤ 10000000000000)
    (hI : ∀ j H, I j H → N ≤ H.size ∧ H[p]? = some (.cells [kv] true false) ∧ H[q]? = some (.cells [iv] true false) ∧ Sl H kv prk ∧ Sl H iv info)
    (hM : ∀ j H H', I j H → H.size ≤ H'.size → (∀ i, i < H.size → H'[i]? = H[i]?) → I j H')
    (hstep : ∀ j H part, I j H → j < 255 → Sl H part (hkT prk info (j + 1)) → callK Try.prog N (.yield l) [.int .i64 ((j : Int) + 1), part] H (fun r H' => (r = .bool true ∧ I (j + 1) H' ∧ Sl H' part (hkT prk info (j + 1))) ∨ (r = .bool false ∧ K (.tuple #[]) H')))
    (h0 : I 0 H) (hK : ∀ H', I 255 H' → K (.tuple #[]) H') : callK Try.prog N (.func 129) [.func (.yield l) #[] #[], .pointer (some ⟨p, 0, none⟩), .pointer (some ⟨q, 0, none⟩)] H K := by
  refine call_of Try.func129 rfl (by decide +kernel) (Nat.le_of_ble_eq_true rfl) ?_
  unfold Try.f129
  simp (maxSteps := 10000000) (disch := omega) only [go_sem]
  refine wp_loop (paInv l p q prk info I) ?_ 255 ?_
  · rintro m a H1 ⟨j, hm, g0, g1, g2, g5, g4, hI1⟩
    obtain ⟨b0, b1, b2, b3, b4⟩ := hI j H1 hI1
    have L1 := load_cell (P := Try.prog) (t := 47) b1 kind_47 (o := 0) rfl
    have L2 := load_cell (P := Try.prog) (t := 47) b2 kind_47 (o := 0) rfl
    simp (maxSteps := 10000000) (disch := omega) only [go_sem, g5]
    by_cases hlt : j < 255
    · have hlt' := eq_true (show (j : Int) + 1 ≤ 255 by omega)
      simp (maxSteps := 10000000) (disch := omega) only [go_sem, g5, hlt']
      refine draw_of 8 (by kernel_rfl) ?_
      simp (maxSteps := 10000000) (disch := omega) only [go_sem, g1, g2, g5, L1, L2]
      have z1 : (H1.push (.cells [u8 (BitVec.ofInt 8 ((j : Int) + 1))] true true)).size = H1.size + 1 := by simp
      refine build_three (g4.mono (Rd.push _ _)) (b4.mono (Rd.push _ _)) (sl_one H1 _) ?_
      intro H2 e2 hs
      have z2 : H2.size = H1.size + 2 := by rw [e2]; simp
      have o2 : ∀ i, i < H1.size → H2[i]? = H1[i]? := fun i hi => by rw [e2, get_push_old (by omega), get_push_old hi]
      have htl := hkT_length prk info j
      have hfl : [hkT prk info j, info, [BitVec.ofInt 8 ((j : Int) + 1)]].flatten.length = (hkT prk info j).length + info.length + 1 := by simp; omega
      simp (maxSteps := 10000000) (disch := omega) only [go_sem]
      refine (concat_fun hs (by omega) (by omega) (by simp)).call (by omega) ?_
      intro cb H3 c1 c2 c3
      have o3 : ∀ i, i < H1.size → H3[i]? = H1[i]? := fun i hi => by rw [c2 i (by omega), o2 i hi]
      simp (maxSteps := 10000000) (disch := omega) only [go_sem]
      refine (hmacSum_fun (b3.keep_old2 o3) c3 (by omega) (by omega)).call (by omega) ?_
      intro tb H4 d1 d2 d3
      have o4 : ∀ i, i < H1.size → H4[i]? = H1[i]? := fun i hi => by rw [d2 i (by omega), o3 i hi]
      have hI4 := hM j H1 H4 hI1 (by omega) o4
      simp (maxSteps := 10000000) (disch := omega) only [go_sem, g0, g5]
      refine (hstep j H4 tb hI4 hlt d3.sl).mono ?_
      rintro r H5 (⟨rfl, hI5, hs5⟩ | ⟨rfl, hK5⟩)
      · simp (maxSteps := 10000000) (disch := omega) only [go_sem, g5, wrap_i64]
        refine ⟨m - 1, by omega, j + 1, by omega, by simp (maxSteps := 10000000) (disch := omega) only [go_sem, g0], by simp (maxSteps := 10000000) (disch := omega) only [go_sem, g1], by simp (maxSteps := 10000000) (disch := omega) only [go_sem, g2], by simp (maxSteps := 10000000) (disch := omega) only [go_sem]; push_cast; rfl, by simp (maxSteps := 10000000) (disch := omega) only [go_sem]; exact hs5, hI5⟩
      · simp (maxSteps := 10000000) (disch := omega) only [go_sem]
        exact hK5
    · have hlt' := eq_false (show ¬ (j : Int) + 1 ≤ 255 by omega)
      simp (maxSteps := 10000000) (disch := omega) only [go_sem, hlt']
      have hj : j = 255 := by omega
      subst hj
      exact hK H1 hI1
  · exact ⟨0, by omega, by simp (maxSteps := 10000000) (disch := omega) only [go_sem], by simp (maxSteps := 10000000) (disch := omega) only [go_sem], by simp (maxSteps := 10000000) (disch := omega) only [go_sem], by simp (maxSteps := 10000000) (disch := omega) only [go_sem]; rfl, by simp (maxSteps := 10000000) (disch := omega) only [go_sem]; exact Sl.nil _, h0⟩

end Go.Proofs.Ytcapjjmikapmfaa.M
