/- HKDF: the law's own waking, and HkdfForms. -/
import Derived.Test.YtcapjjmikapmfaaHe
set_option linter.unusedVariables false
set_option linter.unusedSimpArgs false
namespace Go.Proofs.Ytcapjjmikapmfaa.M
open Go Go.Proofs

theorem SlL.at {H : Heap} {v : Value} {xss : List (List (BitVec 8))} (h : SlL H v xss) (k : Nat) (hk : k < xss.length) :
    ∃ ad x, indexAddrA Try.prog 79 v (.int .i64 (k : Nat)) = some (.pointer (some ad)) ∧ (∀ K, loadK Try.prog 47 (.pointer (some ad)) H K = K x H) ∧ Sl H x xss[k] := by
  obtain ⟨vs, h1, h2, h3⟩ := h
  have hvk : vs[k]? = some (vs[k]'(by omega)) := List.getElem?_eq_getElem (by omega)
  have hxk : xss[k]? = some xss[k] := List.getElem?_eq_getElem hk
  obtain ⟨ad, e1, e2⟩ := h1.index (P := Try.prog) Try.underlying79 sz_47 kind_47 (k := (k : Int)) (x := vs[k]'(by omega)) (by omega) (by rw [Int.toNat_natCast]; exact hvk)
  exact ⟨ad, _, e1, e2, h3 k _ _ hvk hxk⟩
theorem SlL.keep {H H' : Heap} {v : Value} {xss : List (List (BitVec 8))} (h : SlL H v xss) (hk : ∀ j, j < H.size → H'[j]? = H[j]?) : SlL H' v xss := by
  obtain ⟨vs, h1, h2, h3⟩ := h
  exact ⟨vs, h1.mono (.keep hk), h2, fun j x xs e1 e2 => (h3 j x xs e1 e2).keep_old2 hk⟩
theorem SlL.nil (H : Heap) : SlL H (.slice none 0 0) [] := ⟨[], SV.nil H, rfl, fun j x xs h => by simp at h⟩

theorem hkL_get (prk : List (BitVec 8)) : ∀ (n k : Nat) (h : k < (hkL prk n).length), (hkL prk n)[k] = hkT prk [] (k + 1)
  | 0, k, h => by simp [hkL] at h
  | n + 1, k, h => by
    have hl := hkL_length prk n
    simp only [hkL]
    by_cases hk : k < n
    · rw [List.getElem_append_left (by omega)]
      exact hkL_get prk n k (by omega)
    · have : k = n := by rw [hkL_length] at h; omega
      subst this
      rw [List.getElem_append_right (by omega)]
      simp [hl]

def exGood (n : Int) : Prop := 0 ≤ n ∧ n ≤ 8160
def chGood (n : Int) : Prop := 1 ≤ n ∧ n ≤ 3
instance (n : Int) : Decidable (exGood n) := inferInstanceAs (Decidable (_ ∧ _))
instance (n : Int) : Decidable (chGood n) := inferInstanceAs (Decidable (_ ∧ _))
def exErr (n : Int) : Int := if exGood n then 0 else 1
def chErr (n : Int) : Int := if chGood n then 0 else 1
def exBs (prk info : List (BitVec 8)) (n : Int) : List (BitVec 8) := if exGood n then (hkOut prk info ((n.toNat + 31) / 32)).take n.toNat else []
def chBs (prk : List (BitVec 8)) (n : Int) : List (List (BitVec 8)) := if chGood n then hkL prk n.toNat else []
theorem exBs_length (prk info : List (BitVec 8)) (n : Int) : (exBs prk info n).length = if exGood n then n.toNat else 0 := by
  unfold exBs
  split
  · rw [List.length_take, hkOut_length]; omega
  · rfl
theorem chBs_length (prk : List (BitVec 8)) (n : Int) : (chBs prk n).length = if chGood n then n.toNat else 0 := by
  unfold chBs
  split
  · rw [hkL_length]
  · rfl

theorem chBs_le (prk : List (BitVec 8)) (n : Int) : (chBs prk n).length ≤ 3 := by
  rw [chBs_length]
  split
  · rename_i h
    have := h.2
    omega
  · omega

theorem ExpandQ.out {prk info : List (BitVec 8)} {n : Int} {r : Value} {H' : Heap} (h : ExpandQ prk info n r H') : ∃ w, r = .tuple #[w, .int .i64 (exErr n)] ∧ Sl H' w (exBs prk info n) := by
  by_cases g : exGood n
  · obtain ⟨w, e, o⟩ := h.1 g
    exact ⟨w, by simp only [exErr, if_pos g]; exact e, by rw [exBs, if_pos g]; exact o⟩
  · exact ⟨.slice none 0 0, by simp only [exErr, if_neg g]; exact h.2 g, by rw [exBs, if_neg g]; exact Sl.nil _⟩
theorem ChainQ.out {prk : List (BitVec 8)} {n : Int} {r : Value} {H' : Heap} (h : ChainQ prk n r H') : ∃ w, r = .tuple #[w, .int .i64 (chErr n)] ∧ SlL H' w (chBs prk n) := by
  by_cases g : chGood n
  · obtain ⟨w, e, o⟩ := h.1 g
    exact ⟨w, by simp only [chErr, if_pos g]; exact e, by rw [chBs, if_pos g]; exact o⟩
  · exact ⟨.slice none 0 0, by simp only [chErr, if_neg g]; exact h.2 g, by rw [chBs, if_neg g]; exact SlL.nil _⟩

set_option maxRecDepth 20000 in
set_option maxHeartbeats 1000000 in
theorem awake4_fun (H : Heap) : Fun Try.prog 90 [] H (fun r _ => r = .bool true) := by
  refine fun_of Try.func90 rfl (by decide +kernel) (Nat.le_of_ble_eq_true rfl) ?_
  unfold Try.f90
  simp (maxSteps := 10000000) (disch := omega) only [go_sem]
  refine make_bytes (by omega) (by omega) ?_
  intro z H1 e1 o1 _
  have k1 : ∀ j, j < H.size → H1[j]? = H[j]? := fun j hj => by rw [e1, get_push_old hj]
  have z1 : H1.size = H.size + 1 := by rw [e1]; simp
  simp (maxSteps := 10000000) (disch := omega) only [go_sem]
  refine (expand_fun 40 o1.sl (Sl.nil H1) (by simp) (by simp)).call (by omega) ?_
  rintro _ H2 a1 a2 q
  obtain ⟨w, rfl, hw⟩ := q.1 (by decide)
  have hwl := hw.len
  rw [List.length_take, hkOut_length] at hwl
  simp (maxSteps := 10000000) (disch := omega) only [go_sem]
  refine make_bytes (by omega) (by omega) ?_
  intro z H3 e3 o3 _
  have k3 : ∀ j, j < H2.size → H3[j]? = H2[j]? := fun j hj => by rw [e3, get_push_old hj]
  have z3 : H3.size = H2.size + 1 := by rw [e3]; simp
  simp (maxSteps := 10000000) (disch := omega) only [go_sem]
  refine (chain_fun 2 o3.sl (Sl.nil H3) (by simp) (by simp)).call (by omega) ?_
  rintro _ H4 b1 b2 q
  obtain ⟨u, rfl, hu⟩ := q.1 (by decide)
  have hul := hu.len
  rw [hkL_length] at hul
  obtain ⟨ad, x, x1, x2, x3⟩ := hu.at 1 (by rw [hkL_length]; decide)
  have hxl := x3.len
  rw [hkL_get, hkT_succ_length] at hxl
  have x1' : indexAddrA Try.prog 79 u (.int .i64 1) = some (.pointer (some ad)) := x1
  have e40 : (min (40 : Int).toNat (32 * (((40 : Int).toNat + 31) / 32)) : Nat) = 40 := by decide
  have e2 : (2 : Int).toNat = 2 := rfl
  rw [e40] at hwl
  rw [e2] at hul
  simp (maxSteps := 10000000) (disch := omega) only [go_sem, hwl, hul, x1', x2, hxl]

def hfInv (w1 w2 v v2 : Value) (H0 : Heap) (L : Nat) (m : Nat) (a : AAct) (H : Heap) : Prop :=
  ∃ k : Nat, k + m = L ∧ a 0 = v ∧ a 1 = v2 ∧ a 15 = w1 ∧ a 17 = w2 ∧ a 93 = .int .i64 (L : Nat) ∧ a 94 = .int .i64 (k : Nat) ∧ H = H0

set_option maxRecDepth 20000 in
set_option maxHeartbeats 4000000 in
theorem hkdfForms_fun {H : Heap} {v : Value} {xs : List (BitVec 8)} (hv : Sl H v xs) (hl : xs.length ≤ 140737488351232) {v2 : Value} {ys : List (BitVec 8)} (hv2 : Sl H v2 ys) (hl2 : ys.length ≤ 140737488351232) {v3 : Value} {zs : List (BitVec 8)} (hv3 : Sl H v3 zs) (hl3 : zs.length ≤ 140737488351232) (n : Int) (hn : I64 n) (m : Int) (hm : I64 m) : Fun Try.prog 30 [v, v2, v3, .int .i64 n, .int .i64 m] H fun r _ => r = .bool true := by
  refine fun_of Try.func30 rfl (by decide +kernel) (Nat.le_of_ble_eq_true rfl) ?_
  unfold Try.f30
  simp (maxSteps := 10000000) (disch := omega) only [go_sem, hv.len]
  by_cases g1 : (200 : Int) < xs.length
  · simp (maxSteps := 10000000) (disch := omega) only [go_sem, g1, hv2.len, hv3.len]
    refine (awake4_fun _).call (Nat.le_refl _) ?_
    rintro _ H3 g7 g8 rfl
    simp (maxSteps := 10000000) (disch := omega) only [go_sem]
  simp (maxSteps := 10000000) (disch := omega) only [go_sem, g1, hv2.len]
  by_cases g2 : (200 : Int) < ys.length
  · simp (maxSteps := 10000000) (disch := omega) only [go_sem, g2, hv3.len]
    refine (awake4_fun _).call (Nat.le_refl _) ?_
    rintro _ H3 g7 g8 rfl
    simp (maxSteps := 10000000) (disch := omega) only [go_sem]
  simp (maxSteps := 10000000) (disch := omega) only [go_sem, g2, hv3.len]
  by_cases g3 : (200 : Int) < zs.length
  · simp (maxSteps := 10000000) (disch := omega) only [go_sem, g3]
    refine (awake4_fun _).call (Nat.le_refl _) ?_
    rintro _ H3 g7 g8 rfl
    simp (maxSteps := 10000000) (disch := omega) only [go_sem]
  simp (maxSteps := 10000000) (disch := omega) only [go_sem, g3]
  by_cases g45 : 600 < n ∧ n ≤ 8160
  · simp (maxSteps := 10000000) (disch := omega) only [go_sem, g45.1, g45.2]
    refine (awake4_fun _).call (Nat.le_refl _) ?_
    rintro _ H3 g7 g8 rfl
    simp (maxSteps := 10000000) (disch := omega) only [go_sem]
  have key : (¬ 600 < n) ∨ (600 < n ∧ ¬ n ≤ 8160) := by omega
  rcases key with g4 | ⟨g4, g5⟩
  · simp (maxSteps := 10000000) (disch := omega) only [go_sem, g4]
    refine (expand_fun n hv2 hv3 (by omega) (by omega)).call (Nat.le_refl _) ?_
    rintro _ H1 a1 a2 q
    obtain ⟨w1, rfl, hw1⟩ := q.out
    simp (maxSteps := 10000000) (disch := omega) only [go_sem]
    refine (refExpand_fun n (hv2.keep_old2 a2) (hv3.keep_old2 a2) (by omega) (by omega)).call (by omega) ?_
    rintro _ H2 b1 b2 q
    obtain ⟨w2, rfl, hw2⟩ := q.out
    have k2 : ∀ j, j < H.size → H2[j]? = H[j]? := fun j hj => by rw [b2 j (by omega), a2 j hj]
    simp (maxSteps := 10000000) (disch := omega) only [go_sem]
    refine (chain_fun m (hv.keep_old2 k2) (hv2.keep_old2 k2) (by omega) (by omega)).call (by omega) ?_
    rintro _ H3 c1 c2 q
    obtain ⟨w3, rfl, hw3⟩ := q.out
    have k3 : ∀ j, j < H.size → H3[j]? = H[j]? := fun j hj => by rw [c2 j (by omega), k2 j hj]
    simp (maxSteps := 10000000) (disch := omega) only [go_sem]
    refine (refChain_fun m (hv.keep_old2 k3) (hv2.keep_old2 k3) (by omega) (by omega)).call (by omega) ?_
    rintro _ H4 d1 d2 q
    obtain ⟨w4, rfl, hw4⟩ := q.out
    have k4 : ∀ j, j < H.size → H4[j]? = H[j]? := fun j hj => by rw [d2 j (by omega), k3 j hj]
    have hw34 := hw3.keep d2
    obtain ⟨L, hL⟩ : ∃ L, L = (chBs (hmac xs ys) m).length := ⟨_, rfl⟩
    have hL3 : L ≤ 3 := by rw [hL]; exact chBs_le _ _
    have hl3' := hw34.len
    have hl4' := hw4.len
    rw [← hL] at hl3' hl4'
    simp (maxSteps := 10000000) (disch := omega) only [go_sem]
    refine conv_text (((hw1.keep_old2 b2).keep_old2 c2).keep_old2 d2) ?_
    simp (maxSteps := 10000000) (disch := omega) only [go_sem]
    refine conv_text ((hw2.keep_old2 c2).keep_old2 d2) ?_
    simp (maxSteps := 10000000) (disch := omega) only [go_sem, hl3', hl4']
    refine wp_loop (hfInv w3 w4 v v2 H4 L) ?_ L ?_
    · rintro M a H5 ⟨k, hk, h0, h1, h15, h17, h93, h94, rfl⟩
      simp (maxSteps := 10000000) (disch := omega) only [go_sem, h93, h94]
      by_cases hlt : k < L
      · have hlt' := eq_true (show (k : Int) < L by omega)
        obtain ⟨ad1, x1, p1, p2, p3⟩ := hw34.at k (by omega)
        obtain ⟨ad2, x2, r1, r2, r3⟩ := hw4.at k (by omega)
        simp (maxSteps := 10000000) (disch := omega) only [go_sem, h93, h94, hlt']
        refine draw_of 10 (by kernel_rfl) ?_
        simp (maxSteps := 10000000) (disch := omega) only [go_sem, h94, h15, h17, p1, p2, r1, r2]
        refine conv_text p3 ?_
        simp (maxSteps := 10000000) (disch := omega) only [go_sem, h15, h17, r1, r2]
        refine conv_text r3 ?_
        simp (maxSteps := 10000000) (disch := omega) only [go_sem, h94, wrap_i64]
        exact ⟨M - 1, by omega, k + 1, by omega, by simp (maxSteps := 10000000) (disch := omega) only [go_sem, h0], by simp (maxSteps := 10000000) (disch := omega) only [go_sem, h1], by simp (maxSteps := 10000000) (disch := omega) only [go_sem, h15], by simp (maxSteps := 10000000) (disch := omega) only [go_sem, h17], by simp (maxSteps := 10000000) (disch := omega) only [go_sem, h93], by simp (maxSteps := 10000000) (disch := omega) only [go_sem]; push_cast; rfl, rfl⟩
      · have hlt' := eq_false (show ¬ (k : Int) < L by omega)
        simp (maxSteps := 10000000) (disch := omega) only [go_sem, h93, h94, hlt']
        refine draw_of 8 (by kernel_rfl) ?_
        simp (maxSteps := 10000000) (disch := omega) only [go_sem, h0, h1]
        refine (extract_fun (hv.keep_old2 k4) (hv2.keep_old2 k4) (by omega) (by omega)).call (by omega) ?_
        intro e1 H6 f1 f2 f3
        simp (maxSteps := 10000000) (disch := omega) only [go_sem]
        refine conv_text f3.sl ?_
        have k6 : ∀ j, j < H.size → H6[j]? = H[j]? := fun j hj => by rw [f2 j (by omega), k4 j hj]
        simp (maxSteps := 10000000) (disch := omega) only [go_sem, h0, h1]
        refine (refHmac_fun (hv.keep_old2 k6) (hv2.keep_old2 k6) (by omega) (by omega)).call (by omega) ?_
        intro e2 H7 i1 i2 i3
        simp (maxSteps := 10000000) (disch := omega) only [go_sem]
        refine conv_text i3.sl ?_
        simp (maxSteps := 10000000) (disch := omega) only [go_sem]
        refine (awake4_fun _).call (by first | omega | (show H.size ≤ _; omega)) ?_
        rintro _ H8 j1 j2 rfl
        simp (maxSteps := 10000000) (disch := omega) only [go_sem]
    · exact ⟨0, by omega, by simp (maxSteps := 10000000) (disch := omega) only [go_sem], by simp (maxSteps := 10000000) (disch := omega) only [go_sem], by simp (maxSteps := 10000000) (disch := omega) only [go_sem], by simp (maxSteps := 10000000) (disch := omega) only [go_sem], by simp (maxSteps := 10000000) (disch := omega) only [go_sem], by simp (maxSteps := 10000000) (disch := omega) only [go_sem], rfl⟩
  · simp (maxSteps := 10000000) (disch := omega) only [go_sem, g4, g5]
    refine (expand_fun n hv2 hv3 (by omega) (by omega)).call (Nat.le_refl _) ?_
    rintro _ H1 a1 a2 q
    obtain ⟨w1, rfl, hw1⟩ := q.out
    simp (maxSteps := 10000000) (disch := omega) only [go_sem]
    refine (refExpand_fun n (hv2.keep_old2 a2) (hv3.keep_old2 a2) (by omega) (by omega)).call (by omega) ?_
    rintro _ H2 b1 b2 q
    obtain ⟨w2, rfl, hw2⟩ := q.out
    have k2 : ∀ j, j < H.size → H2[j]? = H[j]? := fun j hj => by rw [b2 j (by omega), a2 j hj]
    simp (maxSteps := 10000000) (disch := omega) only [go_sem]
    refine (chain_fun m (hv.keep_old2 k2) (hv2.keep_old2 k2) (by omega) (by omega)).call (by omega) ?_
    rintro _ H3 c1 c2 q
    obtain ⟨w3, rfl, hw3⟩ := q.out
    have k3 : ∀ j, j < H.size → H3[j]? = H[j]? := fun j hj => by rw [c2 j (by omega), k2 j hj]
    simp (maxSteps := 10000000) (disch := omega) only [go_sem]
    refine (refChain_fun m (hv.keep_old2 k3) (hv2.keep_old2 k3) (by omega) (by omega)).call (by omega) ?_
    rintro _ H4 d1 d2 q
    obtain ⟨w4, rfl, hw4⟩ := q.out
    have k4 : ∀ j, j < H.size → H4[j]? = H[j]? := fun j hj => by rw [d2 j (by omega), k3 j hj]
    have hw34 := hw3.keep d2
    obtain ⟨L, hL⟩ : ∃ L, L = (chBs (hmac xs ys) m).length := ⟨_, rfl⟩
    have hL3 : L ≤ 3 := by rw [hL]; exact chBs_le _ _
    have hl3' := hw34.len
    have hl4' := hw4.len
    rw [← hL] at hl3' hl4'
    simp (maxSteps := 10000000) (disch := omega) only [go_sem]
    refine conv_text (((hw1.keep_old2 b2).keep_old2 c2).keep_old2 d2) ?_
    simp (maxSteps := 10000000) (disch := omega) only [go_sem]
    refine conv_text ((hw2.keep_old2 c2).keep_old2 d2) ?_
    simp (maxSteps := 10000000) (disch := omega) only [go_sem, hl3', hl4']
    refine wp_loop (hfInv w3 w4 v v2 H4 L) ?_ L ?_
    · rintro M a H5 ⟨k, hk, h0, h1, h15, h17, h93, h94, rfl⟩
      simp (maxSteps := 10000000) (disch := omega) only [go_sem, h93, h94]
      by_cases hlt : k < L
      · have hlt' := eq_true (show (k : Int) < L by omega)
        obtain ⟨ad1, x1, p1, p2, p3⟩ := hw34.at k (by omega)
        obtain ⟨ad2, x2, r1, r2, r3⟩ := hw4.at k (by omega)
        simp (maxSteps := 10000000) (disch := omega) only [go_sem, h93, h94, hlt']
        refine draw_of 10 (by kernel_rfl) ?_
        simp (maxSteps := 10000000) (disch := omega) only [go_sem, h94, h15, h17, p1, p2, r1, r2]
        refine conv_text p3 ?_
        simp (maxSteps := 10000000) (disch := omega) only [go_sem, h15, h17, r1, r2]
        refine conv_text r3 ?_
        simp (maxSteps := 10000000) (disch := omega) only [go_sem, h94, wrap_i64]
        exact ⟨M - 1, by omega, k + 1, by omega, by simp (maxSteps := 10000000) (disch := omega) only [go_sem, h0], by simp (maxSteps := 10000000) (disch := omega) only [go_sem, h1], by simp (maxSteps := 10000000) (disch := omega) only [go_sem, h15], by simp (maxSteps := 10000000) (disch := omega) only [go_sem, h17], by simp (maxSteps := 10000000) (disch := omega) only [go_sem, h93], by simp (maxSteps := 10000000) (disch := omega) only [go_sem]; push_cast; rfl, rfl⟩
      · have hlt' := eq_false (show ¬ (k : Int) < L by omega)
        simp (maxSteps := 10000000) (disch := omega) only [go_sem, h93, h94, hlt']
        refine draw_of 8 (by kernel_rfl) ?_
        simp (maxSteps := 10000000) (disch := omega) only [go_sem, h0, h1]
        refine (extract_fun (hv.keep_old2 k4) (hv2.keep_old2 k4) (by omega) (by omega)).call (by omega) ?_
        intro e1 H6 f1 f2 f3
        simp (maxSteps := 10000000) (disch := omega) only [go_sem]
        refine conv_text f3.sl ?_
        have k6 : ∀ j, j < H.size → H6[j]? = H[j]? := fun j hj => by rw [f2 j (by omega), k4 j hj]
        simp (maxSteps := 10000000) (disch := omega) only [go_sem, h0, h1]
        refine (refHmac_fun (hv.keep_old2 k6) (hv2.keep_old2 k6) (by omega) (by omega)).call (by omega) ?_
        intro e2 H7 i1 i2 i3
        simp (maxSteps := 10000000) (disch := omega) only [go_sem]
        refine conv_text i3.sl ?_
        simp (maxSteps := 10000000) (disch := omega) only [go_sem]
        refine (awake4_fun _).call (by first | omega | (show H.size ≤ _; omega)) ?_
        rintro _ H8 j1 j2 rfl
        simp (maxSteps := 10000000) (disch := omega) only [go_sem]
    · exact ⟨0, by omega, by simp (maxSteps := 10000000) (disch := omega) only [go_sem], by simp (maxSteps := 10000000) (disch := omega) only [go_sem], by simp (maxSteps := 10000000) (disch := omega) only [go_sem], by simp (maxSteps := 10000000) (disch := omega) only [go_sem], by simp (maxSteps := 10000000) (disch := omega) only [go_sem], by simp (maxSteps := 10000000) (disch := omega) only [go_sem], rfl⟩

end Go.Proofs.Ytcapjjmikapmfaa.M
