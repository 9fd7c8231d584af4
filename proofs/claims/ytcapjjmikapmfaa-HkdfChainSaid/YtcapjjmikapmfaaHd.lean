/- HKDF: the reference's Expand, and rows of parts. -/
import Derived.Test.YtcapjjmikapmfaaHc
set_option linter.unusedVariables false
set_option linter.unusedSimpArgs false
namespace Go.Proofs.Ytcapjjmikapmfaa.M
open Go Go.Proofs

def reInv (H0 : Heap) (kv iv : Value) (prk info : List (BitVec 8)) (n : Int) (m : Nat) (a : AAct) (H : Heap) : Prop :=
  ∃ k : Nat, k + m = (n.toNat + 31) / 32 ∧ a 0 = kv ∧ a 1 = iv ∧ a 2 = .int .i64 n ∧ a 10 = .int .i64 ((k : Int) + 1) ∧ Sl H (a 9) (hkT prk info k) ∧ Ow H H0.size (a 8) (hkOut prk info k) ∧ H0.size ≤ H.size ∧ (∀ j, j < H0.size → H[j]? = H0[j]?)

set_option maxRecDepth 20000 in
set_option maxHeartbeats 2000000 in
theorem refExpand_fun {kv iv : Value} {prk info : List (BitVec 8)} {H : Heap} (n : Int) (hk : Sl H kv prk) (hi : Sl H iv info) (hpl : prk.length ≤ 1000000000000) (hil : info.length ≤ 1000000000000) : Fun Try.prog 92 [kv, iv, .int .i64 n] H (fun r H' => ExpandQ prk info n r H') := by
  refine fun_of Try.func92 rfl (by decide +kernel) (Nat.le_of_ble_eq_true rfl) ?_
  unfold Try.f92
  simp (maxSteps := 10000000) (disch := omega) only [go_sem]
  by_cases g1 : n < 0
  · simp (maxSteps := 10000000) (disch := omega) only [go_sem, g1]
    exact ⟨fun h => by omega, fun _ => rfl⟩
  · simp (maxSteps := 10000000) (disch := omega) only [go_sem, g1]
    by_cases g2 : (8160 : Int) < n
    · simp (maxSteps := 10000000) (disch := omega) only [go_sem, g2]
      exact ⟨fun h => by omega, fun _ => rfl⟩
    · simp (maxSteps := 10000000) (disch := omega) only [go_sem, g2]
      refine wp_loop (reInv H kv iv prk info n) ?_ ((n.toNat + 31) / 32) ?_
      · rintro m a H1 ⟨k, hkm, h0, h1, h2, h10, hT, how, hB, old⟩
        have hol := hkOut_length prk info k
        have hown := (Ow.sl how).len
        simp (maxSteps := 10000000) (disch := omega) only [go_sem, hown, h2]
        by_cases hlt : 32 * k < n.toNat
        · have hlt' := eq_true (show ((hkOut prk info k).length : Int) < n by omega)
          simp (maxSteps := 10000000) (disch := omega) only [go_sem, h0, h1, h2, h10, hlt', hown]
          have htl := hkT_length prk info k
          refine build_three (hT.mono (Rd.push _ _)) ((hi.keep_old2 old).mono (Rd.push _ _)) (sl_one H1 _) ?_
          intro H2 e2 hs
          have z1 : (H1.push (.cells [u8 (BitVec.ofInt 8 ((k : Int) + 1))] true true)).size = H1.size + 1 := by simp
          have z2 : H2.size = H1.size + 2 := by rw [e2]; simp
          have o2 : ∀ i, i < H1.size → H2[i]? = H1[i]? := fun i hi => by rw [e2, get_push_old (by omega), get_push_old hi]
          have hfl : [hkT prk info k, info, [BitVec.ofInt 8 ((k : Int) + 1)]].flatten.length = (hkT prk info k).length + info.length + 1 := by simp; omega
          simp (maxSteps := 10000000) (disch := omega) only [go_sem]
          refine (join_fun hs (by omega) (by simp)).call (by omega) ?_
          intro cb H3 c1 c2 c3
          have o3 : ∀ i, i < H1.size → H3[i]? = H1[i]? := fun i hi => by rw [c2 i (by omega), o2 i hi]
          simp (maxSteps := 10000000) (disch := omega) only [go_sem, h0]
          refine (refHmac_fun ((hk.keep_old2 old).keep_old2 o3) c3.sl (by omega) (by omega)).call (by omega) ?_
          intro tb H4 d1 d2 d3
          have o4 : ∀ i, i < H1.size → H4[i]? = H1[i]? := fun i hi => by rw [d2 i (by omega), o3 i hi]
          have hsl := hkT_succ_length prk info k
          have d4 : Sl H4 tb (hkT prk info (k + 1)) := d3.sl
          simp (maxSteps := 10000000) (disch := omega) only [go_sem]
          refine append_bytes (OV.keep how fun j hj _ => o4 j hj) d4 (Nat.le_refl _) (by omega) (by omega) ?_
          intro w' H5 g1 g2 g3 g4 g5
          simp (maxSteps := 10000000) (disch := omega) only [go_sem, h10, wrap_i64]
          refine ⟨m - 1, by omega, k + 1, by omega, by simp (maxSteps := 10000000) (disch := omega) only [go_sem, h0], by simp (maxSteps := 10000000) (disch := omega) only [go_sem, h1], by simp (maxSteps := 10000000) (disch := omega) only [go_sem, h2], by simp (maxSteps := 10000000) (disch := omega) only [go_sem]; push_cast; rfl, by simp (maxSteps := 10000000) (disch := omega) only [go_sem]; exact d4.mono g2, by simp (maxSteps := 10000000) (disch := omega) only [go_sem]; exact g4, by omega, fun j hj => ?_⟩
          rw [g3 j (by omega) (fun e => by have := (how.in e).1; omega), o4 j (by omega)]; exact old j hj
        · have hlt' := eq_false (show ¬ ((hkOut prk info k).length : Int) < n by omega)
          obtain ⟨x, x1, x2, x3⟩ := (Ow.sl how).hi (k := n) (by omega) (by rw [hkOut_length]; omega)
          simp (maxSteps := 10000000) (disch := omega) only [go_sem, h2, hlt', x1]
          refine ⟨fun _ => ⟨x, rfl, ?_⟩, fun h => by omega⟩
          have hkk : k = (n.toNat + 31) / 32 := by omega
          rw [← hkk]
          exact x2
      · exact ⟨0, by omega, by simp (maxSteps := 10000000) (disch := omega) only [go_sem], by simp (maxSteps := 10000000) (disch := omega) only [go_sem], by simp (maxSteps := 10000000) (disch := omega) only [go_sem], by simp (maxSteps := 10000000) (disch := omega) only [go_sem]; rfl, by simp (maxSteps := 10000000) (disch := omega) only [go_sem]; exact Sl.nil _, by simp (maxSteps := 10000000) (disch := omega) only [go_sem]; exact OV.nil _ _, Nat.le_refl _, fun _ _ => rfl⟩

/-! ### Rows of parts -/
def OL (H : Heap) (B : Nat) (v : Value) (xss : List (List (BitVec 8))) : Prop :=
  ∃ vs : List Value, OV H B v vs ∧ vs.length = xss.length ∧ ∀ (j : Nat) (x : Value) (xs : List (BitVec 8)), vs[j]? = some x → xss[j]? = some xs → Sl H x xs ∧ ∀ k, blockOf x = some k → B ≤ k
theorem OL.nil (H : Heap) (B : Nat) : OL H B (.slice none 0 0) [] := ⟨[], OV.nil _ _, rfl, fun j x xs h => by simp at h⟩
theorem OL.sll {H : Heap} {B : Nat} {v : Value} {xss : List (List (BitVec 8))} (h : OL H B v xss) : SlL H v xss := by
  obtain ⟨vs, h1, h2, h3⟩ := h
  exact ⟨vs, OV.sv h1, h2, fun j x xs e1 e2 => (h3 j x xs e1 e2).1⟩
theorem Sl.keepAt {H H' : Heap} {v : Value} {xs : List (BitVec 8)} (h : Sl H v xs) (hk : ∀ j, j < H.size → blockOf v = some j → H'[j]? = H[j]?) : Sl H' v xs := by
  rcases h with h | ⟨i, o, c, rfl, h2, h3⟩
  · exact .inl h
  · refine .inr ⟨i, o, c, rfl, h2, fun hne => ?_⟩
    obtain ⟨vs, ex, tl, e1, e2, e3⟩ := h3 hne
    exact ⟨vs, ex, tl, by rw [hk i (get_lt e1) rfl]; exact e1, e2, e3⟩
theorem OV.inB {H : Heap} {B : Nat} {v : Value} {xs : List Value} (h : OV H B v xs) {j : Nat} (hj : blockOf v = some j) : B ≤ j := by
  rcases h with ⟨rfl, _⟩ | ⟨q, o, c, ex, vs, rfl, _, hq, hi, _⟩
  · cases hj
  · cases hj; exact hq
theorem OL.keep {H H' : Heap} {B : Nat} {v : Value} {xss : List (List (BitVec 8))} (h : OL H B v xss) (hk : ∀ j, B ≤ j → j < H.size → H'[j]? = H[j]?) : OL H' B v xss := by
  obtain ⟨vs, h1, h2, h3⟩ := h
  exact ⟨vs, OV.keep h1 fun j hj hb => hk j (h1.inB hb) hj, h2, fun j x xs e1 e2 => ⟨(h3 j x xs e1 e2).1.keepAt fun k hk' hb => hk k ((h3 j x xs e1 e2).2 k hb) hk', (h3 j x xs e1 e2).2⟩⟩
theorem OL.inB {H : Heap} {B : Nat} {v : Value} {xss : List (List (BitVec 8))} (h : OL H B v xss) {j : Nat} (hj : blockOf v = some j) : B ≤ j := by
  obtain ⟨vs, h1, _⟩ := h
  exact h1.inB hj
theorem OL.form {H : Heap} {B : Nat} {v : Value} {xss : List (List (BitVec 8))} (h : OL H B v xss) : ∃ p n c, v = .slice p n c := by
  obtain ⟨vs, h1, _⟩ := h
  rcases h1 with ⟨rfl, _⟩ | ⟨i, o, c, ex, vs, rfl, _⟩ <;> exact ⟨_, _, _, rfl⟩
theorem SlL.len {H : Heap} {v : Value} {xss : List (List (BitVec 8))} (h : SlL H v xss) (H' : Heap) (K : Value → Heap → Prop) : lenK Try.prog 79 v H' K = K (.int .i64 (xss.length : Nat)) H' := by
  obtain ⟨vs, h1, h2, h3⟩ := h
  rw [h1.len Try.underlying79, h2]

theorem one_sl {H : Heap} {i : Nat} {x : Value} (hi : H[i]? = some (.cells [x] true true)) : SV H (.slice (some ⟨i, 0, some 1⟩) 1 1) [x] :=
  .inr ⟨i, 0, 1, rfl, by simp, fun _ => ⟨[x], true, true, hi, by simp, fun k y hk => by simpa using hk⟩⟩

theorem OL.append {N B i : Nat} {H : Heap} {s x : Value} {xss : List (List (BitVec 8))} {xs : List (BitVec 8)} {K : Value → Heap → Prop} (hs : OL H B s xss) (hx : Sl H x xs) (hxb : ∀ k, blockOf x = some k → B ≤ k) (hi : H[i]? = some (.cells [x] true true)) (hN : N ≤ B) (hB : B ≤ H.size) (hl : xss.length ≤ 1000)
    (hK : ∀ v' H', H.size ≤ H'.size → Rd H H' → (∀ j, j < B → H'[j]? = H[j]?) → (∀ j, j < H.size → blockOf s ≠ some j → H'[j]? = H[j]?) → OL H' B v' (xss ++ [xs]) → K v' H') : appendK Try.prog N 79 79 s (.slice (some ⟨i, 0, some 1⟩) 1 1) H K := by
  obtain ⟨vs, h1, h2, h3⟩ := hs
  have hok : [x].all cellOk = true := by
    obtain ⟨p, n, c, rfl⟩ := hx.form
    rfl
  refine appendK_own (bt := 24) Try.underlying79 sz_47 bt_47 zc_47 (by simp [nonInt, Try.underlying79]) h1 (one_sl hi) hN hB hok (by simp; omega) (by simp; omega) ?_
  intro v' H' a1 a2 a3 a4 a5
  refine hK v' H' a1 a2 (fun j hj => a3 j (by omega) fun e => by have := h1.inB e; omega) a3 ⟨_, a4, by simp [h2], fun j y ys e1 e2 => ?_⟩
  by_cases hj : j < vs.length
  · rw [List.getElem?_append_left hj] at e1
    rw [List.getElem?_append_left (by omega)] at e2
    have := h3 j y ys e1 e2
    exact ⟨this.1.mono a2, this.2⟩
  · rw [List.getElem?_append_right (by omega)] at e1 e2
    have hj0 : j - vs.length = 0 := by
      rcases Nat.eq_zero_or_pos (j - vs.length) with h | h
      · exact h
      · rw [List.getElem?_eq_none (by simp; omega)] at e1; cases e1
    rw [hj0] at e1
    rw [← h2, hj0] at e2
    simp at e1 e2
    subst e1; subst e2
    exact ⟨hx.mono a2, hxb⟩

set_option maxRecDepth 20000 in
theorem buildSlice_ones (p : Option Addr) (m c : Nat) (H : Heap) (K : Value → Heap → Prop) : buildSliceK Try.prog 79 1 [(0, .slice p m c)] H K = K (.slice (some ⟨H.size, 0, some 1⟩) 1 1) (H.push (.cells [.slice p m c] true true)) := by
  have : buildSliceA Try.prog 79 1 [(0, .slice p m c)] = some ([.slice p m c], 1) := by kernel_rfl
  simp only [buildSliceK, this]
set_option maxRecDepth 20000 in
theorem build_one {H : Heap} {u : Value} {zs : List (BitVec 8)} (hu : Sl H u zs) {K : Value → Heap → Prop} (hK : ∀ H', H' = H.push (.cells [u] true true) → K (.slice (some ⟨H.size, 0, some 1⟩) 1 1) H') : buildSliceK Try.prog 79 1 [(0, u)] H K := by
  have hk := hK _ rfl
  obtain ⟨p, n, c, rfl⟩ := hu.form
  rw [buildSlice_ones]
  exact hk

end Go.Proofs.Ytcapjjmikapmfaa.M
