/- HKDF: the chains. -/
import Derived.Test.YtcapjjmikapmfaaHd
set_option linter.unusedVariables false
set_option linter.unusedSimpArgs false
namespace Go.Proofs.Ytcapjjmikapmfaa.M
open Go Go.Proofs

def hkL (prk : List (BitVec 8)) : Nat → List (List (BitVec 8))
  | 0 => []
  | k + 1 => hkL prk k ++ [hkT prk [] (k + 1)]
theorem hkL_length (prk : List (BitVec 8)) : ∀ k, (hkL prk k).length = k
  | 0 => rfl
  | k + 1 => by rw [hkL, List.length_append, hkL_length prk k]; rfl

def ChainQ (prk : List (BitVec 8)) (n : Int) (r : Value) (H' : Heap) : Prop :=
  (1 ≤ n ∧ n ≤ 3 → ∃ w, r = .tuple #[w, .int .i64 0] ∧ SlL H' w (hkL prk n.toNat)) ∧ (¬ (1 ≤ n ∧ n ≤ 3) → r = .tuple #[.slice none 0 0, .int .i64 1])

structure CI (H0 : Heap) (l p q i5 i8 : Nat) (L : Blk) (kv iv : Value) (prk : List (BitVec 8)) (n : Int) (j : Nat) (H : Heap) : Prop where
  loop : H[l]? = some L
  bp : H[p]? = some (.cells [kv] true false)
  bq : H[q]? = some (.cells [iv] true false)
  b5 : H[i5]? = some (.cells [.int .i64 n] true false)
  key : Sl H kv prk
  out : ∃ w, H[i8]? = some (.cells [w] true false) ∧ OL H (l + 1) w (hkL prk j)
  size : H0.size ≤ H.size
  old : ∀ k, k < H0.size → H[k]? = H0[k]?
  lt : (j : Int) < n

theorem CI.grow {H0 : Heap} {l p q i5 i8 : Nat} {L : Blk} {kv iv : Value} {prk : List (BitVec 8)} {n : Int} {j : Nat} {H H' : Heap} (X : CI H0 l p q i5 i8 L kv iv prk n j H) (hs : H.size ≤ H'.size) (ho : ∀ i, i < H.size → H'[i]? = H[i]?) : CI H0 l p q i5 i8 L kv iv prk n j H' := by
  obtain ⟨w, bw, how⟩ := X.out
  exact ⟨by rw [ho _ (get_lt X.loop)]; exact X.loop, by rw [ho _ (get_lt X.bp)]; exact X.bp, by rw [ho _ (get_lt X.bq)]; exact X.bq, by rw [ho _ (get_lt X.b5)]; exact X.b5, X.key.keep_old2 ho,
    ⟨w, by rw [ho _ (get_lt bw)]; exact bw, how.keep fun k _ hk => ho k hk⟩, by have := X.size; omega, fun k hk => by rw [ho k (by have := X.size; omega)]; exact X.old k hk, X.lt⟩

set_option maxRecDepth 20000 in
set_option maxHeartbeats 4000000 in
theorem chain_fun {kv iv : Value} {salt ikm : List (BitVec 8)} {H : Heap} (n : Int) (hk : Sl H kv salt) (hi : Sl H iv ikm) (hpl : salt.length ≤ 1000000000000) (hil : ikm.length ≤ 1000000000000) : Fun Try.prog 93 [kv, iv, .int .i64 n] H (fun r H' => ChainQ (hmac salt ikm) n r H') := by
  refine fun_of Try.func93 rfl (by decide +kernel) (Nat.le_of_ble_eq_true rfl) ?_
  unfold Try.f93
  simp (maxSteps := 10000000) (disch := omega) only [go_sem]
  refine ⟨rfl, ?_⟩
  have L0 := load_cell (P := Try.prog) (t := 3) (H := H.push (.cells [.int .i64 n] true false)) (i := H.size) (o := 0) get_push_new kind_3 rfl
  simp (maxSteps := 10000000) (disch := omega) only [go_sem, L0]
  by_cases g1 : n < 1
  · simp (maxSteps := 10000000) (disch := omega) only [go_sem, g1]
    exact ⟨fun h => by omega, fun _ => rfl⟩
  · simp (maxSteps := 10000000) (disch := omega) only [go_sem, g1, L0]
    by_cases g2 : (3 : Int) < n
    · simp (maxSteps := 10000000) (disch := omega) only [go_sem, g2]
      exact ⟨fun h => by omega, fun _ => rfl⟩
    · simp (maxSteps := 10000000) (disch := omega) only [go_sem, g2]
      have z1 : (H.push (.cells [.int .i64 n] true false)).size = H.size + 1 := by simp
      rw [z1]
      obtain ⟨H3, hH3⟩ : ∃ H3, H3 = (H.push (.cells [.int .i64 n] true false)).push (.cells [.slice none 0 0] true false) := ⟨_, rfl⟩
      have z3 : H3.size = H.size + 2 := by rw [hH3]; simp
      have b5 : H3[H.size]? = some (.cells [.int .i64 n] true false) := by rw [hH3]; exact keep_push get_push_new
      have b8 : H3[H.size + 1]? = some (.cells [.slice none 0 0] true false) := by rw [hH3, ← z1]; exact get_push_new
      have o3 : ∀ j, j < H.size → H3[j]? = H[j]? := fun j hj => by rw [hH3, get_push_old (by omega), get_push_old hj]
      rw [← hH3]
      refine (extract_fun (hk.keep_old2 o3) (hi.keep_old2 o3) (by omega) (by omega)).call (by omega) ?_
      intro ev' H4 x1 x2 x3
      have x3 := Ow.sl x3
      obtain ⟨prk, hprk⟩ : ∃ prk, prk = hmac salt ikm := ⟨_, rfl⟩
      have hpl2 : prk.length = 32 := by rw [hprk, hmac_length]
      rw [← hprk] at x3 ⊢
      simp (maxSteps := 10000000) (disch := omega) only [go_sem]
      refine (parts_fun x3 (Sl.nil H4)).call (by omega) ?_
      rintro _ H5 a1 a2 ⟨p, q, rfl, hpq, hp1, hq1, hp2, hq2, bp, bq⟩
      simp (maxSteps := 10000000) (disch := omega) only [go_sem]
      have k5 : H5[H.size]? = some (.cells [.int .i64 n] true false) := by rw [a2 _ (by omega), x2 _ (by omega)]; exact b5
      have k8 : H5[H.size + 1]? = some (.cells [.slice none 0 0] true false) := by rw [a2 _ (by omega), x2 _ (by omega)]; exact b8
      have o5 : ∀ j, j < H.size → H5[j]? = H[j]? := fun j hj => by rw [a2 _ (by omega), x2 _ (by omega)]; exact o3 j hj
      have hkey := x3.keep_old2 a2
      refine wg_gen (fun b => b 5 = .pointer (some ⟨H.size, 0, none⟩) ∧ b 8 = .pointer (some ⟨H.size + 1, 0, none⟩) ∧ b 20 = .func (.func 129) #[] #[.pointer (some ⟨p, 0, none⟩), .pointer (some ⟨q, 0, none⟩)]) ⟨by simp (maxSteps := 10000000) (disch := omega) only [go_sem], by simp (maxSteps := 10000000) (disch := omega) only [go_sem], by simp (maxSteps := 10000000) (disch := omega) only [go_sem]⟩ ?_
      rintro A ⟨q5, q8, q20⟩
      refine wg_range (g := .func 129) (cap := [.pointer (some ⟨p, 0, none⟩), .pointer (some ⟨q, 0, none⟩)]) q20 ?_
      intro AS BD hAS hBD
      refine parts_iter (info := []) (CI H H5.size p q H.size (H.size + 1) (.loop 93 32 A [21, 22] AS BD .ready) ev' (.slice none 0 0) prk n) (by omega) (by simp) (fun j H6 X => ⟨X.size, X.bp, X.bq, X.key, Sl.nil _⟩) (fun j H6 H7 X => X.grow) ?_ ?_ ?_
      · intro j H6 part X hlt hpart
        obtain ⟨w, bw, how⟩ := X.out
        have ll := get_lt X.loop
        have lp := get_lt X.bp
        have lq := get_lt X.bq
        have hlt3 := X.lt
        refine yield_call (show H.size ≤ H5.size by omega) X.loop rfl ?_
        obtain ⟨Hb, hHb⟩ : ∃ Hb, Hb = H6.setIfInBounds H5.size (.loop 93 32 A [21, 22] AS BD .busy) := ⟨_, rfl⟩
        have hne : ∀ k, k ≠ H5.size → Hb[k]? = H6[k]? := fun k hk => by rw [hHb]; exact sg_ne hk
        have hbs : Hb.size = H6.size := by rw [hHb]; simp
        have c5 : Hb[H.size]? = some (.cells [.int .i64 n] true false) := by rw [hne _ (by omega)]; exact X.b5
        have c8 : Hb[H.size + 1]? = some (.cells [w] true false) := by rw [hne _ (by omega)]; exact bw
        have hL : Hb[H5.size]? = some (.loop 93 32 A [21, 22] AS BD .busy) := by rw [hHb]; exact sg_get ll
        have toB : ∀ x xs, Sl H6 x xs → Sl Hb x xs := fun x xs h => by
          refine h.mono ?_
          intro k vs ex tl hc
          by_cases hk : k = H5.size
          · subst hk
            rw [X.loop] at hc; cases hc
          · exact ⟨ex, tl, by rw [hne k hk]; exact hc⟩
        have hpb := toB _ _ hpart
        have howb : OL Hb (H5.size + 1) w (hkL prk j) := how.keep fun k h1 h2 => hne k (by omega)
        have M8 := load_cell (P := Try.prog) (t := 79) c8 kind_79 (o := 0) rfl
        refine wg_code hAS ?_
        simp (maxSteps := 10000000) (disch := omega) only [go_sem, List.zip_cons_cons, List.zip_nil_left, List.foldl_cons, List.foldl_nil]
        refine ⟨X.loop, ?_⟩
        rw [← hHb]
        refine wg_code hBD ?_
        simp (maxSteps := 10000000) (disch := omega) only [go_sem]
        refine draw_of 4 (by kernel_rfl) ?_
        simp (maxSteps := 10000000) (disch := omega) only [go_sem, q5, q8, M8]
        have hsl := hkT_succ_length prk [] j
        refine (clone_fun hpb (by omega)).call (Nat.le_refl _) ?_
        intro x H7 y1 y2 y3
        simp (maxSteps := 10000000) (disch := omega) only [go_sem]
        refine build_one y3.sl ?_
        intro H8 e8
        have z8 : H8.size = H7.size + 1 := by rw [e8]; simp
        have o8 : ∀ k, k < Hb.size → H8[k]? = Hb[k]? := fun k hk => by rw [e8, get_push_old (by omega), y2 k hk]
        have b8x : H8[H7.size]? = some (.cells [x] true true) := by rw [e8]; exact get_push_new
        have hx8 : Sl H8 x (hkT prk [] (j + 1)) := by rw [e8]; exact y3.sl.mono (Rd.push _ _)
        have hxb : ∀ k, blockOf x = some k → Hb.size ≤ k := fun k hk => (y3.in hk).1
        have hll := hkL_length prk j
        simp (maxSteps := 10000000) (disch := omega) only [go_sem]
        refine OL.append (howb.keep fun k h1 h2 => o8 k h2) hx8 (fun k hk => by have := hxb k hk; omega) b8x (by omega) (by omega) (by omega) ?_
        intro w' H9 g1 g2 g3 g3' g4
        have e8' : H9[H.size + 1]? = some (.cells [w] true false) := by rw [g3 _ (by omega), o8 _ (by omega)]; exact c8
        have hpb9 := (hpb.keep_old2 o8).mono g2
        have hk9 := ((toB _ _ X.key).keep_old2 o8).mono g2
        obtain ⟨w1, w2, w3, rfl⟩ := g4.form
        simp (maxSteps := 10000000) (disch := omega) only [go_sem, q8]
        refine store_cell e8' sz_79 rfl (by omega) (by simp) ?_
        intro H10 s1 s2 s3
        have hno : ∀ (k : Nat) (b : BitVec 8), ([w] : List Value)[k]? ≠ some (u8 b) := by
          intro k b e
          obtain ⟨v1, v2, v3, hv⟩ := how.form
          rw [hv] at e
          cases k with
          | zero => simp [u8] at e
          | succ k => simp at e
        have to10 : ∀ x xs, Sl H9 x xs → Sl H10 x xs := fun x xs h => h.but e8' hno (fun k vs ex tl hk hc => ⟨ex, tl, by rw [s2 k hk]; exact hc⟩)
        have hpc := to10 _ _ hpb9
        have hkc := to10 _ _ hk9
        have o10 : ∀ k, k < H5.size + 1 → k ≠ H.size + 1 → H10[k]? = Hb[k]? := fun k hk h1 => by rw [s2 k h1, g3 k hk, o8 k (by omega)]
        have d5 : H10[H.size]? = some (.cells [.int .i64 n] true false) := by rw [o10 _ (by omega) (by omega)]; exact c5
        have d8 : H10[H.size + 1]? = some (.cells [.slice w1 w2 w3] true false) := s3
        have M5 := load_cell (P := Try.prog) (t := 3) d5 kind_3 (o := 0) rfl
        have hl10 : H5.size < H10.size := by omega
        have hL10 : H10[H5.size]? = some (.loop 93 32 A [21, 22] AS BD .busy) := by rw [o10 _ (by omega) (by omega)]; exact hL
        have how10 : OL H10 (H5.size + 1) (.slice w1 w2 w3) (hkL prk (j + 1)) := g4.keep fun k h1 h2 => s2 k (by omega)
        simp (maxSteps := 10000000) (disch := omega) only [go_sem, q5, M5]
        by_cases h1 : (j : Int) + 1 = n
        · simp (maxSteps := 10000000) (disch := omega) only [go_sem, h1]
          refine ⟨hL10, .inr ⟨rfl, .inr (.inr ⟨0, sg_get (by omega), ?_⟩)⟩⟩
          obtain ⟨Hf, hHf⟩ : ∃ Hf, Hf = (H10.setIfInBounds H5.size (.loop 93 32 A [21, 22] AS BD (.done (.exit 0)))).setIfInBounds H5.size (.loop 93 32 A [21, 22] AS BD .over) := ⟨_, rfl⟩
          rw [← hHf]
          have of : ∀ k, k ≠ H5.size → Hf[k]? = H10[k]? := fun k hk => by rw [hHf, sg_ne hk, sg_ne hk]
          have f8 : Hf[H.size + 1]? = some (.cells [.slice w1 w2 w3] true false) := by rw [of _ (by omega)]; exact d8
          have F8 := load_cell (P := Try.prog) (t := 79) f8 kind_79 (o := 0) rfl
          simp (maxSteps := 10000000) (disch := omega) only [go_sem, q8, F8]
          refine ⟨fun _ => ⟨_, rfl, ?_⟩, fun h => by omega⟩
          have hnj : n.toNat = j + 1 := by omega
          rw [hnj]
          exact (how10.keep fun k h1 h2 => of k (by omega)).sll
        · simp (maxSteps := 10000000) (disch := omega) only [go_sem, h1]
          have o12 : ∀ k, k ≠ H5.size → (H10.setIfInBounds H5.size (.loop 93 32 A [21, 22] AS BD .ready))[k]? = H10[k]? := fun k hk => sg_ne hk
          have to12 : ∀ x xs, Sl H10 x xs → Sl (H10.setIfInBounds H5.size (.loop 93 32 A [21, 22] AS BD .ready)) x xs := fun x xs h => by
            refine h.mono ?_
            intro k vs ex tl hc
            by_cases hk : k = H5.size
            · subst hk
              rw [hL10] at hc; cases hc
            · exact ⟨ex, tl, by rw [o12 k hk]; exact hc⟩
          refine ⟨hL10, .inl ⟨rfl, ⟨sg_get hl10, ?_, ?_, ?_, to12 _ _ hkc, ⟨.slice w1 w2 w3, ?_, ?_⟩, by simp; omega, fun k hk => ?_, by omega⟩, to12 _ _ hpc⟩⟩
          · rw [o12 _ (by omega), o10 _ (by omega) (by omega), hne _ (by omega)]; exact X.bp
          · rw [o12 _ (by omega), o10 _ (by omega) (by omega), hne _ (by omega)]; exact X.bq
          · rw [o12 _ (by omega)]; exact d5
          · rw [o12 _ (by omega)]; exact d8
          · exact how10.keep fun k h1 h2 => o12 k (by omega)
          · rw [o12 _ (by omega), o10 _ (by omega) (by omega), hne _ (by omega)]; exact X.old k hk
      · refine ⟨get_push_new, by rw [get_push_old hp2]; exact bp, by rw [get_push_old hq2]; exact bq, by rw [get_push_old (by omega)]; exact k5, hkey.mono (Rd.push _ _), ⟨_, by rw [get_push_old (by omega)]; exact k8, OL.nil _ _⟩, by simp; omega, fun k hk => by rw [get_push_old (by omega)]; exact o5 k hk, by omega⟩
      · intro H6 X
        have := X.lt
        omega

def rcInv (H0 : Heap) (ev' : Value) (prk : List (BitVec 8)) (n : Int) (B : Nat) (m : Nat) (a : AAct) (H : Heap) : Prop :=
  ∃ k : Nat, k + m = n.toNat ∧ a 8 = ev' ∧ a 21 = .int .i64 n ∧ a 22 = .int .i64 (k : Nat) ∧ Sl H ev' prk ∧ Sl H (a 10) (hkT prk [] k) ∧ (∀ i, blockOf (a 10) = some i → B ≤ i) ∧ OL H B (a 9) (hkL prk k) ∧ B ≤ H.size

set_option maxRecDepth 20000 in
set_option maxHeartbeats 4000000 in
theorem refChain_fun {kv iv : Value} {salt ikm : List (BitVec 8)} {H : Heap} (n : Int) (hk : Sl H kv salt) (hi : Sl H iv ikm) (hpl : salt.length ≤ 1000000000000) (hil : ikm.length ≤ 1000000000000) : Fun Try.prog 94 [kv, iv, .int .i64 n] H (fun r H' => ChainQ (hmac salt ikm) n r H') := by
  refine fun_of Try.func94 rfl (by decide +kernel) (Nat.le_of_ble_eq_true rfl) ?_
  unfold Try.f94
  simp (maxSteps := 10000000) (disch := omega) only [go_sem]
  by_cases g1 : n < 1
  · simp (maxSteps := 10000000) (disch := omega) only [go_sem, g1]
    exact ⟨fun h => by omega, fun _ => rfl⟩
  · simp (maxSteps := 10000000) (disch := omega) only [go_sem, g1]
    by_cases g2 : (3 : Int) < n
    · simp (maxSteps := 10000000) (disch := omega) only [go_sem, g2]
      exact ⟨fun h => by omega, fun _ => rfl⟩
    · simp (maxSteps := 10000000) (disch := omega) only [go_sem, g2]
      refine (refHmac_fun hk hi (by omega) (by omega)).call (Nat.le_refl _) ?_
      intro ev' H4 x1 x2 x3
      obtain ⟨prk, hprk⟩ : ∃ prk, prk = hmac salt ikm := ⟨_, rfl⟩
      have hpl2 : prk.length = 32 := by rw [hprk, hmac_length]
      rw [← hprk] at x3 ⊢
      simp (maxSteps := 10000000) (disch := omega) only [go_sem]
      refine wp_loop (rcInv H ev' prk n H.size) ?_ n.toNat ?_
      · rintro m a H1 ⟨k, hkm, h8, h21, h22, hkey, hT, hTb, hO, hB⟩
        simp (maxSteps := 10000000) (disch := omega) only [go_sem, h21, h22]
        by_cases hlt : (k : Int) < n
        · simp (maxSteps := 10000000) (disch := omega) only [go_sem, h8, h21, h22, hlt, wrap_i64]
          refine build_two (hT.mono (Rd.push _ _)) (sl_one H1 _) ?_
          intro H2 e2 hs
          have z1 : (H1.push (.cells [u8 (BitVec.ofInt 8 ((k : Int) + 1))] true true)).size = H1.size + 1 := by simp
          have z2 : H2.size = H1.size + 2 := by rw [e2]; simp
          have o2 : ∀ i, i < H1.size → H2[i]? = H1[i]? := fun i hi => by rw [e2, get_push_old (by omega), get_push_old hi]
          have htl := hkT_length prk [] k
          have hfl : [hkT prk [] k, [BitVec.ofInt 8 ((k : Int) + 1)]].flatten.length = (hkT prk [] k).length + 1 := by simp
          simp (maxSteps := 10000000) (disch := omega) only [go_sem]
          refine (join_fun hs (by omega) (by simp)).call (by omega) ?_
          intro cb H3 c1 c2 c3
          have o3 : ∀ i, i < H1.size → H3[i]? = H1[i]? := fun i hi => by rw [c2 i (by omega), o2 i hi]
          simp (maxSteps := 10000000) (disch := omega) only [go_sem, h8]
          refine (refHmac_fun (hkey.keep_old2 o3) c3.sl (by omega) (by omega)).call (by omega) ?_
          intro tb H5 d1 d2 d3
          have o5 : ∀ i, i < H1.size → H5[i]? = H1[i]? := fun i hi => by rw [d2 i (by omega), o3 i hi]
          have e : hmac prk [hkT prk [] k, [BitVec.ofInt 8 ((k : Int) + 1)]].flatten = hkT prk [] (k + 1) := by
            show _ = hmac prk [hkT prk [] k, [], [BitVec.ofInt 8 ((k : Int) + 1)]].flatten
            simp
          rw [e] at d3
          simp (maxSteps := 10000000) (disch := omega) only [go_sem]
          refine build_one d3.sl ?_
          intro H6 e6
          have z6 : H6.size = H5.size + 1 := by rw [e6]; simp
          have o6 : ∀ i, i < H1.size → H6[i]? = H1[i]? := fun i hi => by rw [e6, get_push_old (by omega), o5 i hi]
          have b6 : H6[H5.size]? = some (.cells [tb] true true) := by rw [e6]; exact get_push_new
          have hx6 : Sl H6 tb (hkT prk [] (k + 1)) := by rw [e6]; exact d3.sl.mono (Rd.push _ _)
          have hll := hkL_length prk k
          simp (maxSteps := 10000000) (disch := omega) only [go_sem]
          refine OL.append (hO.keep fun i h1 h2 => o6 i h2) hx6 (fun i hi => by have := (d3.in hi).1; omega) b6 (Nat.le_refl _) (by omega) (by omega) ?_
          intro w' H7 g1 g2 g3 g3' g4
          simp (maxSteps := 10000000) (disch := omega) only [go_sem, h22, wrap_i64]
          exact ⟨m - 1, by omega, k + 1, by omega, by simp (maxSteps := 10000000) (disch := omega) only [go_sem, h8], by simp (maxSteps := 10000000) (disch := omega) only [go_sem, h21], by simp (maxSteps := 10000000) (disch := omega) only [go_sem]; push_cast; rfl, (hkey.keep_old2 o6).mono g2, by simp (maxSteps := 10000000) (disch := omega) only [go_sem]; exact hx6.mono g2, by simp (maxSteps := 10000000) (disch := omega) only [go_sem]; exact fun i hi => by have := (d3.in hi).1; omega, by simp (maxSteps := 10000000) (disch := omega) only [go_sem]; exact g4, by omega⟩
        · simp (maxSteps := 10000000) (disch := omega) only [go_sem, h21, h22, hlt]
          refine ⟨fun _ => ⟨_, rfl, ?_⟩, fun h => by omega⟩
          have hkk : k = n.toNat := by omega
          rw [← hkk]
          exact hO.sll
      · exact ⟨0, by omega, by simp (maxSteps := 10000000) (disch := omega) only [go_sem], by simp (maxSteps := 10000000) (disch := omega) only [go_sem], by simp (maxSteps := 10000000) (disch := omega) only [go_sem], x3.sl, by simp (maxSteps := 10000000) (disch := omega) only [go_sem]; exact Sl.nil _, by simp (maxSteps := 10000000) (disch := omega) only [go_sem]; simp [blockOf], by simp (maxSteps := 10000000) (disch := omega) only [go_sem]; exact OL.nil _ _, by omega⟩

end Go.Proofs.Ytcapjjmikapmfaa.M
