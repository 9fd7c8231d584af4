/- HKDF: extract and expand. -/
import Derived.Test.YtcapjjmikapmfaaHb
set_option linter.unusedVariables false
set_option linter.unusedSimpArgs false
namespace Go.Proofs.Ytcapjjmikapmfaa.M
open Go Go.Proofs

def hkOut (prk info : List (BitVec 8)) : Nat → List (BitVec 8)
  | 0 => []
  | k + 1 => hkOut prk info k ++ hkT prk info (k + 1)
theorem hkOut_length (prk info : List (BitVec 8)) : ∀ k, (hkOut prk info k).length = 32 * k
  | 0 => rfl
  | k + 1 => by rw [hkOut, List.length_append, hkOut_length prk info k, hkT_succ_length]; omega

theorem Sl.hi3 {H : Heap} {v : Value} {xs : List (BitVec 8)} (h : Sl H v xs) {k : Int} (h0 : 0 ≤ k) (hk : k.toNat ≤ xs.length) :
    ∃ w, sliceA Try.prog 47 v none (some (.int .i64 k)) (some (.int .i64 k)) = some w ∧ Sl H w (xs.take k.toNat) ∧ isNil w = isNil v := by
  obtain ⟨w, e1, e2, e3⟩ := SV.slice h Try.underlying47 sz_5 (lo := none) (hi := some (.int .i64 k)) (mx := some (.int .i64 k)) (l := 0) (h := k.toNat) (m := fun c => k.toNat) (by omega) (by simpa using hk) (by
    intro c hc
    simp only [List.length_map] at hc ⊢
    refine ⟨?_, by omega⟩
    have h1 : k ≤ c := by omega
    have h5 : k ≤ max k 0 := by omega
    simp [boundsA, boundA, intA, h0, h1, h5])
  exact ⟨w, e1, by simpa [Sl, List.map_take] using e2, e3⟩

set_option maxRecDepth 20000 in
theorem extract_fun {v w : Value} {key bs : List (BitVec 8)} {H : Heap} (hv : Sl H v key) (hw : Sl H w bs) (hl : key.length ≤ 100000000000000) (hl2 : bs.length ≤ 50000000000000) : Fun Try.prog 95 [v, w] H (fun r H' => Ow H' H.size r (hmac key bs)) := by
  refine fun_of Try.func95 rfl (by decide +kernel) (Nat.le_of_ble_eq_true rfl) ?_
  unfold Try.f95
  simp (maxSteps := 10000000) (disch := omega) only [go_sem]
  refine (hmacSum_fun hv hw hl hl2).call (Nat.le_refl _) ?_
  intro r H1 a1 a2 a3
  simp (maxSteps := 10000000) (disch := omega) only [go_sem]
  exact a3

/-! ### Expand -/
def ExpandQ (prk info : List (BitVec 8)) (n : Int) (r : Value) (H' : Heap) : Prop :=
  (0 ≤ n ∧ n ≤ 8160 → ∃ w, r = .tuple #[w, .int .i64 0] ∧ Sl H' w ((hkOut prk info ((n.toNat + 31) / 32)).take n.toNat)) ∧ (¬ (0 ≤ n ∧ n ≤ 8160) → r = .tuple #[.slice none 0 0, .int .i64 1])

structure EI (H0 : Heap) (l p q i5 i8 : Nat) (L : Blk) (kv iv : Value) (prk info : List (BitVec 8)) (n : Int) (j : Nat) (H : Heap) : Prop where
  loop : H[l]? = some L
  bp : H[p]? = some (.cells [kv] true false)
  bq : H[q]? = some (.cells [iv] true false)
  b5 : H[i5]? = some (.cells [.int .i64 n] true false)
  out : ∃ w, H[i8]? = some (.cells [w] true false) ∧ Ow H H0.size w (hkOut prk info j) ∧ ∀ k, blockOf w = some k → l < k
  size : H0.size ≤ H.size
  old : ∀ k, k < H0.size → H[k]? = H0[k]?
  lt : j ≠ 0 → (32 * (j - 1 : Nat) : Int) < n

theorem EI.grow {H0 : Heap} {l p q i5 i8 : Nat} {L : Blk} {kv iv : Value} {prk info : List (BitVec 8)} {n : Int} {j : Nat} {H H' : Heap} (X : EI H0 l p q i5 i8 L kv iv prk info n j H) (hs : H.size ≤ H'.size) (ho : ∀ i, i < H.size → H'[i]? = H[i]?) : EI H0 l p q i5 i8 L kv iv prk info n j H' := by
  obtain ⟨w, bw, how, hwb⟩ := X.out
  exact ⟨by rw [ho _ (get_lt X.loop)]; exact X.loop, by rw [ho _ (get_lt X.bp)]; exact X.bp, by rw [ho _ (get_lt X.bq)]; exact X.bq, by rw [ho _ (get_lt X.b5)]; exact X.b5,
    ⟨w, by rw [ho _ (get_lt bw)]; exact bw, OV.keep how fun k hk _ => ho k hk, hwb⟩, by have := X.size; omega, fun k hk => by rw [ho k (by have := X.size; omega)]; exact X.old k hk, X.lt⟩

theorem expand_end {n : Int} {j : Nat} (h0 : 0 ≤ n) (h1 : n ≤ 32 * j) (h2 : j ≠ 0 → (32 * (j - 1 : Nat) : Int) < n) : j = (n.toNat + 31) / 32 := by
  by_cases h : j = 0
  · subst h; omega
  · have := h2 h; omega

set_option maxRecDepth 20000 in
set_option maxHeartbeats 2000000 in
theorem expand_fun {kv iv : Value} {prk info : List (BitVec 8)} {H : Heap} (n : Int) (hk : Sl H kv prk) (hi : Sl H iv info) (hpl : prk.length ≤ 1000000000000) (hil : info.length ≤ 1000000000000) : Fun Try.prog 91 [kv, iv, .int .i64 n] H (fun r H' => ExpandQ prk info n r H') := by
  refine fun_of Try.func91 rfl (by decide +kernel) (Nat.le_of_ble_eq_true rfl) ?_
  unfold Try.f91
  simp (maxSteps := 10000000) (disch := omega) only [go_sem]
  refine ⟨rfl, ?_⟩
  have L0 := load_cell (P := Try.prog) (t := 3) (H := H.push (.cells [.int .i64 n] true false)) (i := H.size) (o := 0) get_push_new kind_3 rfl
  simp (maxSteps := 10000000) (disch := omega) only [go_sem, L0]
  by_cases g1 : n < 0
  · simp (maxSteps := 10000000) (disch := omega) only [go_sem, g1]
    exact ⟨fun h => by omega, fun _ => rfl⟩
  · simp (maxSteps := 10000000) (disch := omega) only [go_sem, g1, L0]
    by_cases g2 : (8160 : Int) < n
    · simp (maxSteps := 10000000) (disch := omega) only [go_sem, g2]
      exact ⟨fun h => by omega, fun _ => rfl⟩
    · simp (maxSteps := 10000000) (disch := omega) only [go_sem, g2]
      have z1 : (H.push (.cells [.int .i64 n] true false)).size = H.size + 1 := by simp
      rw [z1]
      obtain ⟨H3, hH3⟩ : ∃ H3, H3 = (H.push (.cells [.int .i64 n] true false)).push (.cells [.slice none 0 0] true false) := ⟨_, rfl⟩
      have z3 : H3.size = H.size + 2 := by rw [hH3]; simp
      have b5 : H3[H.size]? = some (.cells [.int .i64 n] true false) := by rw [hH3]; exact keep_push get_push_new
      have b8 : H3[H.size + 1]? = some (.cells [.slice none 0 0] true false) := by rw [hH3, ← z1]; exact get_push_new
      have o3 : ∀ j, j < H.size → H3[j]? = H[j]? := fun j hj => by rw [hH3, get_push_old (by omega), get_push_old hj]
      rw [← hH3]
      refine (parts_fun (hk.keep_old2 o3) (hi.keep_old2 o3)).call (by omega) ?_
      rintro _ H5 a1 a2 ⟨p, q, rfl, hpq, hp1, hq1, hp2, hq2, bp, bq⟩
      simp (maxSteps := 10000000) (disch := omega) only [go_sem]
      have k5 : H5[H.size]? = some (.cells [.int .i64 n] true false) := by rw [a2 _ (by omega)]; exact b5
      have k8 : H5[H.size + 1]? = some (.cells [.slice none 0 0] true false) := by rw [a2 _ (by omega)]; exact b8
      have o5 : ∀ j, j < H.size → H5[j]? = H[j]? := fun j hj => by rw [a2 _ (by omega)]; exact o3 j hj
      refine wg_gen (fun b => b 5 = .pointer (some ⟨H.size, 0, none⟩) ∧ b 8 = .pointer (some ⟨H.size + 1, 0, none⟩) ∧ b 19 = .func (.func 129) #[] #[.pointer (some ⟨p, 0, none⟩), .pointer (some ⟨q, 0, none⟩)]) ⟨by simp (maxSteps := 10000000) (disch := omega) only [go_sem], by simp (maxSteps := 10000000) (disch := omega) only [go_sem], by simp (maxSteps := 10000000) (disch := omega) only [go_sem]⟩ ?_
      rintro A ⟨q5, q8, q19⟩
      refine wg_range (g := .func 129) (cap := [.pointer (some ⟨p, 0, none⟩), .pointer (some ⟨q, 0, none⟩)]) q19 ?_
      intro AS BD hAS hBD
      refine parts_iter (EI H H5.size p q H.size (H.size + 1) (.loop 91 34 A [20, 21] AS BD .ready) kv iv prk info n) (by omega) (by omega) (fun j H6 X => ⟨X.size, X.bp, X.bq, hk.keep_old2 X.old, hi.keep_old2 X.old⟩) (fun j H6 H7 X => X.grow) ?_ ?_ ?_
      · intro j H6 part X hlt hpart
        obtain ⟨w, bw, how, hwb⟩ := X.out
        have ll := get_lt X.loop
        have lp := get_lt X.bp
        have lq := get_lt X.bq
        refine yield_call (show H.size ≤ H5.size by omega) X.loop rfl ?_
        obtain ⟨Hb, hHb⟩ : ∃ Hb, Hb = H6.setIfInBounds H5.size (.loop 91 34 A [20, 21] AS BD .busy) := ⟨_, rfl⟩
        have hne : ∀ k, k ≠ H5.size → Hb[k]? = H6[k]? := fun k hk => by rw [hHb]; exact sg_ne hk
        have hbs : Hb.size = H6.size := by rw [hHb]; simp
        have c5 : Hb[H.size]? = some (.cells [.int .i64 n] true false) := by rw [hne _ (by omega)]; exact X.b5
        have c8 : Hb[H.size + 1]? = some (.cells [w] true false) := by rw [hne _ (by omega)]; exact bw
        have hL : Hb[H5.size]? = some (.loop 91 34 A [20, 21] AS BD .busy) := by rw [hHb]; exact sg_get ll
        have hpb : Sl Hb part (hkT prk info (j + 1)) := by
          refine hpart.mono ?_
          intro k vs ex tl hc
          by_cases hk : k = H5.size
          · subst hk
            rw [X.loop] at hc; cases hc
          · exact ⟨ex, tl, by rw [hne k hk]; exact hc⟩
        have M5 := load_cell (P := Try.prog) (t := 3) c5 kind_3 (o := 0) rfl
        have M8 := load_cell (P := Try.prog) (t := 47) c8 kind_47 (o := 0) rfl
        refine wg_code hAS ?_
        simp (maxSteps := 10000000) (disch := omega) only [go_sem, List.zip_cons_cons, List.zip_nil_left, List.foldl_cons, List.foldl_nil]
        refine ⟨X.loop, ?_⟩
        rw [← hHb]
        refine wg_code hBD ?_
        have ej : (j : Int) + 1 - 1 = j := by omega
        simp (maxSteps := 10000000) (disch := omega) only [go_sem, q5, q8, M5, M8, wrap_i64, ej]
        by_cases h1 : n ≤ (j : Int) * 32
        · simp (maxSteps := 10000000) (disch := omega) only [go_sem, h1]
          refine ⟨hL, .inr ⟨rfl, .inr (.inr ⟨0, sg_get (by omega), ?_⟩)⟩⟩
          obtain ⟨Hf, hHf⟩ : ∃ Hf, Hf = (Hb.setIfInBounds H5.size (.loop 91 34 A [20, 21] AS BD (.done (.exit 0)))).setIfInBounds H5.size (.loop 91 34 A [20, 21] AS BD .over) := ⟨_, rfl⟩
          rw [← hHf]
          have of : ∀ k, k ≠ H5.size → Hf[k]? = H6[k]? := fun k hk => by rw [hHf, sg_ne hk, sg_ne hk, hne k hk]
          have f5 : Hf[H.size]? = some (.cells [.int .i64 n] true false) := by rw [of _ (by omega)]; exact X.b5
          have f8 : Hf[H.size + 1]? = some (.cells [w] true false) := by rw [of _ (by omega)]; exact bw
          have F5 := load_cell (P := Try.prog) (t := 3) f5 kind_3 (o := 0) rfl
          have F8 := load_cell (P := Try.prog) (t := 47) f8 kind_47 (o := 0) rfl
          have hof : Sl Hf w (hkOut prk info j) := OV.sv (OV.keep how fun k hk hbk => of k (by have := hwb k hbk; omega))
          obtain ⟨x, x1, x2, x3⟩ := hof.hi3 (k := n) (by omega) (by rw [hkOut_length]; omega)
          simp (maxSteps := 10000000) (disch := omega) only [go_sem, q5, q8, F5, F8, x1]
          refine ⟨fun _ => ⟨x, rfl, ?_⟩, fun h => by omega⟩
          rw [← expand_end (by omega) (by omega) X.lt]
          exact x2
        · simp (maxSteps := 10000000) (disch := omega) only [go_sem, h1, q8, M8]
          have howb : Ow Hb H.size w (hkOut prk info j) := OV.keep how fun k hk hbk => hne k (by have := hwb k hbk; omega)
          have hsl := hkT_succ_length prk info j
          have hol := hkOut_length prk info j
          have hszb := X.size
          refine append_bytes howb hpb (Nat.le_refl _) (by omega) (by omega) ?_
          intro w' H9 g1 g2 g3 g4 g5
          have nb : ∀ k, k ≤ H5.size → blockOf w ≠ some k := fun k hk e => by have := hwb k e; omega
          have e8 : H9[H.size + 1]? = some (.cells [w] true false) := by rw [g3 _ (by omega) (nb _ (by omega))]; exact c8
          have hpb9 := hpb.mono g2
          simp (maxSteps := 10000000) (disch := omega) only [go_sem, q8]
          refine store_cell e8 sz_47 g4.stc (by omega) (by simp) ?_
          intro H10 s1 s2 s3
          have hw' : ∀ k, blockOf w' = some k → H5.size < k := by
            intro k hk
            rcases g5 with ⟨e, _, _⟩ | e
            · rw [e] at hk; exact hwb k hk
            · rw [e] at hk; cases hk; omega
          have o10 : ∀ k, k < Hb.size → k ≠ H.size + 1 → blockOf w ≠ some k → H10[k]? = Hb[k]? := fun k hk h1 h3 => by rw [s2 k h1, g3 k hk h3]
          have hpc : Sl H10 part (hkT prk info (j + 1)) := by
            refine hpb9.but e8 (fun k b e => ?_) (fun k vs ex tl hk hc => ⟨ex, tl, by rw [s2 k hk]; exact hc⟩)
            cases k with
            | zero => simp at e; exact how.no b e
            | succ k => simp at e
          simp (maxSteps := 10000000) (disch := omega) only [go_sem]
          have o12 : ∀ k, k ≠ H5.size → (H10.setIfInBounds H5.size (.loop 91 34 A [20, 21] AS BD .ready))[k]? = H10[k]? := fun k hk => sg_ne hk
          have hl10 : H5.size < H10.size := by omega
          have hL10 : H10[H5.size]? = some (.loop 91 34 A [20, 21] AS BD .busy) := by rw [o10 _ (by omega) (by omega) (nb _ (by omega))]; exact hL
          refine ⟨hL10, .inl ⟨rfl, ⟨sg_get hl10, ?_, ?_, ?_, ⟨w', ?_, ?_, hw'⟩, by simp; omega, fun k hk => ?_, fun _ => ?_⟩, ?_⟩⟩
          · rw [o12 _ (by omega), o10 _ (by omega) (by omega) (nb _ (by omega)), hne _ (by omega)]; exact X.bp
          · rw [o12 _ (by omega), o10 _ (by omega) (by omega) (nb _ (by omega)), hne _ (by omega)]; exact X.bq
          · rw [o12 _ (by omega), o10 _ (by omega) (by omega) (nb _ (by omega))]; exact c5
          · rw [o12 _ (by omega)]; exact s3
          · exact OV.keep g4 fun k hk hbk => by
              have := hw' k hbk
              rw [o12 _ (by omega), s2 _ (by omega)]
          · rw [o12 _ (by omega), o10 _ (by omega) (by omega) (nb _ (by omega)), hne _ (by omega)]; exact X.old k hk
          · rw [Nat.add_sub_cancel]; omega
          · refine hpc.mono ?_
            intro k vs ex tl hc
            by_cases hk : k = H5.size
            · subst hk
              rw [hL10] at hc; cases hc
            · exact ⟨ex, tl, by rw [o12 k hk]; exact hc⟩
      · refine ⟨get_push_new, by rw [get_push_old hp2]; exact bp, by rw [get_push_old hq2]; exact bq, by rw [get_push_old (by omega)]; exact k5, ⟨_, by rw [get_push_old (by omega)]; exact k8, OV.nil _ _, by simp [blockOf]⟩, by simp; omega, fun k hk => by rw [get_push_old (by omega)]; exact o5 k hk, fun h => absurd rfl h⟩
      · intro H6 X
        obtain ⟨w, bw, how, hwb⟩ := X.out
        refine .inl ⟨X.loop, ?_⟩
        obtain ⟨Hf, hHf⟩ : ∃ Hf, Hf = H6.setIfInBounds H5.size (.loop 91 34 A [20, 21] AS BD .over) := ⟨_, rfl⟩
        have of : ∀ k, k ≠ H5.size → Hf[k]? = H6[k]? := fun k hk => by rw [hHf, sg_ne hk]
        have f5 : Hf[H.size]? = some (.cells [.int .i64 n] true false) := by rw [of _ (by omega)]; exact X.b5
        have f8 : Hf[H.size + 1]? = some (.cells [w] true false) := by rw [of _ (by omega)]; exact bw
        have F5 := load_cell (P := Try.prog) (t := 3) f5 kind_3 (o := 0) rfl
        have F8 := load_cell (P := Try.prog) (t := 47) f8 kind_47 (o := 0) rfl
        have hof : Sl Hf w (hkOut prk info 255) := OV.sv (OV.keep how fun k hk hbk => of k (by have := hwb k hbk; omega))
        obtain ⟨x, x1, x2, x3⟩ := hof.hi3 (k := n) (by omega) (by rw [hkOut_length]; omega)
        show blockK 0 _ _ _ (H6.setIfInBounds H5.size (.loop 91 34 A [20, 21] AS BD .over))
        rw [← hHf]
        simp (maxSteps := 10000000) (disch := omega) only [go_sem, q5, q8, F5, F8, x1]
        refine ⟨fun _ => ⟨x, rfl, ?_⟩, fun h => by omega⟩
        rw [← expand_end (j := 255) (by omega) (by omega) X.lt]
        exact x2

end Go.Proofs.Ytcapjjmikapmfaa.M
