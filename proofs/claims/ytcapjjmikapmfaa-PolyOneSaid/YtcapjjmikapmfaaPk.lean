/- PolyOne. -/
import Derived.Test.YtcapjjmikapmfaaPi
set_option linter.unusedVariables false
set_option linter.unusedSimpArgs false
namespace Go.Proofs.Ytcapjjmikapmfaa.M
open Go Go.Proofs

/-! ### A run in parts -/
def wrun (P : Program) (N : Nat) (fn : FuncId) (n : Nat) (top : Bool) (c : Code) (Q : Post) (a : AAct) (H : Heap) : Prop := ∃ e a' H', Run P (Call P) N fn n top c a H e a' H' ∧ Q e a' H'
theorem wrun_of {P : Program} {N : Nat} {fn : FuncId} {n : Nat} {top : Bool} {c : Code} {Q : Post} {a : AAct} {H : Heap} (h : wp P N fn n top c Q a H) : wrun P N fn n top c Q a H := wp_sound _ _ _ _ h
theorem wrun_mid {P : Program} {N : Nat} {fn : FuncId} {n : Nat} {top : Bool} {x y : Code} {Q : Post} {a : AAct} {H : Heap} (R : AAct → Heap → Prop) (h1 : wp P N fn n top x (seqK R Q) a H) (h2 : ∀ a H, R a H → wrun P N fn n top y Q a H) : wrun P N fn n top (.seq x y) Q a H := by
  obtain ⟨e, a1, H1, r1, q1⟩ := wp_sound _ _ _ _ h1
  cases e with
  | normal =>
    obtain ⟨e, a2, H2, r2, q2⟩ := h2 _ _ q1
    exact ⟨e, a2, H2, .seq r1 r2, q2⟩
  | exit id => exact ⟨_, a1, H1, .seqx r1 (by simp), q1⟩
  | ret => exact ⟨_, a1, H1, .seqx r1 (by simp), q1⟩
theorem fun_of_r {P : Program} {f : FuncId} {func : Func} {code : Code} {args : List Value} {H : Heap} {Q : Value → Heap → Prop} (hf : P.funcs[f]? = some func) (hb : func.body = some code) (hn : (func.name == "runtime.NumGoroutine") = false) (hl : args.length ≤ func.ntmps)
    (h : wrun P H.size f func.ntmps true code (retK P func.results.toList Q) (enterA args) H) : Fun P f args H Q := by
  obtain ⟨e, a', H', h1, h2, h3⟩ := h
  obtain ⟨v, hv, h4⟩ := optK_sound h3
  exact ⟨v, H', Call.fold (.inl ⟨func, code, e, a', hf, hb, hn, hl, h1, h2, hv⟩), h4⟩

/-! ### With r 1 -/
theorem polyH_one (b : List (BitVec 8)) (h : b.length ≤ 31) : polyH 1 b ((b.length + 15) / 16) = (if 0 < b.length then leN (pchunk b 0 ++ [1#8]) else 0) + (if 16 < b.length then leN (pchunk b 1 ++ [1#8]) else 0) := by
  have h0 := piece_lt b 0
  have h1 : leN (pchunk b 1 ++ [1#8]) < 2 ^ 128 := by
    have hl : (pchunk b 1).length ≤ 15 := by simp [pchunk]; omega
    have h1 := leN_lt (pchunk b 1 ++ [1#8])
    have h2 : (256 : Nat) ^ (pchunk b 1 ++ [1#8]).length ≤ 256 ^ 16 := Nat.pow_le_pow_right (by omega) (by simp; omega)
    have h3 : (256 : Nat) ^ 16 = 2 ^ 128 := by decide
    omega
  by_cases c0 : 0 < b.length
  · rw [if_pos c0]
    by_cases c1 : 16 < b.length
    · rw [if_pos c1]
      have e : (b.length + 15) / 16 = 2 := by omega
      rw [e, polyH, polyH, polyH, Nat.zero_add, Nat.mul_one, Nat.mul_one, Nat.mod_eq_of_lt (show leN (pchunk b 0 ++ [1#8]) < PP by unfold PP; omega), Nat.mod_eq_of_lt]
      unfold PP
      omega
    · rw [if_neg c1]
      have e : (b.length + 15) / 16 = 1 := by omega
      rw [e, polyH, polyH, Nat.zero_add, Nat.mul_one, Nat.mod_eq_of_lt (show leN (pchunk b 0 ++ [1#8]) < PP by unfold PP; omega)]
      omega
  · rw [if_neg c0, if_neg (by omega)]
    have e : (b.length + 15) / 16 = 0 := by omega
    rw [e]
    rfl

/-- The sum of two keys and pieces. -/
def oneN (ss b : List (BitVec 8)) : Nat := leN ss + ((if 0 < b.length then leN (pchunk b 0 ++ [1#8]) else 0) + (if 16 < b.length then leN (pchunk b 1 ++ [1#8]) else 0))
def keyO (ss : List (BitVec 8)) : List (BitVec 8) := (1#8 :: List.replicate 15 0#8) ++ ss
theorem polyR_one (ss : List (BitVec 8)) : polyR (keyO ss) = 1 := by
  have e : clampL (keyO ss) = 1#8 :: List.replicate 15 0#8 := by
    apply List.ext_getElem
    · simp [clampL]
    · intro i h1 h2
      have hi : i < 16 := by simpa using h2
      rw [clamp_get _ _ hi, keyO, List.getD_eq_getElem?_getD, List.getElem?_append_left (by simpa using hi)]
      match i with
      | 0 => rfl
      | i + 1 =>
        rw [List.getElem?_cons_succ, List.getElem_cons_succ, List.getElem_replicate, List.getElem?_replicate, if_pos (by omega)]
        simp
  rw [polyR, e]
  decide
theorem tag_one (ss b : List (BitVec 8)) (hs : ss.length = 16) (hb : b.length ≤ 31) : polyTag (keyO ss) b = leB 16 (oneN ss b) := by
  have e : ((keyO ss).drop 16).take 16 = ss := by
    rw [keyO, List.drop_append_of_le_length (by simp), List.drop_eq_nil_of_le (by simp), List.nil_append, List.take_of_length_le (by omega)]
  rw [polyTag, polyR_one, polyS, e, polyH_one b hb, oneN, Nat.add_comm]

/-! ### Cells of whole numbers -/
def iv (n : Nat) : Value := .int .i64 (n : Nat)
def ci (ds : List Nat) : List Value := ds.map iv
theorem ci_length (ds : List Nat) : (ci ds).length = ds.length := by simp [ci]
theorem load_ci {H : Heap} {i o : Nat} {ds : List Nat} {ex tl : Bool} {x : Nat} (hi : H[i]? = some (.cells (ci ds) ex tl)) (hx : ds[o]? = some x) : ∀ K, loadK Try.prog 3 (.pointer (some ⟨i, o, none⟩)) H K = K (.int .i64 (x : Nat)) H :=
  load_cell hi kind_3 (by simp [ci, hx, iv])
theorem store_ci {N : Nat} {H : Heap} {i o : Nat} {ds : List Nat} {tl : Bool} {x : Nat} (hi : H[i]? = some (.cells (ci ds) true tl)) (hN : N ≤ i) (ho : o < ds.length) {K : Value → Heap → Prop}
    (hK : ∀ H', H'.size = H.size → (∀ j, j ≠ i → H'[j]? = H[j]?) → H'[i]? = some (.cells (ci (ds.set o x)) true tl) → K undef H') : storeK Try.prog N 3 (.pointer (some ⟨i, o, none⟩)) (.int .i64 (x : Nat)) H K :=
  store_cell hi sz_3 rfl hN (by simpa [ci] using ho) fun H' h1 h2 h3 => hK H' h1 h2 (by unfold ci; rw [List.map_set]; exact h3)
@[go_sem] theorem ia_86 {b o : Nat} {k : Int} (h0 : 0 ≤ k) (h1 : k < 18) : indexAddrA Try.prog 86 (.pointer (some ⟨b, o, none⟩)) (.int .i64 k) = some (.pointer (some ⟨b, o + k.toNat, none⟩)) := ia_arr Try.underlying86 sz_3 h0 h1
theorem build_86 : buildA Try.prog 86 [] = some (.agg (ci (List.replicate 18 0)).toArray) := by kernel_rfl
theorem all_ci (ds : List Nat) : (ci ds).all cellOk = true := by
  simp only [ci, List.all_eq_true, List.mem_map, forall_exists_index, and_imp]
  rintro x n _ rfl
  rfl

/-- The carry behind k digits. -/
def oc (ds : List Nat) (k : Nat) : Nat := val 256 (ds.take k) / 256 ^ k
theorem oc_zero (ds : List Nat) : oc ds 0 = 0 := rndC_zero ds
theorem oc_byte {ds : List Nat} {k : Nat} (h : k < ds.length) : BitVec.ofNat 8 (oc ds k + ds[k]) = BitVec.ofNat 8 (val 256 ds / 256 ^ k) := by
  apply BitVec.eq_of_toNat_eq
  rw [BitVec.toNat_ofNat, BitVec.toNat_ofNat]
  exact rndC_mod h
theorem oc_succ {ds : List Nat} {k : Nat} (h : k < ds.length) : (oc ds k + ds[k]) / 256 = oc ds (k + 1) := rndC_succ h
theorem oc_le {ds : List Nat} {m : Nat} (hm : ∀ d ∈ ds, d ≤ m) (k : Nat) : oc ds k ≤ m := rndC_le hm k

def psum (b : List (BitVec 8)) : Nat → Nat
  | 0 => 0
  | j + 1 => psum b j + leN (pchunk b j ++ [1#8])
theorem psum_end (b : List (BitVec 8)) (h : b.length ≤ 31) : psum b ((b.length + 15) / 16) = (if 0 < b.length then leN (pchunk b 0 ++ [1#8]) else 0) + (if 16 < b.length then leN (pchunk b 1 ++ [1#8]) else 0) := by
  by_cases c0 : 0 < b.length
  · rw [if_pos c0]
    by_cases c1 : 16 < b.length
    · rw [if_pos c1, show (b.length + 15) / 16 = 2 by omega, psum, psum, psum, Nat.zero_add]
    · rw [if_neg c1, show (b.length + 15) / 16 = 1 by omega, psum, psum]; omega
  · rw [if_neg c0, if_neg (by omega), show (b.length + 15) / 16 = 0 by omega, psum]

/-- What stays in the loops. -/
structure O1 (kv bv : Value) (ss bs : List (BitVec 8)) (i6 : Nat) (B : Nat) (H0 : Heap) (ds : List Nat) (a : AAct) (H : Heap) : Prop where
  a1 : a 1 = bv
  a5 : a 5 = kv
  a6 : a 6 = .pointer (some ⟨i6, 0, none⟩)
  sk : Sl H kv (keyO ss)
  sb : Sl H bv bs
  b6 : H[i6]? = some (.cells (ci ds) true false)
  len : ds.length = 18
  size : H0.size ≤ i6
theorem O1.act {kv bv : Value} {ss bs : List (BitVec 8)} {i6 B : Nat} {H0 : Heap} {ds : List Nat} {a b : AAct} {H : Heap} (h : O1 kv bv ss bs i6 B H0 ds a H) (e1 : b 1 = a 1) (e5 : b 5 = a 5) (e6 : b 6 = a 6) : O1 kv bv ss bs i6 B H0 ds b H :=
  ⟨by rw [e1, h.a1], by rw [e5, h.a5], by rw [e6, h.a6], h.sk, h.sb, h.b6, h.len, h.size⟩
theorem Sl.othi {H H' : Heap} {v : Value} {xs : List (BitVec 8)} (h : Sl H v xs) {i : Nat} {ds : List Nat} {ex tl : Bool} (hi : H[i]? = some (.cells (ci ds) ex tl)) (hk : ∀ j, j ≠ i → H'[j]? = H[j]?) : Sl H' v xs := by
  rcases h with h | ⟨b, o, c, h1, h2, h3⟩
  · exact .inl h
  · refine .inr ⟨b, o, c, h1, h2, fun hne => ?_⟩
    obtain ⟨vs, ex', tl', g1, g2, g3⟩ := h3 hne
    have hbi : b ≠ i := by
      rintro rfl
      rw [hi] at g1
      cases g1
      cases hx : xs.map u8 with
      | nil => exact hne hx
      | cons x l =>
        have := g3 0 x (by rw [hx]; rfl)
        cases xs with
        | nil => simp at hx
        | cons y ys =>
          simp only [List.map_cons, List.cons.injEq] at hx
          rw [← hx.1] at this
          simp only [ci, List.getElem?_map] at this
          cases hd : ds[o + 0]? with
          | none => rw [hd] at this; cases this
          | some d => rw [hd] at this; simp [iv, u8] at this
    exact ⟨vs, ex', tl', by rw [hk b hbi]; exact g1, g2, g3⟩
theorem O1.set {kv bv : Value} {ss bs : List (BitVec 8)} {i6 B : Nat} {H0 : Heap} {ds ds' : List Nat} {a : AAct} {H H' : Heap} (h : O1 kv bv ss bs i6 B H0 ds a H) (hk : ∀ j, j ≠ i6 → H'[j]? = H[j]?) (hb : H'[i6]? = some (.cells (ci ds') true false)) (hl : ds'.length = 18) : O1 kv bv ss bs i6 B H0 ds' a H' :=
  ⟨h.a1, h.a5, h.a6, h.sk.othi h.b6 hk, h.sb.othi h.b6 hk, hb, hl, h.size⟩

def oI1 (kv bv tv : Value) (ss bs : List (BitVec 8)) (i6 B : Nat) (H0 : Heap) (m : Nat) (a : AAct) (H : Heap) : Prop :=
  ∃ (k : Nat) (ds : List Nat), k + m = 16 ∧ a 32 = tv ∧ Sl H tv ss ∧ a 33 = .int .i64 (16 : Nat) ∧ a 34 = .int .i64 (k : Nat) ∧ val 256 ds = leN (ss.take k) ∧ (∀ d ∈ ds, d ≤ 255 * k) ∧ O1 kv bv ss bs i6 B H0 ds a H
def oI2 (kv bv : Value) (ss bs : List (BitVec 8)) (i6 B : Nat) (H0 : Heap) (m : Nat) (a : AAct) (H : Heap) : Prop :=
  ∃ (j : Nat) (ds : List Nat), m = bs.length - 16 * j ∧ (j ≠ 0 → 16 * (j - 1) < bs.length) ∧ a 9 = .int .i64 ((16 * j : Nat) : Int) ∧ val 256 ds = leN ss + psum bs j ∧ (∀ d ∈ ds, d ≤ 5000 * (j + 1)) ∧ O1 kv bv ss bs i6 B H0 ds a H
def oI3 (kv bv pv : Value) (ss bs ps : List (BitVec 8)) (j : Nat) (i6 B : Nat) (H0 : Heap) (m : Nat) (a : AAct) (H : Heap) : Prop :=
  ∃ (k : Nat) (ds : List Nat), k + m = ps.length ∧ a 9 = .int .i64 ((16 * j : Nat) : Int) ∧ a 10 = pv ∧ a 61 = pv ∧ Sl H pv ps ∧ a 62 = .int .i64 (ps.length : Nat) ∧ a 63 = .int .i64 (k : Nat) ∧ val 256 ds = leN ss + psum bs j + leN (ps.take k) ∧ (∀ d ∈ ds, d ≤ 5000 * (j + 1) + 255 * k) ∧ O1 kv bv ss bs i6 B H0 ds a H
def oI4 (kv bv wv : Value) (ds : List Nat) (i6 : Nat) (H5 : Heap) (m : Nat) (a : AAct) (H : Heap) : Prop :=
  ∃ k : Nat, k + m = 16 ∧ a 1 = bv ∧ a 5 = kv ∧ a 6 = .pointer (some ⟨i6, 0, none⟩) ∧ a 13 = wv ∧ a 14 = .int .i64 ((oc ds k : Nat) : Int) ∧ a 84 = .int .i64 (16 : Nat) ∧ a 85 = .int .i64 (k : Nat) ∧ OE H H5.size wv (leB k (val 256 ds) ++ List.replicate (16 - k) 0#8) ∧ H5.size ≤ H.size ∧ (∀ j, j < H5.size → H[j]? = H5[j]?)

theorem keyO_of (s : List (BitVec 8)) : ∃ ss, ss.length = 16 ∧ ((List.replicate 32 (0#8 : BitVec 8)).set 0 1#8).take 16 ++ (s.take 16 ++ ((List.replicate 32 (0#8 : BitVec 8)).set 0 1#8).drop (16 + s.length)) = keyO ss := by
  refine ⟨s.take 16 ++ ((List.replicate 32 (0#8 : BitVec 8)).set 0 1#8).drop (16 + s.length), by simp; omega, ?_⟩
  rw [keyO]
  congr 1

set_option maxRecDepth 20000 in
set_option maxHeartbeats 4000000 in
theorem polyOne_fun {H : Heap} {v : Value} {xs : List (BitVec 8)} (hv : Sl H v xs) (hl : xs.length ≤ 140737488351232) {v2 : Value} {ys : List (BitVec 8)} (hv2 : Sl H v2 ys) (hl2 : ys.length ≤ 140737488351232) : Fun Try.prog 26 [v, v2] H fun r _ => r = .bool true := by
  refine fun_of_r Try.func26 rfl (by decide +kernel) (Nat.le_of_ble_eq_true rfl) ?_
  unfold Try.f26
  refine wrun_mid (fun a H' => H' = H ∧ a 0 = v ∧ a 1 = v2) (by simp (maxSteps := 10000000) (disch := omega) only [go_sem]) ?_
  rintro a H ⟨rfl, q0, q1⟩
  refine wrun_mid (fun a H' => H' = H ∧ a 0 = v ∧ ∃ bv bs, a 1 = bv ∧ bs.length ≤ 31 ∧ Sl H bv bs) ?_ ?_
  · simp (maxSteps := 10000000) (disch := omega) only [go_sem, q0, q1, hv2.len]
    by_cases g1 : (31 : Int) < ys.length
    · obtain ⟨w, e1, e2, _⟩ := hv2.hi (k := 31) (by omega) (by omega)
      simp (maxSteps := 10000000) (disch := omega) only [go_sem, q0, q1, g1, e1]
      exact ⟨w, _, rfl, by simp; omega, e2⟩
    · simp (maxSteps := 10000000) (disch := omega) only [go_sem, q0, q1, g1]
      exact ⟨v2, ys, rfl, by omega, hv2⟩
  rintro a H ⟨rfl, q0, bv, bs, q1, hbl, hb⟩
  refine wrun_of ?_
  simp (maxSteps := 10000000) (disch := omega) only [go_sem, q0, q1]
  refine (bytes8_fun 32 (by omega) (Sl.nil H)).call (Nat.le_refl _) ?_
  intro kv H1 c1 c2 c3
  have ef : fit 32 ([] : List (BitVec 8)) = List.replicate 32 0#8 := by decide
  rw [ef] at c3
  obtain ⟨ad, g1, _, g2⟩ := c3.elem (k := 0) (by omega) (by decide)
  simp (maxSteps := 10000000) (disch := omega) only [go_sem, q0, q1, g1]
  refine g2 _ _ _ (Nat.le_refl _) ?_
  intro H2 s1 s2 s3
  obtain ⟨bi, hbi, hbi2, hbi3⟩ := c3.block
  have k2 : ∀ j, j < H.size → H2[j]? = H[j]? := fun j hj => by rw [s2 j (by rw [hbi]; intro e; have := Option.some.inj e; omega), c2 j hj]
  obtain ⟨d, e1, e2⟩ := s3.copy_at (k := 16) (by omega) (by decide)
  obtain ⟨ss, hsl, hss⟩ := keyO_of xs
  simp (maxSteps := 10000000) (disch := omega) only [go_sem, q0, q1, e1]
  refine e2 _ _ xs _ (Nat.le_refl _) (hv.keep_old2 k2) ?_
  intro H3 s4 s5 s6
  have s6' : OE H3 H.size kv (keyO ss) := by rw [← hss]; exact s6
  have k3 : ∀ j, j < H.size → H3[j]? = H[j]? := fun j hj => by rw [s5 j (by rw [hbi]; intro e; have := Option.some.inj e; omega), k2 j hj]
  have z3 : H.size < H3.size := by omega
  simp (maxSteps := 10000000) (disch := omega) only [go_sem, q0, q1, build_86]
  refine store_row get_push_new (by kernel_rfl : szOf Try.prog 86 = some 18) (by simp [ci]) (by simp) (all_ci _) (by omega) ?_
  intro H4 s7 s8 s9
  have z4 : H4.size = H3.size + 1 := by rw [s7]; simp
  have k4 : ∀ j, j < H3.size → H4[j]? = H3[j]? := fun j hj => by rw [s8 j (by omega), get_push_old hj]
  have hk4 : Sl H4 kv (keyO ss) := s6'.sl.keep_old2 k4
  have hb4 : Sl H4 bv bs := hb.keep_old2 fun j hj => by rw [k4 j (by omega), k3 j hj]
  obtain ⟨tv, t1, t2, _⟩ := hk4.lo (k := 16) (by omega) (by rw [keyO]; simp)
  have et : (keyO ss).drop (16 : Int).toNat = ss := by
    show (keyO ss).drop 16 = ss
    rw [keyO, List.drop_append_of_le_length (by simp), List.drop_eq_nil_of_le (by simp), List.nil_append]
  rw [et] at t2
  have tl := t2.len
  rw [hsl] at tl
  simp (maxSteps := 10000000) (disch := omega) only [go_sem, q1, t1, tl]
  refine wp_loop (oI1 kv bv tv ss bs H3.size H3.size H) ?_ 16 ?_
  · rintro m a H5 ⟨k, ds, hk, q32, ht, q33, q34, hv5, hd5, R⟩
    have q1 := R.a1
    have q5 := R.a5
    have q6 := R.a6
    have hlen := R.len
    have hz := R.size
    simp (maxSteps := 10000000) (disch := omega) only [go_sem, q1, q5, q6, q32, q33, q34]
    by_cases hlt : k < 16
    · have hlt' := eq_true (show (k : Int) < 16 by omega)
      obtain ⟨ad, f1, f2⟩ := ht.index (k := (k : Int)) (by omega) (by omega)
      simp only [Int.toNat_natCast] at f2
      have hdl : k < ds.length := by omega
      have L := load_ci R.b6 (o := k) (List.getElem?_eq_getElem hdl)
      have hx := ss[k].isLt
      have hd := hd5 ds[k] (List.getElem_mem _)
      have ew : IntKind.i64.wrap ((ds[k] : Nat) + (ss[k].toNat : Nat) : Int) = ((ds[k] + ss[k].toNat : Nat) : Int) := by rw [wrap_i64 _ (by omega) (by omega)]; push_cast; rfl
      simp (maxSteps := 10000000) (disch := omega) only [go_sem, q1, q5, q6, q32, q33, q34, hlt', f1, f2, Nat.zero_add, L, ew]
      refine store_ci R.b6 (by omega) (by omega) ?_
      intro H6 s1 s2 s3
      simp (maxSteps := 10000000) (disch := omega) only [go_sem, q34, wrap_i64]
      refine ⟨m - 1, by omega, k + 1, _, by omega, by simp (maxSteps := 10000000) (disch := omega) only [go_sem, q32], ht.othi R.b6 s2, by simp (maxSteps := 10000000) (disch := omega) only [go_sem, q33], by simp (maxSteps := 10000000) (disch := omega) only [go_sem]; push_cast; rfl, ?_, ?_, (R.set s2 s3 (by rw [List.length_set]; exact hlen)).act (by simp (maxSteps := 10000000) (disch := omega) only [go_sem]) (by simp (maxSteps := 10000000) (disch := omega) only [go_sem]) (by simp (maxSteps := 10000000) (disch := omega) only [go_sem])⟩
      · rw [val_add _ _ _ _ (by omega), hv5, leN_take_succ _ _ (by omega)]
      · exact set_le hd5 (by omega) (by omega)
    · have hlt' := eq_false (show ¬ (k : Int) < 16 by omega)
      have hkk : k = 16 := by omega
      subst hkk
      rw [List.take_of_length_le (by omega)] at hv5
      simp (maxSteps := 10000000) (disch := omega) only [go_sem, q1, q5, q6, q32, q33, q34, hlt']
      refine wp_loop (oI2 kv bv ss bs H3.size H3.size H) ?_ bs.length ?_
      · rintro m a H5 ⟨j, ds, hm, hj, q9, hv5, hd5, R⟩
        have q1 := R.a1
        have q5 := R.a5
        have q6 := R.a6
        have hlen := R.len
        have hz := R.size
        simp (maxSteps := 10000000) (disch := omega) only [go_sem, q1, q5, q6, q9, R.sb.len]
        by_cases hlt : 16 * j < bs.length
        · have hlt' := eq_true (show ((16 * j : Nat) : Int) < (bs.length : Nat) by omega)
          have hmin : (if ((bs.length : Nat) : Int) < ((16 * j : Nat) : Int) + 16 then ((bs.length : Nat) : Int) else ((16 * j : Nat) : Int) + 16) = ((min (16 * j + 16) bs.length : Nat) : Int) := by split <;> omega
          obtain ⟨pv, e1, e2, _⟩ := R.sb.mid (j := ((16 * j : Nat) : Int)) (k := ((min (16 * j + 16) bs.length : Nat) : Int)) (by omega) (by omega) (by omega)
          have hpart : ((bs.take ((min (16 * j + 16) bs.length : Nat) : Int).toNat).drop ((16 * j : Nat) : Int).toNat) = pchunk bs j := by
            rw [Int.toNat_natCast, Int.toNat_natCast, List.drop_take, pchunk]
            by_cases hle : 16 * j + 16 ≤ bs.length
            · rw [Nat.min_eq_left hle, Nat.add_sub_cancel_left]
            · rw [Nat.min_eq_right (by omega), List.take_of_length_le (by simp), List.take_of_length_le (by simp; omega)]
          rw [hpart] at e2
          have hpl : (pchunk bs j).length ≤ 16 := by simp [pchunk]; omega
          simp (maxSteps := 10000000) (disch := omega) only [go_sem, q1, q5, q6, q9, hlt', R.sb.len, wrap_i64, hmin, e1, e2.len]
          obtain ⟨ps, hps⟩ : ∃ ps, ps = pchunk bs j := ⟨_, rfl⟩
          rw [← hps] at e2 hpl
          rw [← hps]
          refine wp_loop (oI3 kv bv pv ss bs ps j H3.size H3.size H) ?_ ps.length ?_
          · rintro m2 a H6 ⟨k, ds, hk, q9, q10, q61, hp6, q62, q63, hv6, hd6, R⟩
            have q1 := R.a1
            have q5 := R.a5
            have q6 := R.a6
            have hlen := R.len
            have hz := R.size
            simp (maxSteps := 10000000) (disch := omega) only [go_sem, q1, q5, q6, q9, q10, q61, q62, q63]
            by_cases hlt2 : k < ps.length
            · have hlt' := eq_true (show ((k : Nat) : Int) < (ps.length : Nat) by omega)
              obtain ⟨ad, f1, f2⟩ := hp6.index (k := (k : Int)) (by omega) (by omega)
              simp only [Int.toNat_natCast] at f2
              have hdl : k < ds.length := by omega
              have L := load_ci R.b6 (o := k) (List.getElem?_eq_getElem hdl)
              have hx := ps[k].isLt
              have hd := hd6 ds[k] (List.getElem_mem _)
              have ew : IntKind.i64.wrap ((ds[k] : Nat) + (ps[k].toNat : Nat) : Int) = ((ds[k] + ps[k].toNat : Nat) : Int) := by rw [wrap_i64 _ (by omega) (by omega)]; push_cast; rfl
              simp (maxSteps := 10000000) (disch := omega) only [go_sem, q1, q5, q6, q9, q10, q61, q62, q63, hlt', f1, f2, Nat.zero_add, L, ew]
              refine store_ci R.b6 (by omega) (by omega) ?_
              intro H7 s1 s2 s3
              simp (maxSteps := 10000000) (disch := omega) only [go_sem, q63, wrap_i64]
              refine ⟨m2 - 1, by omega, k + 1, _, by omega, by simp (maxSteps := 10000000) (disch := omega) only [go_sem, q9], by simp (maxSteps := 10000000) (disch := omega) only [go_sem, q10], by simp (maxSteps := 10000000) (disch := omega) only [go_sem, q61], hp6.othi R.b6 s2, by simp (maxSteps := 10000000) (disch := omega) only [go_sem, q62], by simp (maxSteps := 10000000) (disch := omega) only [go_sem]; push_cast; rfl, ?_, ?_, (R.set s2 s3 (by rw [List.length_set]; exact hlen)).act (by simp (maxSteps := 10000000) (disch := omega) only [go_sem]) (by simp (maxSteps := 10000000) (disch := omega) only [go_sem]) (by simp (maxSteps := 10000000) (disch := omega) only [go_sem])⟩
              · rw [val_add _ _ _ _ (by omega), hv6, leN_take_succ _ _ (by omega)]; omega
              · exact set_le hd6 (by omega) (by omega)
            · have hlt' := eq_false (show ¬ ((k : Nat) : Int) < (ps.length : Nat) by omega)
              have hkk : k = ps.length := by omega
              subst hkk
              rw [List.take_length] at hv6
              have hdl : ps.length < ds.length := by omega
              have L := load_ci R.b6 (o := ps.length) (List.getElem?_eq_getElem hdl)
              have hd := hd6 ds[ps.length] (List.getElem_mem _)
              have ew : IntKind.i64.wrap ((ds[ps.length] : Nat) + 1 : Int) = ((ds[ps.length] + 1 : Nat) : Int) := by rw [wrap_i64 _ (by omega) (by omega)]; push_cast; rfl
              simp (maxSteps := 10000000) (disch := omega) only [go_sem, q1, q5, q6, q9, q10, q61, q62, q63, hlt', hp6.len, Nat.zero_add, L, ew]
              refine store_ci R.b6 (by omega) (by omega) ?_
              intro H7 s1 s2 s3
              simp (maxSteps := 10000000) (disch := omega) only [go_sem, q9, wrap_i64]
              refine ⟨bs.length - 16 * (j + 1), by omega, j + 1, _, rfl, fun _ => by simpa using hlt, by simp (maxSteps := 10000000) (disch := omega) only [go_sem]; rw [show ((16 * (j + 1) : Nat) : Int) = ((16 * j : Nat) : Int) + 16 by omega], ?_, ?_, (R.set s2 s3 (by rw [List.length_set]; exact hlen)).act (by simp (maxSteps := 10000000) (disch := omega) only [go_sem]) (by simp (maxSteps := 10000000) (disch := omega) only [go_sem]) (by simp (maxSteps := 10000000) (disch := omega) only [go_sem])⟩
              · have e1 : (1#8 : BitVec 8).toNat = 1 := rfl
                rw [val_add _ _ _ _ (by omega), hv6, psum, ← hps, leN_append, leN_one, e1]; omega
              · exact set_le hd6 (by omega) (by omega)
          · exact ⟨0, ds, by omega, by simp (maxSteps := 10000000) (disch := omega) only [go_sem, q9], by simp (maxSteps := 10000000) (disch := omega) only [go_sem], by simp (maxSteps := 10000000) (disch := omega) only [go_sem], e2, by simp (maxSteps := 10000000) (disch := omega) only [go_sem], by simp (maxSteps := 10000000) (disch := omega) only [go_sem], by rw [hv5]; rfl, fun d hd => by have := hd5 d hd; omega, R.act (by simp (maxSteps := 10000000) (disch := omega) only [go_sem]) (by simp (maxSteps := 10000000) (disch := omega) only [go_sem]) (by simp (maxSteps := 10000000) (disch := omega) only [go_sem])⟩
        · have hlt' := eq_false (show ¬ ((16 * j : Nat) : Int) < (bs.length : Nat) by omega)
          have hjn : j = (bs.length + 15) / 16 := by
            by_cases h0 : j = 0
            · subst h0; omega
            · have := hj h0; omega
          have hval : val 256 ds = oneN ss bs := by rw [hv5, hjn, psum_end bs hbl, oneN]
          have hdm : ∀ d ∈ ds, d ≤ 100000 := fun d hd => by have := hd5 d hd; omega
          simp (maxSteps := 10000000) (disch := omega) only [go_sem, q1, q5, q6, q9, hlt']
          refine make_bytes (by omega) (by omega) ?_
          intro wv H6 f1 f2 f3
          have z5 := get_lt R.b6
          have z6 : H6.size = H5.size + 1 := by rw [f1]; simp
          have k6 : ∀ j, j < H5.size → H6[j]? = H5[j]? := fun j hj => by rw [f1, get_push_old hj]
          have wl := f2.sl.len
          rw [List.length_replicate] at wl
          have wl' : ∀ (H' : Heap) (K : Value → Heap → Prop), lenK Try.prog 47 wv H' K = K (.int .i64 (16 : Nat)) H' := wl
          simp (maxSteps := 10000000) (disch := omega) only [go_sem, wl']
          refine wp_loop (oI4 kv bv wv ds H3.size H5) ?_ 16 ?_
          · rintro m a H7 ⟨k, hk, q1, q5, q6, q13, q14, q84, q85, how, hz7, old⟩
            have b6 : H7[H3.size]? = _ := (old _ z5).trans R.b6
            simp (maxSteps := 10000000) (disch := omega) only [go_sem, q1, q5, q6, q13, q14, q84, q85]
            by_cases hlt2 : k < 16
            · have hlt' := eq_true (show ((k : Nat) : Int) < 16 by omega)
              have hdl : k < ds.length := by omega
              have L := load_ci b6 (o := k) (List.getElem?_eq_getElem hdl)
              have hd := hdm ds[k] (List.getElem_mem _)
              have hc := oc_le hdm k
              have ew : IntKind.i64.wrap ((oc ds k : Nat) + (ds[k] : Nat) : Int) = ((oc ds k + ds[k] : Nat) : Int) := by rw [wrap_i64 _ (by omega) (by omega)]; push_cast; rfl
              have eb : BitVec.ofInt 8 ((oc ds k + ds[k] : Nat) : Int) = BitVec.ofNat 8 (val 256 ds / 256 ^ k) := by rw [← oc_byte hdl]; exact BitVec.ofInt_natCast ..
              have ef : ((oc ds k + ds[k] : Nat) : Int).fdiv (2 ^ min (8#64).toNat 64) = ((oc ds (k + 1) : Nat) : Int) := by
                rw [← oc_succ hdl]
                have : (2 : Int) ^ min (8#64).toNat 64 = 256 := by decide
                rw [this, Int.fdiv_eq_ediv_of_nonneg _ (by omega)]
                rfl
              obtain ⟨ad, g1, _, g2⟩ := how.elem (k := (k : Int)) (by omega) (by simp [leB_length]; omega)
              simp (maxSteps := 10000000) (disch := omega) only [go_sem, q1, q5, q6, q13, q14, q84, q85, hlt', Nat.zero_add, L, ew, eb, g1]
              refine g2 _ _ _ (by omega) ?_
              intro H8 s1 s2 s3
              obtain ⟨bi, hbi, hbi2, hbi3⟩ := how.block
              have k8 : ∀ j, j < H5.size → H8[j]? = H7[j]? := fun j hj => s2 j (by rw [hbi]; intro e; have := Option.some.inj e; omega)
              simp (maxSteps := 10000000) (disch := omega) only [go_sem, q85, ef, wrap_i64]
              refine ⟨m - 1, by omega, k + 1, by omega, by simp (maxSteps := 10000000) (disch := omega) only [go_sem, q1], by simp (maxSteps := 10000000) (disch := omega) only [go_sem, q5], by simp (maxSteps := 10000000) (disch := omega) only [go_sem, q6], by simp (maxSteps := 10000000) (disch := omega) only [go_sem, q13], by simp (maxSteps := 10000000) (disch := omega) only [go_sem], by simp (maxSteps := 10000000) (disch := omega) only [go_sem, q84], by simp (maxSteps := 10000000) (disch := omega) only [go_sem]; push_cast; rfl, ?_, by omega, fun j hj => by rw [k8 j hj, old j hj]⟩
              · have := fill_set (leB k (val 256 ds)) 0#8 (BitVec.ofNat 8 (val 256 ds / 256 ^ k)) 16 (by rw [leB_length]; omega)
                rw [leB_length] at this
                rw [Int.toNat_natCast, this, ← leB_succ] at s3
                exact s3
            · have hlt' := eq_false (show ¬ ((k : Nat) : Int) < 16 by omega)
              have hkk : k = 16 := by omega
              subst hkk
              have how' : OE H7 H5.size wv (leB 16 (oneN ss bs)) := by
                rw [← hval]
                simpa using how
              simp (maxSteps := 10000000) (disch := omega) only [go_sem, q1, q5, q6, q13, q14, q84, q85, hlt']
              refine (tag_fun (R.sk.keep_old2 old) (R.sb.keep_old2 old) (by rw [keyO]; simp [hsl]) (by omega)).call (by omega) ?_
              rintro _ H8 a1 a2 q
              obtain ⟨w1, rfl, hw1⟩ := q.1 (by rw [keyO]; simp [hsl])
              rw [tag_one ss bs hsl hbl] at hw1
              simp (maxSteps := 10000000) (disch := omega) only [go_sem, q13]
              refine conv_text hw1.sl ?_
              simp (maxSteps := 10000000) (disch := omega) only [go_sem, q13]
              refine conv_text (how'.sl.keep_old2 a2) ?_
              simp (maxSteps := 10000000) (disch := omega) only [go_sem]
              refine (awake8_fun H8).call (show H.size ≤ H8.size by omega) ?_
              rintro _ H9 g7 g8 rfl
              simp (maxSteps := 10000000) (disch := omega) only [go_sem]
          · refine ⟨0, by omega, by simp (maxSteps := 10000000) (disch := omega) only [go_sem, q1], by simp (maxSteps := 10000000) (disch := omega) only [go_sem, q5], by simp (maxSteps := 10000000) (disch := omega) only [go_sem, q6], by simp (maxSteps := 10000000) (disch := omega) only [go_sem], by simp (maxSteps := 10000000) (disch := omega) only [go_sem]; rw [oc_zero]; rfl, by simp (maxSteps := 10000000) (disch := omega) only [go_sem], by simp (maxSteps := 10000000) (disch := omega) only [go_sem], ?_, by omega, k6⟩
            simpa [leB] using f2
      · exact ⟨0, ds, by omega, fun h => absurd rfl h, by simp (maxSteps := 10000000) (disch := omega) only [go_sem]; rfl, by rw [hv5]; rfl, fun d hd => by have := hd5 d hd; omega, R.act (by simp (maxSteps := 10000000) (disch := omega) only [go_sem]) (by simp (maxSteps := 10000000) (disch := omega) only [go_sem]) (by simp (maxSteps := 10000000) (disch := omega) only [go_sem])⟩
  · exact ⟨0, List.replicate 18 0, by omega, by simp (maxSteps := 10000000) (disch := omega) only [go_sem], t2, by simp (maxSteps := 10000000) (disch := omega) only [go_sem], by simp (maxSteps := 10000000) (disch := omega) only [go_sem], by rw [val_zeros]; rfl, by simp, by simp (maxSteps := 10000000) (disch := omega) only [go_sem, q1], by simp (maxSteps := 10000000) (disch := omega) only [go_sem], by simp (maxSteps := 10000000) (disch := omega) only [go_sem], hk4, hb4, s9, by simp, by omega⟩

end Go.Proofs.Ytcapjjmikapmfaa.M
