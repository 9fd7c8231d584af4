/- ChaCha20: the stream of the program. -/
import Derived.Test.YtcapjjmikapmfaaYb
set_option linter.unusedVariables false
set_option linter.unusedSimpArgs false
namespace Go.Proofs.Ytcapjjmikapmfaa.M
open Go Go.Proofs

def cxs (key nonce : List (BitVec 8)) (n : BitVec 32) (b : List (BitVec 8)) : Nat → List (BitVec 8)
  | 0 => []
  | j + 1 => cxs key nonce n b j ++ xorB (chunk 64 b j) (cblock key nonce (n + BitVec.ofNat 32 j))
def cxor (key nonce : List (BitVec 8)) (n : BitVec 32) (b : List (BitVec 8)) : List (BitVec 8) := cxs key nonce n b ((b.length + 63) / 64)

theorem cblock_length (key nonce : List (BitVec 8)) (n : BitVec 32) : (cblock key nonce n).length = 64 := by rw [cblock, lowB_length, sumW_length]
theorem chunk_length (z : Nat) (xs : List (BitVec 8)) (j : Nat) : (chunk z xs j).length = min z (xs.length - z * j) := by simp [chunk]
theorem cxs_length (key nonce : List (BitVec 8)) (n : BitVec 32) (b : List (BitVec 8)) : ∀ j, (cxs key nonce n b j).length = min (64 * j) b.length
  | 0 => by simp [cxs]
  | j + 1 => by
    rw [cxs, List.length_append, cxs_length key nonce n b j]
    simp [xorB, cblock_length, chunk_length]
    omega

theorem wp_gen {P : Program} {N : Nat} {fn : FuncId} {n : Nat} {top : Bool} {c : Code} {Q : Post} {H : Heap} {a : AAct} (F : AAct → Prop) (h1 : F a) (h2 : ∀ b, F b → wp P N fn n top c Q b H) : wp P N fn n top c Q a H := h2 a h1

theorem wp_range2 {P : Program} {N : Nat} {fn : FuncId} {n : Nat} {f : Operand} {ps : Array Nat} {cs cb : Code} {Q : Post} {a : AAct} {H : Heap} {g : Fn} {cap : List Value} (hf : ev a f = .func g #[] ⟨cap⟩)
    (h : ∀ cs' cb', cs' = cs → cb' = cb → callK P N g (.func (.yield H.size) #[] #[] :: cap) (H.push (.loop fn n a ps.toList cs' cb' .ready)) fun v H2 => overK H.size fn n a ps.toList cs' cb' Q H2) : wp P N fn n true (.rangeFunc f ps cs cb) Q a H := wp_range hf (h cs cb rfl rfl)

theorem wp_code {P : Program} {N : Nat} {fn : FuncId} {n : Nat} {top : Bool} {c c' : Code} {Q : Post} {H : Heap} {a : AAct} (h : c = c') (k : wp P N fn n top c' Q a H) : wp P N fn n top c Q a H := h ▸ k

theorem set_get {H : Heap} {l : Nat} {b : Blk} (h : l < H.size) : (H.setIfInBounds l b)[l]? = some b := by rw [Array.getElem?_setIfInBounds, if_pos rfl, if_pos h]
theorem set_ne {H : Heap} {l j : Nat} {b : Blk} (h : j ≠ l) : (H.setIfInBounds l b)[j]? = H[j]? := Array.getElem?_setIfInBounds_ne (fun e => h e.symm)

def XorQ (H : Heap) (key nonce b : List (BitVec 8)) (n : BitVec 32) (r : Value) (H' : Heap) : Prop :=
  (key.length = 32 ∧ nonce.length = 12 → ∃ w, r = .tuple #[w, .int .i64 0] ∧ Ow H' H.size w (cxor key nonce n b)) ∧ (¬ (key.length = 32 ∧ nonce.length = 12) → r = .tuple #[.slice none 0 0, .int .i64 1])

structure XI (H0 : Heap) (kv nv bv : Value) (key nonce bs : List (BitVec 8)) (n : BitVec 32) (i p q l : Nat) (L : Blk) (j : Nat) (H : Heap) : Prop where
  loop : H[l]? = some L
  bp : H[p]? = some (.cells [bv] true false)
  bq : H[q]? = some (.cells [.int .i64 (64 : Nat)] true false)
  b4 : H[i]? = some (.cells [kv] true false)
  b5 : H[i + 1]? = some (.cells [nv] true false)
  b6 : H[i + 2]? = some (.cells [u32 (n + BitVec.ofNat 32 j)] true false)
  out : ∃ w, H[i + 3]? = some (.cells [w] true false) ∧ Ow H H0.size w (cxs key nonce n bs j) ∧ ∀ k, blockOf w = some k → l < k
  size : H0.size ≤ H.size
  old : ∀ k, k < H0.size → H[k]? = H0[k]?

set_option maxRecDepth 20000 in
set_option maxHeartbeats 2000000 in
theorem cXor_fun {kv nv bv : Value} {key nonce bs : List (BitVec 8)} {H : Heap} (n : BitVec 32) (hk : Sl H kv key) (hn : Sl H nv nonce) (hb : Sl H bv bs) (hl : bs.length ≤ 100000000000000) : Fun Try.prog 71 [kv, nv, u32 n, bv] H (XorQ H key nonce bs n) := by
  obtain ⟨p1, n1, c1, hkf⟩ := hk.form
  obtain ⟨p2, n2, c2, hnf⟩ := hn.form
  refine fun_of Try.func71 rfl (by decide +kernel) (Nat.le_of_ble_eq_true rfl) ?_
  unfold Try.f71
  simp (maxSteps := 10000000) (disch := omega) only [go_sem, ↓reduceIte, Nat.reduceLT, Nat.reduceLeDiff, Nat.reduceEqDiff, Nat.reduceAdd, BitVec.reduceOfInt, BitVec.reduceSetWidth, BitVec.reduceBEq, BitVec.reduceBNe, BitVec.reduceEq, BitVec.reduceNe, Bool.true_eq_false, Bool.false_eq_true, beq_self_eq_true, Option.map_some, Option.map_none, Option.bind_some, List.getElem?_cons_zero, List.getElem?_cons_succ, List.getElem?_toArray, List.map_cons, List.map_nil, true_and, and_true, forall_const, ne_eq, not_true_eq_false, not_false_eq_true, false_implies, true_implies, reduceCtorEq, Int.reduceToNat, Int.cast_ofNat_Int, Int.natCast_zero, Int.natCast_one, bne_self_eq_false, Int.reduceLT, Int.reduceLE, Int.reduceEq, Int.reduceNe, Bool.not_true, Bool.not_false, if_true, if_false, false_and, and_false, or_false, or_true, true_or, false_or, List.length_cons, List.length_nil, Int.toNat_natCast, List.length_map, decide_true, decide_false]
  rw [hkf, hnf]
  refine ⟨rfl, ?_⟩
  simp (maxSteps := 10000000) (disch := omega) only [go_sem, ↓reduceIte, Nat.reduceLT, Nat.reduceLeDiff, Nat.reduceEqDiff, Nat.reduceAdd, BitVec.reduceOfInt, BitVec.reduceSetWidth, BitVec.reduceBEq, BitVec.reduceBNe, BitVec.reduceEq, BitVec.reduceNe, Bool.true_eq_false, Bool.false_eq_true, beq_self_eq_true, Option.map_some, Option.map_none, Option.bind_some, List.getElem?_cons_zero, List.getElem?_cons_succ, List.getElem?_toArray, List.map_cons, List.map_nil, true_and, and_true, forall_const, ne_eq, not_true_eq_false, not_false_eq_true, false_implies, true_implies, reduceCtorEq, Int.reduceToNat, Int.cast_ofNat_Int, Int.natCast_zero, Int.natCast_one, bne_self_eq_false, Int.reduceLT, Int.reduceLE, Int.reduceEq, Int.reduceNe, Bool.not_true, Bool.not_false, if_true, if_false, false_and, and_false, or_false, or_true, true_or, false_or, List.length_cons, List.length_nil, Int.toNat_natCast, List.length_map, decide_true, decide_false]
  refine ⟨rfl, ?_⟩
  simp (maxSteps := 10000000) (disch := omega) only [go_sem, ↓reduceIte, Nat.reduceLT, Nat.reduceLeDiff, Nat.reduceEqDiff, Nat.reduceAdd, BitVec.reduceOfInt, BitVec.reduceSetWidth, BitVec.reduceBEq, BitVec.reduceBNe, BitVec.reduceEq, BitVec.reduceNe, Bool.true_eq_false, Bool.false_eq_true, beq_self_eq_true, Option.map_some, Option.map_none, Option.bind_some, List.getElem?_cons_zero, List.getElem?_cons_succ, List.getElem?_toArray, List.map_cons, List.map_nil, true_and, and_true, forall_const, ne_eq, not_true_eq_false, not_false_eq_true, false_implies, true_implies, reduceCtorEq, Int.reduceToNat, Int.cast_ofNat_Int, Int.natCast_zero, Int.natCast_one, bne_self_eq_false, Int.reduceLT, Int.reduceLE, Int.reduceEq, Int.reduceNe, Bool.not_true, Bool.not_false, if_true, if_false, false_and, and_false, or_false, or_true, true_or, false_or, List.length_cons, List.length_nil, Int.toNat_natCast, List.length_map, decide_true, decide_false]
  refine ⟨rfl, ?_⟩
  rw [← hkf, ← hnf]
  obtain ⟨H3, hH3⟩ : ∃ H3, H3 = ((H.push (.cells [kv] true false)).push (.cells [nv] true false)).push (.cells [u32 n] true false) := ⟨_, rfl⟩
  have z1 : (H.push (.cells [kv] true false)).size = H.size + 1 := by simp
  have z2 : ((H.push (.cells [kv] true false)).push (.cells [nv] true false)).size = H.size + 2 := by simp
  have z3 : H3.size = H.size + 3 := by rw [hH3]; simp
  have b4 : H3[H.size]? = some (.cells [kv] true false) := by rw [hH3]; exact keep_push (keep_push get_push_new)
  have b5 : H3[H.size + 1]? = some (.cells [nv] true false) := by rw [hH3, ← z1]; exact keep_push get_push_new
  have b6 : H3[H.size + 2]? = some (.cells [u32 n] true false) := by rw [hH3, ← z2]; exact get_push_new
  have o3 : ∀ j, j < H.size → H3[j]? = H[j]? := fun j hj => by rw [hH3, get_push_old (by omega), get_push_old (by omega), get_push_old hj]
  rw [z1, z2]
  show nextK Try.prog _ _ _ _ _ _ _ _ (((H.push (.cells [kv] true false)).push (.cells [nv] true false)).push (.cells [u32 n] true false))
  rw [← hH3]
  have L4 := load_cell (P := Try.prog) (t := 47) b4 kind_47 (o := 0) rfl
  have L5 := load_cell (P := Try.prog) (t := 47) b5 kind_47 (o := 0) rfl
  simp (maxSteps := 10000000) (disch := omega) only [go_sem, ↓reduceIte, Nat.reduceLT, Nat.reduceLeDiff, Nat.reduceEqDiff, Nat.reduceAdd, BitVec.reduceOfInt, BitVec.reduceSetWidth, BitVec.reduceBEq, BitVec.reduceBNe, BitVec.reduceEq, BitVec.reduceNe, Bool.true_eq_false, Bool.false_eq_true, beq_self_eq_true, Option.map_some, Option.map_none, Option.bind_some, List.getElem?_cons_zero, List.getElem?_cons_succ, List.getElem?_toArray, List.map_cons, List.map_nil, true_and, and_true, forall_const, ne_eq, not_true_eq_false, not_false_eq_true, false_implies, true_implies, reduceCtorEq, Int.reduceToNat, Int.cast_ofNat_Int, Int.natCast_zero, Int.natCast_one, bne_self_eq_false, Int.reduceLT, Int.reduceLE, Int.reduceEq, Int.reduceNe, Bool.not_true, Bool.not_false, if_true, if_false, false_and, and_false, or_false, or_true, true_or, false_or, List.length_cons, List.length_nil, Int.toNat_natCast, List.length_map, decide_true, decide_false, L4, L5]
  refine (may_fun (hk.keep_old o3) (hn.keep_old o3)).call (by omega) ?_
  by_cases h : key.length = 32 ∧ nonce.length = 12
  · simp (maxSteps := 10000000) (disch := omega) only [go_sem, ↓reduceIte, Nat.reduceLT, Nat.reduceLeDiff, Nat.reduceEqDiff, Nat.reduceAdd, BitVec.reduceOfInt, BitVec.reduceSetWidth, BitVec.reduceBEq, BitVec.reduceBNe, BitVec.reduceEq, BitVec.reduceNe, Bool.true_eq_false, Bool.false_eq_true, beq_self_eq_true, Option.map_some, Option.map_none, Option.bind_some, List.getElem?_cons_zero, List.getElem?_cons_succ, List.getElem?_toArray, List.map_cons, List.map_nil, true_and, and_true, forall_const, ne_eq, not_true_eq_false, not_false_eq_true, false_implies, true_implies, reduceCtorEq, Int.reduceToNat, Int.cast_ofNat_Int, Int.natCast_zero, Int.natCast_one, bne_self_eq_false, Int.reduceLT, Int.reduceLE, Int.reduceEq, Int.reduceNe, Bool.not_true, Bool.not_false, if_true, if_false, false_and, and_false, or_false, or_true, true_or, false_or, List.length_cons, List.length_nil, Int.toNat_natCast, List.length_map, decide_true, decide_false, h]
    have z4 : (H3.push (.cells [.slice none 0 0] true false)).size = H.size + 4 := by simp [z3]
    have hb4 : Sl (H3.push (.cells [.slice none 0 0] true false)) bv bs := (hb.keep_old o3).mono (Rd.push _ _)
    refine (chunk_fun hb4 64 (by omega)).call (by omega) ?_
    rintro _ H5 a1 a2 ⟨p, q, rfl, hpq, hp1, hq1, hp2, hq2, bp, bq⟩
    simp (maxSteps := 10000000) (disch := omega) only [go_sem, ↓reduceIte, Nat.reduceLT, Nat.reduceLeDiff, Nat.reduceEqDiff, Nat.reduceAdd, BitVec.reduceOfInt, BitVec.reduceSetWidth, BitVec.reduceBEq, BitVec.reduceBNe, BitVec.reduceEq, BitVec.reduceNe, Bool.true_eq_false, Bool.false_eq_true, beq_self_eq_true, Option.map_some, Option.map_none, Option.bind_some, List.getElem?_cons_zero, List.getElem?_cons_succ, List.getElem?_toArray, List.map_cons, List.map_nil, true_and, and_true, forall_const, ne_eq, not_true_eq_false, not_false_eq_true, false_implies, true_implies, reduceCtorEq, Int.reduceToNat, Int.cast_ofNat_Int, Int.natCast_zero, Int.natCast_one, bne_self_eq_false, Int.reduceLT, Int.reduceLE, Int.reduceEq, Int.reduceNe, Bool.not_true, Bool.not_false, if_true, if_false, false_and, and_false, or_false, or_true, true_or, false_or, List.length_cons, List.length_nil, Int.toNat_natCast, List.length_map, decide_true, decide_false]
    have k4 : H5[H.size]? = some (.cells [kv] true false) := by rw [a2 _ (by omega), get_push_old (by omega)]; exact b4
    have k5 : H5[H.size + 1]? = some (.cells [nv] true false) := by rw [a2 _ (by omega), get_push_old (by omega)]; exact b5
    have k6 : H5[H.size + 2]? = some (.cells [u32 n] true false) := by rw [a2 _ (by omega), get_push_old (by omega)]; exact b6
    have k10 : H5[H.size + 3]? = some (.cells [.slice none 0 0] true false) := by rw [a2 _ (by omega), ← z3]; exact get_push_new
    have o5 : ∀ j, j < H.size → H5[j]? = H[j]? := fun j hj => by rw [a2 _ (by omega), get_push_old (by omega)]; exact o3 j hj
    have l5 : H.size + 4 ≤ p ∧ H.size + 4 ≤ q := by omega
    rw [z3]
    refine wp_gen (fun b => b 4 = .pointer (some ⟨H.size, 0, none⟩) ∧ b 5 = .pointer (some ⟨H.size + 1, 0, none⟩) ∧ b 6 = .pointer (some ⟨H.size + 2, 0, none⟩) ∧ b 10 = .pointer (some ⟨H.size + 3, 0, none⟩) ∧ b 17 = .func (.func 122) #[] #[.pointer (some ⟨p, 0, none⟩), .pointer (some ⟨q, 0, none⟩)]) ⟨by simp (maxSteps := 10000000) (disch := omega) only [go_sem, ↓reduceIte, Nat.reduceLT, Nat.reduceLeDiff, Nat.reduceEqDiff, Nat.reduceAdd, BitVec.reduceOfInt, BitVec.reduceSetWidth, BitVec.reduceBEq, BitVec.reduceBNe, BitVec.reduceEq, BitVec.reduceNe, Bool.true_eq_false, Bool.false_eq_true, beq_self_eq_true, Option.map_some, Option.map_none, Option.bind_some, List.getElem?_cons_zero, List.getElem?_cons_succ, List.getElem?_toArray, List.map_cons, List.map_nil, true_and, and_true, forall_const, ne_eq, not_true_eq_false, not_false_eq_true, false_implies, true_implies, reduceCtorEq, Int.reduceToNat, Int.cast_ofNat_Int, Int.natCast_zero, Int.natCast_one, bne_self_eq_false, Int.reduceLT, Int.reduceLE, Int.reduceEq, Int.reduceNe, Bool.not_true, Bool.not_false, if_true, if_false, false_and, and_false, or_false, or_true, true_or, false_or, List.length_cons, List.length_nil, Int.toNat_natCast, List.length_map, decide_true, decide_false], by simp (maxSteps := 10000000) (disch := omega) only [go_sem, ↓reduceIte, Nat.reduceLT, Nat.reduceLeDiff, Nat.reduceEqDiff, Nat.reduceAdd, BitVec.reduceOfInt, BitVec.reduceSetWidth, BitVec.reduceBEq, BitVec.reduceBNe, BitVec.reduceEq, BitVec.reduceNe, Bool.true_eq_false, Bool.false_eq_true, beq_self_eq_true, Option.map_some, Option.map_none, Option.bind_some, List.getElem?_cons_zero, List.getElem?_cons_succ, List.getElem?_toArray, List.map_cons, List.map_nil, true_and, and_true, forall_const, ne_eq, not_true_eq_false, not_false_eq_true, false_implies, true_implies, reduceCtorEq, Int.reduceToNat, Int.cast_ofNat_Int, Int.natCast_zero, Int.natCast_one, bne_self_eq_false, Int.reduceLT, Int.reduceLE, Int.reduceEq, Int.reduceNe, Bool.not_true, Bool.not_false, if_true, if_false, false_and, and_false, or_false, or_true, true_or, false_or, List.length_cons, List.length_nil, Int.toNat_natCast, List.length_map, decide_true, decide_false], by simp (maxSteps := 10000000) (disch := omega) only [go_sem, ↓reduceIte, Nat.reduceLT, Nat.reduceLeDiff, Nat.reduceEqDiff, Nat.reduceAdd, BitVec.reduceOfInt, BitVec.reduceSetWidth, BitVec.reduceBEq, BitVec.reduceBNe, BitVec.reduceEq, BitVec.reduceNe, Bool.true_eq_false, Bool.false_eq_true, beq_self_eq_true, Option.map_some, Option.map_none, Option.bind_some, List.getElem?_cons_zero, List.getElem?_cons_succ, List.getElem?_toArray, List.map_cons, List.map_nil, true_and, and_true, forall_const, ne_eq, not_true_eq_false, not_false_eq_true, false_implies, true_implies, reduceCtorEq, Int.reduceToNat, Int.cast_ofNat_Int, Int.natCast_zero, Int.natCast_one, bne_self_eq_false, Int.reduceLT, Int.reduceLE, Int.reduceEq, Int.reduceNe, Bool.not_true, Bool.not_false, if_true, if_false, false_and, and_false, or_false, or_true, true_or, false_or, List.length_cons, List.length_nil, Int.toNat_natCast, List.length_map, decide_true, decide_false], by simp (maxSteps := 10000000) (disch := omega) only [go_sem, ↓reduceIte, Nat.reduceLT, Nat.reduceLeDiff, Nat.reduceEqDiff, Nat.reduceAdd, BitVec.reduceOfInt, BitVec.reduceSetWidth, BitVec.reduceBEq, BitVec.reduceBNe, BitVec.reduceEq, BitVec.reduceNe, Bool.true_eq_false, Bool.false_eq_true, beq_self_eq_true, Option.map_some, Option.map_none, Option.bind_some, List.getElem?_cons_zero, List.getElem?_cons_succ, List.getElem?_toArray, List.map_cons, List.map_nil, true_and, and_true, forall_const, ne_eq, not_true_eq_false, not_false_eq_true, false_implies, true_implies, reduceCtorEq, Int.reduceToNat, Int.cast_ofNat_Int, Int.natCast_zero, Int.natCast_one, bne_self_eq_false, Int.reduceLT, Int.reduceLE, Int.reduceEq, Int.reduceNe, Bool.not_true, Bool.not_false, if_true, if_false, false_and, and_false, or_false, or_true, true_or, false_or, List.length_cons, List.length_nil, Int.toNat_natCast, List.length_map, decide_true, decide_false], by simp (maxSteps := 10000000) (disch := omega) only [go_sem, ↓reduceIte, Nat.reduceLT, Nat.reduceLeDiff, Nat.reduceEqDiff, Nat.reduceAdd, BitVec.reduceOfInt, BitVec.reduceSetWidth, BitVec.reduceBEq, BitVec.reduceBNe, BitVec.reduceEq, BitVec.reduceNe, Bool.true_eq_false, Bool.false_eq_true, beq_self_eq_true, Option.map_some, Option.map_none, Option.bind_some, List.getElem?_cons_zero, List.getElem?_cons_succ, List.getElem?_toArray, List.map_cons, List.map_nil, true_and, and_true, forall_const, ne_eq, not_true_eq_false, not_false_eq_true, false_implies, true_implies, reduceCtorEq, Int.reduceToNat, Int.cast_ofNat_Int, Int.natCast_zero, Int.natCast_one, bne_self_eq_false, Int.reduceLT, Int.reduceLE, Int.reduceEq, Int.reduceNe, Bool.not_true, Bool.not_false, if_true, if_false, false_and, and_false, or_false, or_true, true_or, false_or, List.length_cons, List.length_nil, Int.toNat_natCast, List.length_map, decide_true, decide_false]⟩ ?_
    rintro A ⟨q4, q5, q6, q10, q17⟩
    refine wp_range2 (g := .func 122) (cap := [.pointer (some ⟨p, 0, none⟩), .pointer (some ⟨q, 0, none⟩)]) q17 ?_
    intro AS BD hAS hBD
    refine chunk_iter (XI H kv nv bv key nonce bs n H.size p q H5.size (.loop 71 30 A [18] AS BD .ready)) (by omega) (by omega) hl (fun j H6 X => ⟨X.bp, X.bq, hb.keep_old X.old⟩) ?_ ?_ ?_
    · intro j H6 part X hlt hpart
      obtain ⟨w, bw, how, hwb⟩ := X.out
      have ll := get_lt X.loop
      have lp := get_lt X.bp
      have lq := get_lt X.bq
      refine yield_call (show H.size ≤ H5.size by omega) X.loop rfl ?_
      obtain ⟨Hb, hHb⟩ : ∃ Hb, Hb = H6.setIfInBounds H5.size (.loop 71 30 A [18] AS BD .busy) := ⟨_, rfl⟩
      have hne : ∀ k, k ≠ H5.size → Hb[k]? = H6[k]? := fun k hk => by rw [hHb]; exact set_ne hk
      have hbs : Hb.size = H6.size := by rw [hHb]; simp
      have c4 : Hb[H.size]? = some (.cells [kv] true false) := by rw [hne _ (by omega)]; exact X.b4
      have c5 : Hb[H.size + 1]? = some (.cells [nv] true false) := by rw [hne _ (by omega)]; exact X.b5
      have c6 : Hb[H.size + 2]? = some (.cells [u32 (n + BitVec.ofNat 32 j)] true false) := by rw [hne _ (by omega)]; exact X.b6
      have c10 : Hb[H.size + 3]? = some (.cells [w] true false) := by rw [hne _ (by omega)]; exact bw
      have ob : ∀ k, k < H.size → Hb[k]? = H[k]? := fun k hk => by rw [hne k (by omega)]; exact X.old k hk
      have hL : Hb[H5.size]? = some (.loop 71 30 A [18] AS BD .busy) := by rw [hHb]; exact set_get ll
      have howb : Ow Hb H.size w (cxs key nonce n bs j) := OV.keep how fun k hk hbk => hne k (by have := hwb k hbk; omega)
      have hpb : Sl Hb part (chunk 64 bs j) := by
        refine hpart.mono ?_
        intro k vs ex tl hc
        by_cases hk : k = H5.size
        · subst hk
          rw [X.loop] at hc; cases hc
        · exact ⟨ex, tl, by rw [hne k hk]; exact hc⟩
      have M4 := load_cell (P := Try.prog) (t := 47) c4 kind_47 (o := 0) rfl
      have M5 := load_cell (P := Try.prog) (t := 47) c5 kind_47 (o := 0) rfl
      have M6 := load_cell (P := Try.prog) (t := 22) c6 kind_22 (o := 0) rfl
      have M10 := load_cell (P := Try.prog) (t := 47) c10 kind_47 (o := 0) rfl
      refine wp_code hAS ?_
      simp (maxSteps := 10000000) (disch := omega) only [go_sem, ↓reduceIte, Nat.reduceLT, Nat.reduceLeDiff, Nat.reduceEqDiff, Nat.reduceAdd, BitVec.reduceOfInt, BitVec.reduceSetWidth, BitVec.reduceBEq, BitVec.reduceBNe, BitVec.reduceEq, BitVec.reduceNe, Bool.true_eq_false, Bool.false_eq_true, beq_self_eq_true, Option.map_some, Option.map_none, Option.bind_some, List.getElem?_cons_zero, List.getElem?_cons_succ, List.getElem?_toArray, List.map_cons, List.map_nil, true_and, and_true, forall_const, ne_eq, not_true_eq_false, not_false_eq_true, false_implies, true_implies, reduceCtorEq, Int.reduceToNat, Int.cast_ofNat_Int, Int.natCast_zero, Int.natCast_one, bne_self_eq_false, Int.reduceLT, Int.reduceLE, Int.reduceEq, Int.reduceNe, Bool.not_true, Bool.not_false, if_true, if_false, false_and, and_false, or_false, or_true, true_or, false_or, List.length_cons, List.length_nil, Int.toNat_natCast, List.length_map, decide_true, decide_false, List.zip_cons_cons, List.zip_nil_left, List.foldl_cons, List.foldl_nil]
      refine ⟨X.loop, ?_⟩
      rw [← hHb]
      refine wp_code hBD ?_
      simp (maxSteps := 10000000) (disch := omega) only [go_sem, ↓reduceIte, Nat.reduceLT, Nat.reduceLeDiff, Nat.reduceEqDiff, Nat.reduceAdd, BitVec.reduceOfInt, BitVec.reduceSetWidth, BitVec.reduceBEq, BitVec.reduceBNe, BitVec.reduceEq, BitVec.reduceNe, Bool.true_eq_false, Bool.false_eq_true, beq_self_eq_true, Option.map_some, Option.map_none, Option.bind_some, List.getElem?_cons_zero, List.getElem?_cons_succ, List.getElem?_toArray, List.map_cons, List.map_nil, true_and, and_true, forall_const, ne_eq, not_true_eq_false, not_false_eq_true, false_implies, true_implies, reduceCtorEq, Int.reduceToNat, Int.cast_ofNat_Int, Int.natCast_zero, Int.natCast_one, bne_self_eq_false, Int.reduceLT, Int.reduceLE, Int.reduceEq, Int.reduceNe, Bool.not_true, Bool.not_false, if_true, if_false, false_and, and_false, or_false, or_true, true_or, false_or, List.length_cons, List.length_nil, Int.toNat_natCast, List.length_map, decide_true, decide_false]
      refine draw_of 7 (by kernel_rfl) ?_
      simp (maxSteps := 10000000) (disch := omega) only [go_sem, ↓reduceIte, Nat.reduceLT, Nat.reduceLeDiff, Nat.reduceEqDiff, Nat.reduceAdd, BitVec.reduceOfInt, BitVec.reduceSetWidth, BitVec.reduceBEq, BitVec.reduceBNe, BitVec.reduceEq, BitVec.reduceNe, Bool.true_eq_false, Bool.false_eq_true, beq_self_eq_true, Option.map_some, Option.map_none, Option.bind_some, List.getElem?_cons_zero, List.getElem?_cons_succ, List.getElem?_toArray, List.map_cons, List.map_nil, true_and, and_true, forall_const, ne_eq, not_true_eq_false, not_false_eq_true, false_implies, true_implies, reduceCtorEq, Int.reduceToNat, Int.cast_ofNat_Int, Int.natCast_zero, Int.natCast_one, bne_self_eq_false, Int.reduceLT, Int.reduceLE, Int.reduceEq, Int.reduceNe, Bool.not_true, Bool.not_false, if_true, if_false, false_and, and_false, or_false, or_true, true_or, false_or, List.length_cons, List.length_nil, Int.toNat_natCast, List.length_map, decide_true, decide_false, q4, q5, q6, q10, M4, M5, M6, M10]
      refine (cblock_fun _ (hk.keep_old ob) (hn.keep_old ob) (by omega) (by omega)).call (Nat.le_refl _) ?_
      intro kb H7 d1 d2 d3
      simp (maxSteps := 10000000) (disch := omega) only [go_sem, ↓reduceIte, Nat.reduceLT, Nat.reduceLeDiff, Nat.reduceEqDiff, Nat.reduceAdd, BitVec.reduceOfInt, BitVec.reduceSetWidth, BitVec.reduceBEq, BitVec.reduceBNe, BitVec.reduceEq, BitVec.reduceNe, Bool.true_eq_false, Bool.false_eq_true, beq_self_eq_true, Option.map_some, Option.map_none, Option.bind_some, List.getElem?_cons_zero, List.getElem?_cons_succ, List.getElem?_toArray, List.map_cons, List.map_nil, true_and, and_true, forall_const, ne_eq, not_true_eq_false, not_false_eq_true, false_implies, true_implies, reduceCtorEq, Int.reduceToNat, Int.cast_ofNat_Int, Int.natCast_zero, Int.natCast_one, bne_self_eq_false, Int.reduceLT, Int.reduceLE, Int.reduceEq, Int.reduceNe, Bool.not_true, Bool.not_false, if_true, if_false, false_and, and_false, or_false, or_true, true_or, false_or, List.length_cons, List.length_nil, Int.toNat_natCast, List.length_map, decide_true, decide_false]
      refine (xor_fun (hpb.keep_old d2) d3.sl (by rw [chunk_length]; omega) (by rw [cblock_length]; omega)).call (Nat.le_refl _) ?_
      intro xb H8 d4 d5 d6
      have o8 : ∀ k, k < Hb.size → H8[k]? = Hb[k]? := fun k hk => by rw [d5 k (by omega), d2 k hk]
      have hxl : (xorB (chunk 64 bs j) (cblock key nonce (n + BitVec.ofNat 32 j))).length ≤ 64 := by simp [xorB, cblock_length, chunk_length]; omega
      have hcl := cxs_length key nonce n bs j
      simp (maxSteps := 10000000) (disch := omega) only [go_sem, ↓reduceIte, Nat.reduceLT, Nat.reduceLeDiff, Nat.reduceEqDiff, Nat.reduceAdd, BitVec.reduceOfInt, BitVec.reduceSetWidth, BitVec.reduceBEq, BitVec.reduceBNe, BitVec.reduceEq, BitVec.reduceNe, Bool.true_eq_false, Bool.false_eq_true, beq_self_eq_true, Option.map_some, Option.map_none, Option.bind_some, List.getElem?_cons_zero, List.getElem?_cons_succ, List.getElem?_toArray, List.map_cons, List.map_nil, true_and, and_true, forall_const, ne_eq, not_true_eq_false, not_false_eq_true, false_implies, true_implies, reduceCtorEq, Int.reduceToNat, Int.cast_ofNat_Int, Int.natCast_zero, Int.natCast_one, bne_self_eq_false, Int.reduceLT, Int.reduceLE, Int.reduceEq, Int.reduceNe, Bool.not_true, Bool.not_false, if_true, if_false, false_and, and_false, or_false, or_true, true_or, false_or, List.length_cons, List.length_nil, Int.toNat_natCast, List.length_map, decide_true, decide_false]
      refine append_bytes (OV.keep howb fun k hk _ => o8 k hk) d6.sl (Nat.le_refl _) (by omega) (by omega) ?_
      intro w' H9 g1 g2 g3 g4 g5
      have o9 : ∀ k, k < Hb.size → blockOf w ≠ some k → H9[k]? = Hb[k]? := fun k hk hne => by rw [g3 k (by omega) hne, o8 k hk]
      have nb : ∀ k, k ≤ H5.size → blockOf w ≠ some k := fun k hk e => by have := hwb k e; omega
      have e10 : H9[H.size + 3]? = some (.cells [w] true false) := by rw [o9 _ (by omega) (nb _ (by omega))]; exact c10
      simp (maxSteps := 10000000) (disch := omega) only [go_sem, ↓reduceIte, Nat.reduceLT, Nat.reduceLeDiff, Nat.reduceEqDiff, Nat.reduceAdd, BitVec.reduceOfInt, BitVec.reduceSetWidth, BitVec.reduceBEq, BitVec.reduceBNe, BitVec.reduceEq, BitVec.reduceNe, Bool.true_eq_false, Bool.false_eq_true, beq_self_eq_true, Option.map_some, Option.map_none, Option.bind_some, List.getElem?_cons_zero, List.getElem?_cons_succ, List.getElem?_toArray, List.map_cons, List.map_nil, true_and, and_true, forall_const, ne_eq, not_true_eq_false, not_false_eq_true, false_implies, true_implies, reduceCtorEq, Int.reduceToNat, Int.cast_ofNat_Int, Int.natCast_zero, Int.natCast_one, bne_self_eq_false, Int.reduceLT, Int.reduceLE, Int.reduceEq, Int.reduceNe, Bool.not_true, Bool.not_false, if_true, if_false, false_and, and_false, or_false, or_true, true_or, false_or, List.length_cons, List.length_nil, Int.toNat_natCast, List.length_map, decide_true, decide_false, q10]
      refine store_cell e10 sz_47 g4.stc (by omega) (by simp) ?_
      intro H10 s1 s2 s3
      have e6 : H10[H.size + 2]? = some (.cells [u32 (n + BitVec.ofNat 32 j)] true false) := by rw [s2 _ (by omega), o9 _ (by omega) (nb _ (by omega))]; exact c6
      have M6' := load_cell (P := Try.prog) (t := 22) e6 kind_22 (o := 0) rfl
      simp (maxSteps := 10000000) (disch := omega) only [go_sem, ↓reduceIte, Nat.reduceLT, Nat.reduceLeDiff, Nat.reduceEqDiff, Nat.reduceAdd, BitVec.reduceOfInt, BitVec.reduceSetWidth, BitVec.reduceBEq, BitVec.reduceBNe, BitVec.reduceEq, BitVec.reduceNe, Bool.true_eq_false, Bool.false_eq_true, beq_self_eq_true, Option.map_some, Option.map_none, Option.bind_some, List.getElem?_cons_zero, List.getElem?_cons_succ, List.getElem?_toArray, List.map_cons, List.map_nil, true_and, and_true, forall_const, ne_eq, not_true_eq_false, not_false_eq_true, false_implies, true_implies, reduceCtorEq, Int.reduceToNat, Int.cast_ofNat_Int, Int.natCast_zero, Int.natCast_one, bne_self_eq_false, Int.reduceLT, Int.reduceLE, Int.reduceEq, Int.reduceNe, Bool.not_true, Bool.not_false, if_true, if_false, false_and, and_false, or_false, or_true, true_or, false_or, List.length_cons, List.length_nil, Int.toNat_natCast, List.length_map, decide_true, decide_false, q6, M6']
      refine store_cell e6 sz_22 rfl (by omega) (by simp) ?_
      intro H11 s4 s5 s6
      have o11 : ∀ k, k < Hb.size → k ≠ H.size + 3 → k ≠ H.size + 2 → blockOf w ≠ some k → H11[k]? = Hb[k]? := fun k hk h1 h2 h3 => by rw [s5 k h2, s2 k h1, o9 k hk h3]
      have hw' : ∀ k, blockOf w' = some k → H5.size < k := by
        intro k hk
        rcases g5 with ⟨e, _, _⟩ | e
        · rw [e] at hk; exact hwb k hk
        · rw [e] at hk; cases hk; omega
      simp (maxSteps := 10000000) (disch := omega) only [go_sem, ↓reduceIte, Nat.reduceLT, Nat.reduceLeDiff, Nat.reduceEqDiff, Nat.reduceAdd, BitVec.reduceOfInt, BitVec.reduceSetWidth, BitVec.reduceBEq, BitVec.reduceBNe, BitVec.reduceEq, BitVec.reduceNe, Bool.true_eq_false, Bool.false_eq_true, beq_self_eq_true, Option.map_some, Option.map_none, Option.bind_some, List.getElem?_cons_zero, List.getElem?_cons_succ, List.getElem?_toArray, List.map_cons, List.map_nil, true_and, and_true, forall_const, ne_eq, not_true_eq_false, not_false_eq_true, false_implies, true_implies, reduceCtorEq, Int.reduceToNat, Int.cast_ofNat_Int, Int.natCast_zero, Int.natCast_one, bne_self_eq_false, Int.reduceLT, Int.reduceLE, Int.reduceEq, Int.reduceNe, Bool.not_true, Bool.not_false, if_true, if_false, false_and, and_false, or_false, or_true, true_or, false_or, List.length_cons, List.length_nil, Int.toNat_natCast, List.length_map, decide_true, decide_false]
      refine ⟨by rw [o11 _ (by omega) (by omega) (by omega) (nb _ (by omega))]; exact hL, rfl, ?_⟩
      have hl11 : H5.size < H11.size := by omega
      have o12 : ∀ k, k ≠ H5.size → (H11.setIfInBounds H5.size (.loop 71 30 A [18] AS BD .ready))[k]? = H11[k]? := fun k hk => set_ne hk
      have hb6 : u32 (n + BitVec.ofNat 32 j + 1#32) = u32 (n + BitVec.ofNat 32 (j + 1)) := by
        have e : n + BitVec.ofNat 32 j + 1#32 = n + BitVec.ofNat 32 (j + 1) := by
          rw [BitVec.add_assoc]
          congr 1
          apply BitVec.eq_of_toNat_eq
          simp [BitVec.toNat_add, BitVec.toNat_ofNat]
        rw [e]
      refine ⟨set_get hl11, ?_, ?_, ?_, ?_, ?_, ⟨w', ?_, ?_, hw'⟩, by simp; omega, fun k hk => ?_⟩
      · rw [o12 _ (by omega), o11 _ (by omega) (by omega) (by omega) (nb _ (by omega)), hne _ (by omega)]; exact X.bp
      · rw [o12 _ (by omega), o11 _ (by omega) (by omega) (by omega) (nb _ (by omega)), hne _ (by omega)]; exact X.bq
      · rw [o12 _ (by omega), o11 _ (by omega) (by omega) (by omega) (nb _ (by omega))]; exact c4
      · rw [o12 _ (by omega), o11 _ (by omega) (by omega) (by omega) (nb _ (by omega))]; exact c5
      · rw [o12 _ (by omega), ← hb6]; exact s6
      · rw [o12 _ (by omega), s5 _ (by omega)]; exact s3
      · exact OV.keep g4 fun k hk hbk => by
          have := hw' k hbk
          rw [o12 _ (by omega), s5 _ (by omega), s2 _ (by omega)]
      · rw [o12 _ (by omega), o11 _ (by omega) (by omega) (by omega) (nb _ (by omega))]; exact ob k hk
    · refine ⟨get_push_new, by rw [get_push_old hp2]; exact bp, by rw [get_push_old hq2]; exact bq, by rw [get_push_old (by omega)]; exact k4, by rw [get_push_old (by omega)]; exact k5, ?_, ⟨_, by rw [get_push_old (by omega)]; exact k10, OV.nil _ _, by simp [blockOf]⟩, by simp; omega, fun k hk => by rw [get_push_old (by omega)]; exact o5 k hk⟩
      rw [get_push_old (by omega), k6]
      simp
    · intro j H6 hj1 hj2 X
      obtain ⟨w, bw, how, hwb⟩ := X.out
      have hjj : j = (bs.length + 63) / 64 := by
        by_cases h0 : j = 0
        · subst h0; omega
        · have := hj2 h0; omega
      refine .inl ⟨X.loop, ?_⟩
      have lo := get_lt bw
      have bw2 : (H6.setIfInBounds H5.size (.loop 71 30 A [18] AS BD .over))[H.size + 3]? = some (.cells [w] true false) := by rw [set_ne (by omega)]; exact bw
      have M10 := load_cell (P := Try.prog) (t := 47) bw2 kind_47 (o := 0) rfl
      simp (maxSteps := 10000000) (disch := omega) only [go_sem, ↓reduceIte, Nat.reduceLT, Nat.reduceLeDiff, Nat.reduceEqDiff, Nat.reduceAdd, BitVec.reduceOfInt, BitVec.reduceSetWidth, BitVec.reduceBEq, BitVec.reduceBNe, BitVec.reduceEq, BitVec.reduceNe, Bool.true_eq_false, Bool.false_eq_true, beq_self_eq_true, Option.map_some, Option.map_none, Option.bind_some, List.getElem?_cons_zero, List.getElem?_cons_succ, List.getElem?_toArray, List.map_cons, List.map_nil, true_and, and_true, forall_const, ne_eq, not_true_eq_false, not_false_eq_true, false_implies, true_implies, reduceCtorEq, Int.reduceToNat, Int.cast_ofNat_Int, Int.natCast_zero, Int.natCast_one, bne_self_eq_false, Int.reduceLT, Int.reduceLE, Int.reduceEq, Int.reduceNe, Bool.not_true, Bool.not_false, if_true, if_false, false_and, and_false, or_false, or_true, true_or, false_or, List.length_cons, List.length_nil, Int.toNat_natCast, List.length_map, decide_true, decide_false, q10, M10]
      refine ⟨fun _ => ⟨w, rfl, ?_⟩, fun h2 => absurd h h2⟩
      unfold cxor
      rw [← hjj]
      exact OV.keep how fun k hk hbk => set_ne (by have := hwb k hbk; omega)
  · simp (maxSteps := 10000000) (disch := omega) only [go_sem, ↓reduceIte, Nat.reduceLT, Nat.reduceLeDiff, Nat.reduceEqDiff, Nat.reduceAdd, BitVec.reduceOfInt, BitVec.reduceSetWidth, BitVec.reduceBEq, BitVec.reduceBNe, BitVec.reduceEq, BitVec.reduceNe, Bool.true_eq_false, Bool.false_eq_true, beq_self_eq_true, Option.map_some, Option.map_none, Option.bind_some, List.getElem?_cons_zero, List.getElem?_cons_succ, List.getElem?_toArray, List.map_cons, List.map_nil, true_and, and_true, forall_const, ne_eq, not_true_eq_false, not_false_eq_true, false_implies, true_implies, reduceCtorEq, Int.reduceToNat, Int.cast_ofNat_Int, Int.natCast_zero, Int.natCast_one, bne_self_eq_false, Int.reduceLT, Int.reduceLE, Int.reduceEq, Int.reduceNe, Bool.not_true, Bool.not_false, if_true, if_false, false_and, and_false, or_false, or_true, true_or, false_or, List.length_cons, List.length_nil, Int.toNat_natCast, List.length_map, decide_true, decide_false, h]
    exact ⟨fun h2 => absurd h2 h, fun _ => rfl⟩

end Go.Proofs.Ytcapjjmikapmfaa.M
