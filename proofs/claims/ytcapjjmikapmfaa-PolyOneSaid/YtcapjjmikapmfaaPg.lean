/- Poly1305 by the document: the tag. -/
import Derived.Test.YtcapjjmikapmfaaPe
import Derived.Test.YtcapjjmikapmfaaPf
set_option linter.unusedVariables false
set_option linter.unusedSimpArgs false
namespace Go.Proofs.Ytcapjjmikapmfaa.M
open Go Go.Proofs

theorem w64_and (a m : Nat) (ha : a < 2 ^ 64) (hm : m < 2 ^ 64) : w64 a &&& w64 m = w64 (a &&& m) := by
  apply BitVec.eq_of_toNat_eq
  rw [BitVec.toNat_and, w64_toNat a ha, w64_toNat m hm, w64_toNat _ (Nat.lt_of_le_of_lt Nat.and_le_left ha)]
theorem w64_byte (b : BitVec 8) : b.setWidth 64 = w64 b.toNat := by
  apply BitVec.eq_of_toNat_eq
  have := b.isLt
  rw [w64_toNat _ (by omega), BitVec.toNat_setWidth]
  omega
theorem w64_low (a : Nat) : (w64 a).setWidth 8 = BitVec.ofNat 8 a := by
  apply BitVec.eq_of_toNat_eq
  rw [BitVec.toNat_setWidth, w64, BitVec.toNat_ofNat, BitVec.toNat_ofNat]
  omega

def kd (key : List (BitVec 8)) (i : Nat) : Nat := (key.getD i 0#8).toNat
theorem kd_lt (key : List (BitVec 8)) (i : Nat) : kd key i ≤ 255 := by have := (key.getD i 0#8).isLt; unfold kd; omega
def kdL (key : List (BitVec 8)) (k : Nat) : List Nat := (List.range k).map (kd key) ++ List.replicate (17 - k) 0
theorem kdL_length (key : List (BitVec 8)) (k : Nat) (h : k ≤ 17) : (kdL key k).length = 17 := by simp [kdL]; omega
theorem kdL_set (key : List (BitVec 8)) (k : Nat) (h : k < 17) : (kdL key k).set k (kd key k) = kdL key (k + 1) := by
  have := fill_set ((List.range k).map (kd key)) 0 (kd key k) 17 (by simpa using h)
  simp only [List.length_map, List.length_range] at this
  unfold kdL
  rw [this, List.range_succ, List.map_append]
  rfl
def rL (key : List (BitVec 8)) : List Nat :=
  ((((((((kdL key 16).set 3 (kd key 3 &&& 15)).set 7 (kd key 7 &&& 15)).set 11 (kd key 11 &&& 15)).set 15 (kd key 15 &&& 15)).set 4 (kd key 4 &&& 252)).set 8 (kd key 8 &&& 252)).set 12 (kd key 12 &&& 252))
theorem rL_length (key : List (BitVec 8)) : (rL key).length = 17 := by simp [rL, kdL_length]
theorem and15 (b : BitVec 8) : b.toNat &&& 15 = (b &&& 15#8).toNat := by rw [BitVec.toNat_and]; rfl
theorem and252 (b : BitVec 8) : b.toNat &&& 252 = (b &&& 252#8).toNat := by rw [BitVec.toNat_and]; rfl
theorem and255 (b : BitVec 8) : b &&& 255#8 = b := BitVec.and_allOnes
theorem rL_eq (key : List (BitVec 8)) : rL key = (clampL key).map BitVec.toNat ++ [0] := by
  have e : List.range 16 = [0, 1, 2, 3, 4, 5, 6, 7, 8, 9, 10, 11, 12, 13, 14, 15] := by decide
  unfold rL kdL clampL kd
  rw [e]
  simp only [List.map_cons, List.map_nil, List.cons_append, List.nil_append, List.set_cons_succ, List.set_cons_zero, and15, and252]
  simp [clampM, and255]
theorem val_rL (key : List (BitVec 8)) : val 256 (rL key) = polyR key := by
  rw [rL_eq, val_append]
  simp [val, polyR, leN]
theorem rL_le (key : List (BitVec 8)) : ∀ d ∈ rL key, d ≤ 255 := by
  intro d hd
  rw [rL_eq] at hd
  simp only [List.mem_append, List.mem_map, List.mem_cons, List.not_mem_nil, or_false] at hd
  rcases hd with ⟨x, _, rfl⟩ | rfl
  · have := x.isLt; omega
  · omega

theorem build_84 : buildA Try.prog 84 [(0, .int .i64 3), (1, .int .i64 7), (2, .int .i64 11), (3, .int .i64 15)] = some (.agg #[.int .i64 3, .int .i64 7, .int .i64 11, .int .i64 15]) := by kernel_rfl
theorem build_85 : buildA Try.prog 85 [(0, .int .i64 4), (1, .int .i64 8), (2, .int .i64 12)] = some (.agg #[.int .i64 4, .int .i64 8, .int .i64 12]) := by kernel_rfl
theorem ix_84 {k : Nat} {x : Int} (hk : k < 4) (hx : [3, 7, 11, 15][k]? = some x) : indexA Try.prog 84 (.agg #[.int .i64 3, .int .i64 7, .int .i64 11, .int .i64 15]) (.int .i64 (k : Nat)) = some (.int .i64 x) := by
  refine ix_arr Try.underlying84 sz_3 kind_3 (by omega) (by omega) ?_
  rw [Int.toNat_natCast]
  match k, hk with
  | 0, _ => simpa using hx
  | 1, _ => simpa using hx
  | 2, _ => simpa using hx
  | 3, _ => simpa using hx
theorem ix_85 {k : Nat} {x : Int} (hk : k < 3) (hx : [4, 8, 12][k]? = some x) : indexA Try.prog 85 (.agg #[.int .i64 4, .int .i64 8, .int .i64 12]) (.int .i64 (k : Nat)) = some (.int .i64 x) := by
  refine ix_arr Try.underlying85 sz_3 kind_3 (by omega) (by omega) ?_
  rw [Int.toNat_natCast]
  match k, hk with
  | 0, _ => simpa using hx
  | 1, _ => simpa using hx
  | 2, _ => simpa using hx

def mL1 (key : List (BitVec 8)) (i : Nat) : List Nat := ([3, 7, 11, 15].take i).foldl (fun l x => l.set x (kd key x &&& 15)) (kdL key 16)
def mL2 (key : List (BitVec 8)) (i : Nat) : List Nat := ([4, 8, 12].take i).foldl (fun l x => l.set x (kd key x &&& 252)) (mL1 key 4)
theorem kdL_get (key : List (BitVec 8)) (x : Nat) (h : x < 16) : (kdL key 16)[x]? = some (kd key x) := by
  rw [kdL, List.getElem?_append_left (by simpa using h)]
  simp [h]
theorem mL1_length (key : List (BitVec 8)) : ∀ i, (mL1 key i).length = 17 := by
  intro i
  have h : ∀ (l : List Nat) (m : List Nat), (l.foldl (fun l x => l.set x (kd key x &&& 15)) m).length = m.length := by
    intro l
    induction l with
    | nil => intro m; rfl
    | cons x l ih => intro m; rw [List.foldl_cons, ih, List.length_set]
  rw [mL1, h, kdL_length _ _ (by omega)]
theorem mL2_length (key : List (BitVec 8)) : ∀ i, (mL2 key i).length = 17 := by
  intro i
  have h : ∀ (l : List Nat) (m : List Nat), (l.foldl (fun l x => l.set x (kd key x &&& 252)) m).length = m.length := by
    intro l
    induction l with
    | nil => intro m; rfl
    | cons x l ih => intro m; rw [List.foldl_cons, ih, List.length_set]
  rw [mL2, h, mL1_length]
theorem mL1_step (key : List (BitVec 8)) {i : Nat} (hi : i < 4) : ∃ x : Nat, x < 16 ∧ [(3 : Int), 7, 11, 15][i]? = some (x : Int) ∧ (mL1 key i)[x]? = some (kd key x) ∧ (mL1 key i).set x (kd key x &&& 15) = mL1 key (i + 1) := by
  match i, hi with
  | 0, _ => exact ⟨3, by omega, rfl, kdL_get key 3 (by omega), rfl⟩
  | 1, _ => exact ⟨7, by omega, rfl, by simp only [mL1, List.take_succ_cons, List.take_zero, List.foldl_cons, List.foldl_nil]; rw [List.getElem?_set_ne (by omega)]; exact kdL_get key 7 (by omega), rfl⟩
  | 2, _ => exact ⟨11, by omega, rfl, by simp only [mL1, List.take_succ_cons, List.take_zero, List.foldl_cons, List.foldl_nil]; rw [List.getElem?_set_ne (by omega), List.getElem?_set_ne (by omega)]; exact kdL_get key 11 (by omega), rfl⟩
  | 3, _ => exact ⟨15, by omega, rfl, by simp only [mL1, List.take_succ_cons, List.take_zero, List.foldl_cons, List.foldl_nil]; rw [List.getElem?_set_ne (by omega), List.getElem?_set_ne (by omega), List.getElem?_set_ne (by omega)]; exact kdL_get key 15 (by omega), rfl⟩
theorem mL14_get (key : List (BitVec 8)) (x : Nat) (h : x < 16) (h3 : x ≠ 3) (h7 : x ≠ 7) (h11 : x ≠ 11) (h15 : x ≠ 15) : (mL1 key 4)[x]? = some (kd key x) := by
  simp only [mL1, List.take_succ_cons, List.take_zero, List.foldl_cons, List.foldl_nil]
  rw [List.getElem?_set_ne (by omega), List.getElem?_set_ne (by omega), List.getElem?_set_ne (by omega), List.getElem?_set_ne (by omega)]
  exact kdL_get key x h
theorem mL2_step (key : List (BitVec 8)) {i : Nat} (hi : i < 3) : ∃ x : Nat, x < 16 ∧ [(4 : Int), 8, 12][i]? = some (x : Int) ∧ (mL2 key i)[x]? = some (kd key x) ∧ (mL2 key i).set x (kd key x &&& 252) = mL2 key (i + 1) := by
  match i, hi with
  | 0, _ => exact ⟨4, by omega, rfl, mL14_get key 4 (by omega) (by omega) (by omega) (by omega) (by omega), rfl⟩
  | 1, _ => exact ⟨8, by omega, rfl, by simp only [mL2, List.take_succ_cons, List.take_zero, List.foldl_cons, List.foldl_nil]; rw [List.getElem?_set_ne (by omega)]; exact mL14_get key 8 (by omega) (by omega) (by omega) (by omega) (by omega), rfl⟩
  | 2, _ => exact ⟨12, by omega, rfl, by simp only [mL2, List.take_succ_cons, List.take_zero, List.foldl_cons, List.foldl_nil]; rw [List.getElem?_set_ne (by omega), List.getElem?_set_ne (by omega)]; exact mL14_get key 12 (by omega) (by omega) (by omega) (by omega) (by omega), rfl⟩
theorem mL2_end (key : List (BitVec 8)) : mL2 key 3 = rL key := rfl

/-- What stays in all loops. -/
structure RT (kv bv : Value) (rs hs : List Nat) (H0 : Heap) (a : AAct) (H : Heap) : Prop where
  a0 : a 0 = kv
  a1 : a 1 = bv
  a6 : a 6 = .pointer (some ⟨H0.size, 0, none⟩)
  a7 : a 7 = .pointer (some ⟨H0.size + 1, 0, none⟩)
  b6 : H[H0.size]? = some (.cells ((dn rs).map u64) true false)
  b7 : H[H0.size + 1]? = some (.cells ((dn hs).map u64) true false)
  old : ∀ k, k < H0.size → H[k]? = H0[k]?
theorem RT.act {kv bv : Value} {rs hs : List Nat} {H0 : Heap} {a b : AAct} {H : Heap} (h : RT kv bv rs hs H0 a H) (e0 : b 0 = a 0) (e1 : b 1 = a 1) (e6 : b 6 = a 6) (e7 : b 7 = a 7) : RT kv bv rs hs H0 b H :=
  ⟨by rw [e0, h.a0], by rw [e1, h.a1], by rw [e6, h.a6], by rw [e7, h.a7], h.b6, h.b7, h.old⟩
theorem RT.set6 {kv bv : Value} {rs rs' hs : List Nat} {H0 : Heap} {a : AAct} {H H' : Heap} (h : RT kv bv rs hs H0 a H) (h1 : ∀ j, j ≠ H0.size → H'[j]? = H[j]?) (h2 : H'[H0.size]? = some (.cells ((dn rs').map u64) true false)) : RT kv bv rs' hs H0 a H' :=
  ⟨h.a0, h.a1, h.a6, h.a7, h2, by rw [h1 _ (by omega)]; exact h.b7, fun k hk => by rw [h1 k (by omega)]; exact h.old k hk⟩
theorem RT.set7 {kv bv : Value} {rs hs hs' : List Nat} {H0 : Heap} {a : AAct} {H H' : Heap} (h : RT kv bv rs hs H0 a H) (h1 : ∀ j, j ≠ H0.size + 1 → H'[j]? = H[j]?) (h2 : H'[H0.size + 1]? = some (.cells ((dn hs').map u64) true false)) : RT kv bv rs hs' H0 a H' :=
  ⟨h.a0, h.a1, h.a6, h.a7, by rw [h1 _ (by omega)]; exact h.b6, h2, fun k hk => by rw [h1 k (by omega)]; exact h.old k hk⟩
theorem RT.lt {kv bv : Value} {rs hs : List Nat} {H0 : Heap} {a : AAct} {H : Heap} (h : RT kv bv rs hs H0 a H) : H0.size + 1 < H.size := get_lt h.b7
theorem RT.keep {kv bv : Value} {rs hs : List Nat} {H0 : Heap} {a : AAct} {H H' : Heap} (h : RT kv bv rs hs H0 a H) (h1 : ∀ j, j < H.size → H'[j]? = H[j]?) : RT kv bv rs hs H0 a H' := by
  have := h.lt
  exact ⟨h.a0, h.a1, h.a6, h.a7, by rw [h1 _ (by omega)]; exact h.b6, by rw [h1 _ (by omega)]; exact h.b7, fun k hk => by rw [h1 k (by omega)]; exact h.old k hk⟩

def rtKey (kv bv : Value) (key : List (BitVec 8)) (H0 : Heap) (m : Nat) (a : AAct) (H : Heap) : Prop :=
  ∃ k : Nat, k + m = 16 ∧ a 23 = .int .i64 (k : Nat) ∧ RT kv bv (kdL key k) (List.replicate 17 0) H0 a H
def rtM1 (kv bv : Value) (key : List (BitVec 8)) (H0 : Heap) (m : Nat) (a : AAct) (H : Heap) : Prop :=
  ∃ k : Nat, k + m = 4 ∧ a 34 = .agg #[.int .i64 3, .int .i64 7, .int .i64 11, .int .i64 15] ∧ a 35 = .int .i64 (k : Nat) ∧ RT kv bv (mL1 key k) (List.replicate 17 0) H0 a H
def rtM2 (kv bv : Value) (key : List (BitVec 8)) (H0 : Heap) (m : Nat) (a : AAct) (H : Heap) : Prop :=
  ∃ k : Nat, k + m = 3 ∧ a 44 = .agg #[.int .i64 4, .int .i64 8, .int .i64 12] ∧ a 45 = .int .i64 (k : Nat) ∧ RT kv bv (mL2 key k) (List.replicate 17 0) H0 a H
def rtMain (kv bv : Value) (key bs : List (BitVec 8)) (H0 : Heap) (m : Nat) (a : AAct) (H : Heap) : Prop :=
  ∃ j W : Nat, m = bs.length - 16 * j ∧ (j ≠ 0 → 16 * (j - 1) < bs.length) ∧ a 13 = .int .i64 ((16 * j : Nat) : Int) ∧ W < 2 ^ 130 ∧ W % PP = polyH (polyR key) bs j ∧ RT kv bv (rL key) (digs W) H0 a H
def rtAdd (kv bv pv : Value) (key ps : List (BitVec 8)) (W j : Nat) (H0 : Heap) (m : Nat) (a : AAct) (H : Heap) : Prop :=
  ∃ (k : Nat) (hs : List Nat), k + m = ps.length ∧ a 13 = .int .i64 ((16 * j : Nat) : Int) ∧ a 14 = pv ∧ a 68 = pv ∧ a 69 = .int .i64 (ps.length : Nat) ∧ a 70 = .int .i64 (k : Nat) ∧ hs.length = 17 ∧ val 256 hs = W + leN (ps.take k) ∧ (∀ d ∈ hs, d ≤ 255 * (k + 1)) ∧ RT kv bv (rL key) hs H0 a H

/-- The carry behind k bytes of the sum. -/
def endC (V : Nat) (ss : List (BitVec 8)) (k : Nat) : Nat := (val 256 ((digs V).take k) + leN (ss.take k)) / 256 ^ k
theorem endC_zero (V : Nat) (ss : List (BitVec 8)) : endC V ss 0 = 0 := by simp [endC, val, leN]
theorem endC_le (V : Nat) (ss : List (BitVec 8)) (k : Nat) : endC V ss k ≤ 600 := by
  have h1 := val_le (b := 256) (m := 255) (by omega) ((digs V).take k) (fun d hd => digs_lt V d (List.mem_of_mem_take hd))
  have h2 := leN_lt (ss.take k)
  have h3 : (256 : Nat) ^ ((digs V).take k).length ≤ 256 ^ k := Nat.pow_le_pow_right (by omega) (by simp; omega)
  have h4 : (256 : Nat) ^ (ss.take k).length ≤ 256 ^ k := Nat.pow_le_pow_right (by omega) (by simp; omega)
  unfold endC
  refine Nat.div_le_of_le_mul ?_
  omega
theorem endC_add {V : Nat} {ss : List (BitVec 8)} {k : Nat} (hk : k < 17) (hs : k < ss.length) : endC V ss k + ((digs V)[k]'(by rw [digs_length]; exact hk) + ss[k].toNat) = (val 256 ((digs V).take (k + 1)) + leN (ss.take (k + 1))) / 256 ^ k := by
  rw [endC, val_take_succ _ _ _ (by rw [digs_length]; exact hk), leN_take_succ _ _ hs]
  have e : val 256 ((digs V).take k) + (digs V)[k]'(by rw [digs_length]; exact hk) * 256 ^ k + (leN (ss.take k) + ss[k].toNat * 256 ^ k) = (val 256 ((digs V).take k) + leN (ss.take k)) + ((digs V)[k]'(by rw [digs_length]; exact hk) + ss[k].toNat) * 256 ^ k := by
    rw [Nat.add_mul]; omega
  rw [e, Nat.add_mul_div_right _ _ (pow256_pos k)]
theorem endC_succ {V : Nat} {ss : List (BitVec 8)} {k : Nat} (hk : k < 17) (hs : k < ss.length) : (endC V ss k + ((digs V)[k]'(by rw [digs_length]; exact hk) + ss[k].toNat)) / 256 = endC V ss (k + 1) := by
  rw [endC_add hk hs, endC, Nat.div_div_eq_div_mul, Nat.pow_succ]
theorem endC_byte {V : Nat} (hV : V < 2 ^ 130) {ss : List (BitVec 8)} {k : Nat} (hk : k < 17) (hs : k < ss.length) : BitVec.ofNat 8 (endC V ss k + ((digs V)[k]'(by rw [digs_length]; exact hk) + ss[k].toNat)) = BitVec.ofNat 8 ((V + leN ss) / 256 ^ k) := by
  rw [endC_add hk hs]
  have h1 := val_split 256 (digs V) (k + 1) (by rw [digs_length]; exact hk)
  rw [val_digs, Nat.mod_eq_of_lt hV] at h1
  have h2 := leN_take ss (k + 1) hs
  have e : V + leN ss = (val 256 ((digs V).take (k + 1)) + leN (ss.take (k + 1))) + 256 ^ k * (256 * (val 256 ((digs V).drop (k + 1)) + leN (ss.drop (k + 1)))) := by
    have ep : (256 : Nat) ^ k * 256 = 256 ^ (k + 1) := (Nat.pow_succ ..).symm
    rw [← Nat.mul_assoc, ep, Nat.mul_add]; omega
  apply BitVec.eq_of_toNat_eq
  rw [BitVec.toNat_ofNat, BitVec.toNat_ofNat, e, Nat.add_mul_div_left _ _ (pow256_pos k)]
  omega
def rtEnd (kv bv : Value) (key : List (BitVec 8)) (V : Nat) (H0 : Heap) (m : Nat) (a : AAct) (H : Heap) : Prop :=
  ∃ k : Nat, k + m = 16 ∧ a 17 = u64 (w64 (endC V ((key.drop 16).take 16) k)) ∧ Ow H (H0.size + 2) (a 18) (leB k (V + polyS key)) ∧ a 95 = .int .i64 (k : Nat) ∧ RT kv bv (rL key) (digs V) H0 a H

set_option maxRecDepth 20000 in
set_option maxHeartbeats 8000000 in
theorem refTag_fun {kv bv : Value} {key bs : List (BitVec 8)} {H : Heap} (hk : Sl H kv key) (hb : Sl H bv bs) (hl : key.length ≤ 100000000000000) (hl2 : bs.length ≤ 100000000000000) : Fun Try.prog 86 [kv, bv] H (TagQ H key bs) := by
  refine fun_of Try.func86 rfl (by decide +kernel) (Nat.le_of_ble_eq_true rfl) ?_
  unfold Try.f86
  simp (maxSteps := 10000000) (disch := omega) only [go_sem, hk.len]
  by_cases h : key.length = 32
  · have h' := eq_true (show ((key.length : Nat) : Int) = 32 by omega)
    simp (maxSteps := 10000000) (disch := omega) only [go_sem, h']
    obtain ⟨H1, hH1⟩ : ∃ H1, H1 = (H.push (.cells (List.replicate 17 (u64 0)) true false)).push (.cells (List.replicate 17 (u64 0)) true false) := ⟨_, rfl⟩
    have n1 : (H.push (.cells (List.replicate 17 (u64 0)) true false)).size = H.size + 1 := by simp
    rw [n1, ← hH1]
    have R1 : ∀ a : AAct, a 0 = kv → a 1 = bv → a 6 = .pointer (some ⟨H.size, 0, none⟩) → a 7 = .pointer (some ⟨H.size + 1, 0, none⟩) → RT kv bv (kdL key 0) (List.replicate 17 0) H a H1 := fun a e0 e1 e6 e7 =>
      ⟨e0, e1, e6, e7, by rw [hH1]; exact keep_push get_push_new, by rw [hH1, ← n1]; exact get_push_new, fun k hk => by rw [hH1, get_push_old (by omega), get_push_old hk]⟩
    refine wp_loop (rtKey kv bv key H) ?_ 16 ?_
    · rintro m a H2 ⟨k, hk16, q23, R⟩
      have q0 := R.a0
      have q1 := R.a1
      have q6 := R.a6
      have q7 := R.a7
      have hlt2 := R.lt
      simp (maxSteps := 10000000) (disch := omega) only [go_sem, q0, q1, q6, q7, q23]
      by_cases hlt : k < 16
      · have hlt' := eq_true (show (k : Int) < 16 by omega)
        obtain ⟨ad, e1, e2⟩ := (hk.keep_old2 R.old).index (k := (k : Int)) (by omega) (by omega)
        have e3 : (key[k]'(by omega)).toNat = kd key k := by
          unfold kd
          rw [List.getD_eq_getElem?_getD, List.getElem?_eq_getElem (by omega)]
          rfl
        simp only [Int.toNat_natCast] at e2
        simp (maxSteps := 10000000) (disch := omega) only [go_sem, q0, q1, q6, q7, q23, hlt', e1, e2, w64_byte, e3, Nat.zero_add]
        refine store_u64 R.b6 (Nat.le_refl _) (by rw [dn_length, kdL_length _ _ (by omega)]; omega) ?_
        intro H3 s1 s2 s3
        rw [dn_set, kdL_set _ _ (by omega)] at s3
        simp (maxSteps := 10000000) (disch := omega) only [go_sem, q23, wrap_i64]
        exact ⟨m - 1, by omega, k + 1, by omega, by simp (maxSteps := 10000000) (disch := omega) only [go_sem]; push_cast; rfl, (R.set6 s2 s3).act (by simp (maxSteps := 10000000) (disch := omega) only [go_sem]) (by simp (maxSteps := 10000000) (disch := omega) only [go_sem]) (by simp (maxSteps := 10000000) (disch := omega) only [go_sem]) (by simp (maxSteps := 10000000) (disch := omega) only [go_sem])⟩
      · have hlt' := eq_false (show ¬ (k : Int) < 16 by omega)
        have hkk : k = 16 := by omega
        subst hkk
        simp (maxSteps := 10000000) (disch := omega) only [go_sem, q0, q1, q6, q7, q23, hlt', build_84]
        refine wp_loop (rtM1 kv bv key H) ?_ 4 ?_
        · rintro m a H3 ⟨i, hi4, q34, q35, R⟩
          have q0 := R.a0
          have q1 := R.a1
          have q6 := R.a6
          have q7 := R.a7
          have hlt2 := R.lt
          simp (maxSteps := 10000000) (disch := omega) only [go_sem, q0, q1, q6, q7, q34, q35]
          by_cases hlt : i < 4
          · have hlt' := eq_true (show (i : Int) < 4 by omega)
            obtain ⟨x, x1, x2, x3, x4⟩ := mL1_step key hlt
            have hix := ix_84 hlt x2
            have L := load_u64 R.b6 (o := x) (dn_get x3)
            have hb := kd_lt key x
            have e1 : w64 (kd key x) &&& 15#64 = w64 (kd key x &&& 15) := w64_and (kd key x) 15 (by omega) (by omega)
            simp (maxSteps := 10000000) (disch := omega) only [go_sem, q0, q1, q6, q7, q34, q35, hlt', hix, Nat.zero_add, L, e1]
            refine store_u64 R.b6 (Nat.le_refl _) (by rw [dn_length, mL1_length]; omega) ?_
            intro H4 s1 s2 s3
            rw [dn_set, x4] at s3
            simp (maxSteps := 10000000) (disch := omega) only [go_sem, q35, wrap_i64]
            exact ⟨m - 1, by omega, i + 1, by omega, by simp (maxSteps := 10000000) (disch := omega) only [go_sem, q34], by simp (maxSteps := 10000000) (disch := omega) only [go_sem]; push_cast; rfl, (R.set6 s2 s3).act (by simp (maxSteps := 10000000) (disch := omega) only [go_sem]) (by simp (maxSteps := 10000000) (disch := omega) only [go_sem]) (by simp (maxSteps := 10000000) (disch := omega) only [go_sem]) (by simp (maxSteps := 10000000) (disch := omega) only [go_sem])⟩
          · have hlt' := eq_false (show ¬ (i : Int) < 4 by omega)
            have hii : i = 4 := by omega
            subst hii
            simp (maxSteps := 10000000) (disch := omega) only [go_sem, q0, q1, q6, q7, q34, q35, hlt', build_85]
            refine wp_loop (rtM2 kv bv key H) ?_ 3 ?_
            · rintro m a H3 ⟨i, hi4, q44, q45, R⟩
              have q0 := R.a0
              have q1 := R.a1
              have q6 := R.a6
              have q7 := R.a7
              have hlt2 := R.lt
              simp (maxSteps := 10000000) (disch := omega) only [go_sem, q0, q1, q6, q7, q44, q45]
              by_cases hlt : i < 3
              · have hlt' := eq_true (show (i : Int) < 3 by omega)
                obtain ⟨x, x1, x2, x3, x4⟩ := mL2_step key hlt
                have hix := ix_85 hlt x2
                have L := load_u64 R.b6 (o := x) (dn_get x3)
                have hb := kd_lt key x
                have e1 : w64 (kd key x) &&& 252#64 = w64 (kd key x &&& 252) := w64_and (kd key x) 252 (by omega) (by omega)
                simp (maxSteps := 10000000) (disch := omega) only [go_sem, q0, q1, q6, q7, q44, q45, hlt', hix, Nat.zero_add, L, e1]
                refine store_u64 R.b6 (Nat.le_refl _) (by rw [dn_length, mL2_length]; omega) ?_
                intro H4 s1 s2 s3
                rw [dn_set, x4] at s3
                simp (maxSteps := 10000000) (disch := omega) only [go_sem, q45, wrap_i64]
                exact ⟨m - 1, by omega, i + 1, by omega, by simp (maxSteps := 10000000) (disch := omega) only [go_sem, q44], by simp (maxSteps := 10000000) (disch := omega) only [go_sem]; push_cast; rfl, (R.set6 s2 s3).act (by simp (maxSteps := 10000000) (disch := omega) only [go_sem]) (by simp (maxSteps := 10000000) (disch := omega) only [go_sem]) (by simp (maxSteps := 10000000) (disch := omega) only [go_sem]) (by simp (maxSteps := 10000000) (disch := omega) only [go_sem])⟩
              · have hlt' := eq_false (show ¬ (i : Int) < 3 by omega)
                have hii : i = 3 := by omega
                subst hii
                rw [mL2_end] at R
                simp (maxSteps := 10000000) (disch := omega) only [go_sem, q0, q1, q6, q7, q44, q45, hlt']
                refine wp_loop (rtMain kv bv key bs H) ?_ bs.length ?_
                · rintro m a H3 ⟨j, W, hm, hj, q13, hW1, hW2, R⟩
                  have q0 := R.a0
                  have q1 := R.a1
                  have q6 := R.a6
                  have q7 := R.a7
                  have hlt2 := R.lt
                  have hb3 := hb.keep_old2 R.old
                  simp (maxSteps := 10000000) (disch := omega) only [go_sem, q0, q1, q6, q7, q13, hb3.len]
                  by_cases hlt : 16 * j < bs.length
                  · have hlt' := eq_true (show ((16 * j : Nat) : Int) < (bs.length : Nat) by omega)
                    have hmin : (if ((bs.length : Nat) : Int) < ((16 * j : Nat) : Int) + 16 then ((bs.length : Nat) : Int) else ((16 * j : Nat) : Int) + 16) = ((min (16 * j + 16) bs.length : Nat) : Int) := by split <;> omega
                    obtain ⟨pv, e1, e2, _⟩ := hb.mid (j := ((16 * j : Nat) : Int)) (k := ((min (16 * j + 16) bs.length : Nat) : Int)) (by omega) (by omega) (by omega)
                    have hpart : ((bs.take ((min (16 * j + 16) bs.length : Nat) : Int).toNat).drop ((16 * j : Nat) : Int).toNat) = pchunk bs j := by
                      rw [Int.toNat_natCast, Int.toNat_natCast, List.drop_take, pchunk]
                      by_cases hle : 16 * j + 16 ≤ bs.length
                      · rw [Nat.min_eq_left hle, Nat.add_sub_cancel_left]
                      · rw [Nat.min_eq_right (by omega), List.take_of_length_le (by simp), List.take_of_length_le (by simp; omega)]
                    rw [hpart] at e2
                    simp (maxSteps := 10000000) (disch := omega) only [go_sem, q0, q1, q6, q7, q13, hlt', hb3.len, wrap_i64, hmin, e1, (e2.keep_old2 R.old).len]
                    have hpl : (pchunk bs j).length ≤ 16 := by simp [pchunk]; omega
                    obtain ⟨ps, hps⟩ : ∃ ps, ps = pchunk bs j := ⟨_, rfl⟩
                    rw [← hps] at e2 hpl
                    rw [← hps]
                    refine wp_loop (rtAdd kv bv pv key ps W j H) ?_ ps.length ?_
                    · rintro m2 a H4 ⟨k, hs, hk2, q13, q14, q68, q69, q70, hsl, hsv, hsd, R⟩
                      have q0 := R.a0
                      have q1 := R.a1
                      have q6 := R.a6
                      have q7 := R.a7
                      have hlt2 := R.lt
                      simp (maxSteps := 10000000) (disch := omega) only [go_sem, q0, q1, q6, q7, q13, q14, q68, q69, q70]
                      by_cases hlt : k < ps.length
                      · have hlt' := eq_true (show ((k : Nat) : Int) < (ps.length : Nat) by omega)
                        have hp4 := e2.keep_old2 R.old
                        obtain ⟨ad, f1, f2⟩ := hp4.index (k := (k : Int)) (by omega) (by omega)
                        simp only [Int.toNat_natCast] at f2
                        have L := load_u64 R.b7 (o := k) (dn_get (List.getElem?_eq_getElem (show k < hs.length by omega)))
                        have hd := hsd hs[k] (List.getElem_mem _)
                        have hx := ps[k].isLt
                        simp (maxSteps := 10000000) (disch := omega) only [go_sem, q0, q1, q6, q7, q13, q14, q68, q69, q70, hlt', f1, f2, Nat.zero_add, L, w64_byte, w64_add]
                        refine store_u64 R.b7 (by omega) (by rw [dn_length]; omega) ?_
                        intro H5 s1 s2 s3
                        rw [dn_set] at s3
                        simp (maxSteps := 10000000) (disch := omega) only [go_sem, q70, wrap_i64]
                        refine ⟨m2 - 1, by omega, k + 1, _, by omega, by simp (maxSteps := 10000000) (disch := omega) only [go_sem, q13], by simp (maxSteps := 10000000) (disch := omega) only [go_sem, q14], by simp (maxSteps := 10000000) (disch := omega) only [go_sem, q68], by simp (maxSteps := 10000000) (disch := omega) only [go_sem, q69], by simp (maxSteps := 10000000) (disch := omega) only [go_sem]; push_cast; rfl, by rw [List.length_set]; exact hsl, ?_, ?_, (R.set7 s2 s3).act (by simp (maxSteps := 10000000) (disch := omega) only [go_sem]) (by simp (maxSteps := 10000000) (disch := omega) only [go_sem]) (by simp (maxSteps := 10000000) (disch := omega) only [go_sem]) (by simp (maxSteps := 10000000) (disch := omega) only [go_sem])⟩
                        · rw [val_add _ _ _ _ (by omega), hsv, leN_take_succ _ _ hlt]; omega
                        · exact set_le hsd (by omega) (by omega)
                      · have hlt' := eq_false (show ¬ ((k : Nat) : Int) < (ps.length : Nat) by omega)
                        have hkk : k = ps.length := by omega
                        subst hkk
                        rw [List.take_length] at hsv
                        have hp4 := e2.keep_old2 R.old
                        have L := load_u64 R.b7 (o := ps.length) (dn_get (List.getElem?_eq_getElem (show ps.length < hs.length by omega)))
                        have hd := hsd hs[ps.length] (List.getElem_mem _)
                        have e1 : (1#64 : BitVec 64) = w64 1 := rfl
                        obtain ⟨us, hus⟩ : ∃ us, us = hs.set ps.length (hs[ps.length] + 1) := ⟨_, rfl⟩
                        have hul : us.length = 17 := by rw [hus, List.length_set, hsl]
                        have huv : val 256 us = W + leN (pchunk bs j ++ [1#8]) := by
                          rw [hus, val_add _ _ _ _ (by omega), hsv, ← hps, leN_append, leN_one]
                          have : (1#8 : BitVec 8).toNat = 1 := rfl
                          rw [this]; omega
                        have hud : ∀ d ∈ us, d ≤ 2 ^ 54 := by
                          rw [hus]
                          exact set_le hsd (by omega) (by omega)
                        have hpc := piece_lt bs j
                        have hub : val 256 us < 2 ^ 180 := by omega
                        have hcb := car_lt (V := val 256 us) (by omega)
                        simp (maxSteps := 10000000) (disch := omega) only [go_sem, q0, q1, q6, q7, q13, q14, q68, q69, q70, hlt', hp4.len, Nat.zero_add, L, e1, w64_add]
                        refine store_u64 R.b7 (by omega) (by rw [dn_length]; omega) ?_
                        intro H5 s1 s2 s3
                        rw [dn_set, ← hus] at s3
                        have R5 := R.set7 s2 s3
                        have L5 := load_aw (t := 120) R5.b7 (by rw [dn_length, hul]; exact kind_120)
                        simp (maxSteps := 10000000) (disch := omega) only [go_sem]
                        refine draw_of 4 (by kernel_rfl) ?_
                        simp (maxSteps := 10000000) (disch := omega) only [go_sem, q6, q7, L5]
                        refine (carry_fun hul hud hub _).call (Nat.le_refl _) ?_
                        rintro _ H6 g1 g2 rfl
                        have R6 := R5.keep g2
                        have L6 := load_aw (t := 120) R6.b6 (by rw [dn_length, rL_length]; exact kind_120)
                        simp (maxSteps := 10000000) (disch := omega) only [go_sem, q6, q7, L6]
                        refine (times_fun (digs_length _) (rL_length key) (digs_lt _) (rL_le key) _).call (Nat.le_refl _) ?_
                        rintro _ H7 g3 g4 ⟨W', hW3, hW4, rfl⟩
                        have R7 := R6.keep g4
                        simp (maxSteps := 10000000) (disch := omega) only [go_sem, q6, q7]
                        refine store_aw R7.b7 (by rw [dn_length, digs_length]; exact sz_120) (by simp [dn_length, digs_length, hul]) (by omega) ?_
                        intro H8 s4 s5 s6
                        have R8 := R7.set7 s5 s6
                        simp (maxSteps := 10000000) (disch := omega) only [go_sem, q13, wrap_i64]
                        refine ⟨bs.length - 16 * (j + 1), by omega, j + 1, W', rfl, fun _ => by simpa using (show 16 * j < bs.length by omega), by simp (maxSteps := 10000000) (disch := omega) only [go_sem]; rw [show ((16 * (j + 1) : Nat) : Int) = ((16 * j : Nat) : Int) + 16 by omega], hW3, ?_, R8.act (by simp (maxSteps := 10000000) (disch := omega) only [go_sem]) (by simp (maxSteps := 10000000) (disch := omega) only [go_sem]) (by simp (maxSteps := 10000000) (disch := omega) only [go_sem]) (by simp (maxSteps := 10000000) (disch := omega) only [go_sem])⟩
                        rw [hW4, val_rL, val_digs, Nat.mod_eq_of_lt hcb, Nat.mul_mod, car_mod, huv, polyH, ← hW2, Nat.mul_mod (W % PP + leN (pchunk bs j ++ [1#8])), Nat.mod_add_mod]
                    · exact ⟨0, digs W, by omega, by simp (maxSteps := 10000000) (disch := omega) only [go_sem, q13], by simp (maxSteps := 10000000) (disch := omega) only [go_sem], by simp (maxSteps := 10000000) (disch := omega) only [go_sem], by simp (maxSteps := 10000000) (disch := omega) only [go_sem], by simp (maxSteps := 10000000) (disch := omega) only [go_sem], digs_length W, by rw [val_digs, Nat.mod_eq_of_lt hW1]; rfl, fun d hd => by have := digs_lt W d hd; omega, R.act (by simp (maxSteps := 10000000) (disch := omega) only [go_sem]) (by simp (maxSteps := 10000000) (disch := omega) only [go_sem]) (by simp (maxSteps := 10000000) (disch := omega) only [go_sem]) (by simp (maxSteps := 10000000) (disch := omega) only [go_sem])⟩
                  · have hlt' := eq_false (show ¬ ((16 * j : Nat) : Int) < (bs.length : Nat) by omega)
                    have hjn : j = (bs.length + 15) / 16 := by
                      by_cases h0 : j = 0
                      · subst h0; omega
                      · have := hj h0; omega
                    obtain ⟨V, hV⟩ : ∃ V, V = polyH (polyR key) bs j := ⟨_, rfl⟩
                    have hVP : V < PP := by rw [hV]; exact polyH_lt _ _ _
                    have hVv : val 256 (digs W) = W := by rw [val_digs, Nat.mod_eq_of_lt hW1]
                    have L := load_aw (t := 120) R.b7 (by rw [dn_length, digs_length]; exact kind_120)
                    simp (maxSteps := 10000000) (disch := omega) only [go_sem, q0, q1, q6, q7, q13, hlt', L]
                    refine (whole_fun (digs_length W) (fun d hd => by have := digs_lt W d hd; omega) (by rw [hVv]; omega) _).call (by omega) ?_
                    rintro _ H4 g1 g2 rfl
                    rw [hVv, hW2, ← hV]
                    have R4 := R.keep g2
                    simp (maxSteps := 10000000) (disch := omega) only [go_sem, q7]
                    refine store_aw R4.b7 (by rw [dn_length, digs_length]; exact sz_120) (by simp [dn_length, digs_length]) (by omega) ?_
                    intro H5 s1 s2 s3
                    have R5 := R4.set7 s2 s3
                    simp (maxSteps := 10000000) (disch := omega) only [go_sem]
                    refine wp_loop (rtEnd kv bv key V H) ?_ 16 ?_
                    · rintro m a H6 ⟨k, hk16, q17, q18, q95, R⟩
                      have q0 := R.a0
                      have q1 := R.a1
                      have q6 := R.a6
                      have q7 := R.a7
                      have hlt2 := R.lt
                      obtain ⟨ss, hss⟩ : ∃ ss, ss = (key.drop 16).take 16 := ⟨_, rfl⟩
                      have hsl : ss.length = 16 := by rw [hss]; simp; omega
                      rw [← hss] at q17
                      simp (maxSteps := 10000000) (disch := omega) only [go_sem, q0, q1, q6, q7, q17, q95]
                      by_cases hlt : k < 16
                      · have hlt' := eq_true (show ((k : Nat) : Int) < 16 by omega)
                        obtain ⟨ad, f1, f2⟩ := (hk.keep_old2 R.old).index (k := 16 + (k : Int)) (by omega) (by omega)
                        have e3 : key[(16 + ((k : Nat) : Int)).toNat]'(by omega) = ss[k] := by
                          have e : (16 + ((k : Nat) : Int)).toNat = 16 + k := by omega
                          simp only [hss, e, List.getElem_take, List.getElem_drop]
                        rw [e3] at f2
                        have hdl : k < (digs V).length := by rw [digs_length]; omega
                        have L := load_u64 R.b7 (o := k) (dn_get (List.getElem?_eq_getElem hdl))
                        have hc := endC_le V ss k
                        have hd := digs_lt V (digs V)[k] (List.getElem_mem _)
                        have hx := ss[k].isLt
                        have e8 := w64_shr8 (endC V ss k + ((digs V)[k] + ss[k].toNat)) (by omega)
                        simp (maxSteps := 10000000) (disch := omega) only [go_sem, q0, q1, q6, q7, q17, q95, hlt']
                        refine draw_of 12 (by kernel_rfl) ?_
                        simp (maxSteps := 10000000) (disch := omega) only [go_sem, q0, q1, q6, q7, q17, q95, wrap_i64, f1, f2, Nat.zero_add, L, w64_byte, w64_add, w64_low]
                        refine append_byte q18 (by omega) (by omega) (by rw [leB_length]; omega) ?_
                        intro w' H7 c1 c2 c3 c4
                        simp (maxSteps := 10000000) (disch := omega) only [go_sem, q95, e8, wrap_i64]
                        refine ⟨m - 1, by omega, k + 1, by omega, by simp (maxSteps := 10000000) (disch := omega) only [go_sem]; rw [← hss, endC_succ (by omega) (by omega)], ?_, by simp (maxSteps := 10000000) (disch := omega) only [go_sem]; push_cast; rfl, ?_⟩
                        · simp (maxSteps := 10000000) (disch := omega) only [go_sem]
                          have hb8 := endC_byte (V := V) (by unfold PP at hVP; omega) (k := k) (ss := ss) (by omega) (by omega)
                          have ep : polyS key = leN ss := by rw [polyS, ← hss]
                          rw [ep] at c4
                          rw [leB_succ, ep, ← hb8]
                          exact c4
                        · refine RT.act ⟨q0, q1, q6, q7, ?_, ?_, ?_⟩ (by simp (maxSteps := 10000000) (disch := omega) only [go_sem]) (by simp (maxSteps := 10000000) (disch := omega) only [go_sem]) (by simp (maxSteps := 10000000) (disch := omega) only [go_sem]) (by simp (maxSteps := 10000000) (disch := omega) only [go_sem])
                          · rw [c3 _ (by omega) (fun e => by have := (q18.in e).1; omega)]; exact R.b6
                          · rw [c3 _ (by omega) (fun e => by have := (q18.in e).1; omega)]; exact R.b7
                          · intro k2 hk2
                            rw [c3 _ (by omega) (fun e => by have := (q18.in e).1; omega)]; exact R.old k2 hk2
                      · have hlt' := eq_false (show ¬ ((k : Nat) : Int) < 16 by omega)
                        have hkk : k = 16 := by omega
                        subst hkk
                        simp (maxSteps := 10000000) (disch := omega) only [go_sem, q0, q1, q6, q7, q17, q95, hlt']
                        refine ⟨fun _ => ⟨a 18, rfl, ?_⟩, fun hh => absurd h hh⟩
                        rw [polyTag, ← hjn, ← hV]
                        exact Ow.le (Nat.le_add_right _ _) q18
                    · exact ⟨0, by omega, by simp (maxSteps := 10000000) (disch := omega) only [go_sem]; rw [endC_zero]; rfl, by simp (maxSteps := 10000000) (disch := omega) only [go_sem]; exact OV.nil _ _, by simp (maxSteps := 10000000) (disch := omega) only [go_sem], R5.act (by simp (maxSteps := 10000000) (disch := omega) only [go_sem]) (by simp (maxSteps := 10000000) (disch := omega) only [go_sem]) (by simp (maxSteps := 10000000) (disch := omega) only [go_sem]) (by simp (maxSteps := 10000000) (disch := omega) only [go_sem])⟩
                · exact ⟨0, 0, by omega, fun h => absurd rfl h, by simp (maxSteps := 10000000) (disch := omega) only [go_sem]; rfl, by omega, rfl, R.act (by simp (maxSteps := 10000000) (disch := omega) only [go_sem]) (by simp (maxSteps := 10000000) (disch := omega) only [go_sem]) (by simp (maxSteps := 10000000) (disch := omega) only [go_sem]) (by simp (maxSteps := 10000000) (disch := omega) only [go_sem])⟩
            · exact ⟨0, by omega, by simp (maxSteps := 10000000) (disch := omega) only [go_sem], by simp (maxSteps := 10000000) (disch := omega) only [go_sem], R.act (by simp (maxSteps := 10000000) (disch := omega) only [go_sem]) (by simp (maxSteps := 10000000) (disch := omega) only [go_sem]) (by simp (maxSteps := 10000000) (disch := omega) only [go_sem]) (by simp (maxSteps := 10000000) (disch := omega) only [go_sem])⟩
        · exact ⟨0, by omega, by simp (maxSteps := 10000000) (disch := omega) only [go_sem], by simp (maxSteps := 10000000) (disch := omega) only [go_sem], R.act (by simp (maxSteps := 10000000) (disch := omega) only [go_sem]) (by simp (maxSteps := 10000000) (disch := omega) only [go_sem]) (by simp (maxSteps := 10000000) (disch := omega) only [go_sem]) (by simp (maxSteps := 10000000) (disch := omega) only [go_sem])⟩
    · exact ⟨0, by omega, by simp (maxSteps := 10000000) (disch := omega) only [go_sem], R1 _ (by simp (maxSteps := 10000000) (disch := omega) only [go_sem]) (by simp (maxSteps := 10000000) (disch := omega) only [go_sem]) (by simp (maxSteps := 10000000) (disch := omega) only [go_sem]) (by simp (maxSteps := 10000000) (disch := omega) only [go_sem])⟩
  · have h' := eq_false (show ¬ ((key.length : Nat) : Int) = 32 by omega)
    simp (maxSteps := 10000000) (disch := omega) only [go_sem, h']
    exact ⟨fun hh => absurd hh h, fun _ => rfl⟩

end Go.Proofs.Ytcapjjmikapmfaa.M
