/- Poly1305: words with a carry, and numbers of three words. -/
import Derived.Laws.Externs
import Derived.Test.YtcapjjmikapmfaaXq
import Derived.Test.YtcapjjmikapmfaaPb
import Derived.Test.YtcapjjmikapmfaaMw
import Derived.Test.YtcapjjmikapmfaaSl
set_option linter.unusedVariables false
set_option linter.unusedSimpArgs false
namespace Go.Proofs.Ytcapjjmikapmfaa.M
open Go Go.Proofs

def w64 (n : Nat) : BitVec 64 := BitVec.ofNat 64 n
theorem w64_toNat (n : Nat) (h : n < 2 ^ 64) : (w64 n).toNat = n := by unfold w64; rw [BitVec.toNat_ofNat, Nat.mod_eq_of_lt h]

theorem extern127 (x y c : BitVec 64) (hc : c.toNat ≤ 1) : ExternOk Try.prog 127 [u64 x, u64 y, u64 c] (.tuple #[u64 (w64 (x.toNat + y.toNat + c.toNat)), u64 (w64 ((x.toNat + y.toNat + c.toNat) / 2 ^ 64))]) := by
  have hx := x.isLt
  have hy := y.isLt
  refine ⟨rfl, rfl, fun w => ?_⟩
  have e1 : (u64 (w64 (x.toNat + y.toNat + c.toNat))) = .int .u64 (((x.toNat : Int) + (y.toNat : Int) + (c.toNat : Int)) % 18446744073709551616) := by
    unfold u64 w64
    rw [BitVec.toNat_ofNat]
    congr 1
  have e2 : (u64 (w64 ((x.toNat + y.toNat + c.toNat) / 2 ^ 64))) = .int .u64 (((x.toNat : Int) + (y.toNat : Int) + (c.toNat : Int)) / 18446744073709551616) := by
    unfold u64 w64
    rw [BitVec.toNat_ofNat, Nat.mod_eq_of_lt (by omega)]
    congr 1
  rw [e1, e2]
  have := run_callFunc_extern (P := Try.prog) (f := 127) (fn := Try.f127) (e := add64Entry) Try.func127 (by kernel_rfl) (by kernel_rfl) (by kernel_rfl) (by kernel_rfl) #[u64 x, u64 y, u64 c] w
  have h2 := run_add64 (P := Try.prog) (x.toNat : Int) (y.toNat : Int) (c.toNat : Int) (by omega) (by omega) (by omega) (by omega) w
  show (callFunc 127 #[u64 x, u64 y, u64 c]).run Try.prog w = _
  rw [this]
  unfold u64 at *
  rw [h2]
  rfl
theorem add64_call {N : Nat} (x y c : BitVec 64) (hc : c.toNat ≤ 1) {H : Heap} {K : Value → Heap → Prop} (hK : ∀ s d : BitVec 64, s.toNat + 2 ^ 64 * d.toNat = x.toNat + y.toNat + c.toNat → d.toNat ≤ 1 → K (.tuple #[u64 s, u64 d]) H) : callK Try.prog N (.func 127) [u64 x, u64 y, u64 c] H K := by
  have hx := x.isLt
  have hy := y.isLt
  refine ⟨_, H, Call.fold (.inr ⟨extern127 x y c hc, rfl⟩), hK _ _ ?_ ?_⟩
  · unfold w64; rw [BitVec.toNat_ofNat, BitVec.toNat_ofNat]; omega
  · unfold w64; rw [BitVec.toNat_ofNat]; omega

theorem mul64 (a b c d p q r s : Nat) (ha : a < 4294967296) (hb : b < 4294967296) (hc : c < 4294967296) (hd : d < 4294967296) (hp : p = a * c) (hq : q = b * c) (hr : r = a * d) (hs : s = b * d) :
    p ≤ 4294967295 * 4294967295 ∧ q ≤ 4294967295 * 4294967295 ∧ r ≤ 4294967295 * 4294967295 ∧ s ≤ 4294967295 * 4294967295 ∧ (a + 4294967296 * b) * (c + 4294967296 * d) = p + 4294967296 * (q + r) + 18446744073709551616 * s := by
  subst hp hq hr hs
  refine ⟨Nat.mul_le_mul (by omega) (by omega), Nat.mul_le_mul (by omega) (by omega), Nat.mul_le_mul (by omega) (by omega), Nat.mul_le_mul (by omega) (by omega), ?_⟩
  have e : (18446744073709551616 : Nat) = 4294967296 * 4294967296 := by decide
  rw [e]
  generalize (4294967296 : Nat) = z
  rw [Nat.add_mul, Nat.mul_add, Nat.mul_add, Nat.mul_add, Nat.add_assoc, Nat.add_assoc]
  congr 1
  rw [Nat.mul_assoc z b c, Nat.mul_left_comm a z d, Nat.mul_assoc z b, Nat.mul_left_comm b z d, ← Nat.mul_assoc z z]
  omega

set_option maxRecDepth 20000 in
theorem mul64_fun (x y : BitVec 64) (H : Heap) : Fun Try.prog 128 [u64 x, u64 y] H (fun r H' => H' = H ∧ ∃ hi lo : BitVec 64, r = .tuple #[u64 hi, u64 lo] ∧ 2 ^ 64 * hi.toNat + lo.toNat = x.toNat * y.toNat) := by
  refine fun_of Try.func128 rfl (by decide +kernel) (Nat.le_of_ble_eq_true rfl) ?_
  unfold Try.f128
  simp (maxSteps := 10000000) (disch := omega) only [go_sem]
  refine ⟨_, _, rfl, ?_⟩
  have hx := x.isLt
  have hy := y.isLt
  have hm : ∀ z : BitVec 64, (z &&& 4294967295#64).toNat = z.toNat % 4294967296 := fun z => by
    rw [BitVec.toNat_and]
    exact Nat.and_two_pow_sub_one_eq_mod z.toNat 32
  have hs : ∀ z : BitVec 64, (z >>> 32).toNat = z.toNat / 4294967296 := fun z => by
    rw [BitVec.toNat_ushiftRight, Nat.shiftRight_eq_div_pow]
  have e32 : (32#64 : BitVec 64).toNat = 32 := rfl
  simp only [e32, BitVec.toNat_add, BitVec.toNat_mul, hm, hs]
  obtain ⟨a, ha⟩ : ∃ a, a = x.toNat % 4294967296 := ⟨_, rfl⟩
  obtain ⟨b, hb⟩ : ∃ b, b = x.toNat / 4294967296 := ⟨_, rfl⟩
  obtain ⟨c, hc⟩ : ∃ c, c = y.toNat % 4294967296 := ⟨_, rfl⟩
  obtain ⟨d, hd⟩ : ∃ d, d = y.toNat / 4294967296 := ⟨_, rfl⟩
  have ex : x.toNat = a + 4294967296 * b := by omega
  have ey : y.toNat = c + 4294967296 * d := by omega
  obtain ⟨m1, m2, m3, m4, m5⟩ := mul64 a b c d _ _ _ _ (by omega) (by omega) (by omega) (by omega) rfl rfl rfl rfl
  rw [← ha, ← hb, ← hc, ← hd, ex, ey, m5]
  generalize a * c = p at *
  generalize b * c = q at *
  generalize a * d = r at *
  generalize b * d = s at *
  omega

/-! ### Numbers of words -/
theorem wp_unroll {P : Program} {N : Nat} {fn : FuncId} {n : Nat} {top : Bool} {c : Code} {Q : Post} {a : AAct} {H : Heap} (h : wp P N fn n top c (seqK (wp P N fn n top (.loop c) Q) Q) a H) : wp P N fn n top (.loop c) Q a H := by
  obtain ⟨e, a1, H1, h1, h2⟩ := wp_sound c _ a H h
  cases e with
  | normal =>
    obtain ⟨e, a', H', h3, h4⟩ := h2
    exact ⟨e, a', H', .loop h1 h3, h4⟩
  | exit id => exact ⟨_, a1, H1, .loopx h1 (by simp), h2⟩
  | ret => exact ⟨_, a1, H1, .loopx h1 (by simp), h2⟩

theorem box_agg (l : List Value) (H : Heap) (K : Value → Heap → Prop) : boxK (.agg l.toArray) H K = K (.pointer (some ⟨H.size, 0, none⟩)) (H.push (.cells l true false)) := by
  simp [boxK, isU, Value.cells]
def vw (xs : List (BitVec 64)) : Nat := val (2 ^ 64) (xs.map BitVec.toNat)
def aw (xs : List (BitVec 64)) : Value := .agg (xs.map u64).toArray
theorem box_aw (xs : List (BitVec 64)) (H : Heap) (K : Value → Heap → Prop) : boxK (aw xs) H K = K (.pointer (some ⟨H.size, 0, none⟩)) (H.push (.cells (xs.map u64) true false)) := box_agg _ _ _
theorem all_u64 (xs : List (BitVec 64)) : (xs.map u64).all cellOk = true := by simp [List.all_eq_true, cellOk_u64]
theorem rep_u64 (n : Nat) : List.replicate n (u64 0) = (List.replicate n 0#64).map u64 := by simp
theorem load_u64 {H : Heap} {i o : Nat} {ws : List (BitVec 64)} {ex tl : Bool} {x : BitVec 64} (hi : H[i]? = some (.cells (ws.map u64) ex tl)) (hx : ws[o]? = some x) : ∀ K, loadK Try.prog 51 (.pointer (some ⟨i, o, none⟩)) H K = K (u64 x) H :=
  load_cell hi kind_51 (by simp [hx])
theorem store_u64 {N : Nat} {H : Heap} {i o : Nat} {ws : List (BitVec 64)} {tl : Bool} {x : BitVec 64} (hi : H[i]? = some (.cells (ws.map u64) true tl)) (hN : N ≤ i) (ho : o < ws.length) {K : Value → Heap → Prop}
    (hK : ∀ H', H'.size = H.size → (∀ j, j ≠ i → H'[j]? = H[j]?) → H'[i]? = some (.cells ((ws.set o x).map u64) true tl) → K undef H') : storeK Try.prog N 51 (.pointer (some ⟨i, o, none⟩)) (u64 x) H K :=
  store_cell hi sz_51 rfl hN (by simpa using ho) fun H' h1 h2 h3 => hK H' h1 h2 (by rw [List.map_set]; exact h3)
theorem load_aw {t : TypeId} {H : Heap} {i : Nat} {ws : List (BitVec 64)} {ex tl : Bool} (hi : H[i]? = some (.cells (ws.map u64) ex tl)) (hk : kindOf Try.prog t = some (some ws.length)) : ∀ K, loadK Try.prog t (.pointer (some ⟨i, 0, none⟩)) H K = K (aw ws) H := by
  intro K
  rw [load_row hi hk (by simp)]
  unfold aw
  rw [List.drop_zero, List.take_of_length_le (by simp)]
theorem cell_aw {t : TypeId} {H : Heap} {i : Nat} {ws : List (BitVec 64)} {ex tl : Bool} (hi : H[i]? = some (.cells (ws.map u64) ex tl)) (hk : kindOf Try.prog t = some (some ws.length)) : cellV Try.prog t (.pointer (some ⟨i, 0, none⟩)) H = some (aw ws) := cell_all hi hk (by simp)
theorem store_aw {N : Nat} {t : TypeId} {H : Heap} {i : Nat} {vs : List Value} {ws : List (BitVec 64)} {tl : Bool} (hi : H[i]? = some (.cells vs true tl)) (hz : szOf Try.prog t = some ws.length) (hv : vs.length = ws.length) (hN : N ≤ i) {K : Value → Heap → Prop}
    (hK : ∀ H', H'.size = H.size → (∀ j, j ≠ i → H'[j]? = H[j]?) → H'[i]? = some (.cells (ws.map u64) true tl) → K undef H') : storeK Try.prog N t (.pointer (some ⟨i, 0, none⟩)) (aw ws) H K :=
  store_row hi hz (by simp) hv (all_u64 _) hN hK
@[go_sem] theorem ia_114 {b o : Nat} {k : Int} (h0 : 0 ≤ k) (h1 : k < 3) : indexAddrA Try.prog 114 (.pointer (some ⟨b, o, none⟩)) (.int .i64 k) = some (.pointer (some ⟨b, o + k.toNat, none⟩)) := ia_arr Try.underlying114 sz_51 h0 h1
@[go_sem] theorem ia_116 {b o : Nat} {k : Int} (h0 : 0 ≤ k) (h1 : k < 4) : indexAddrA Try.prog 116 (.pointer (some ⟨b, o, none⟩)) (.int .i64 k) = some (.pointer (some ⟨b, o + k.toNat, none⟩)) := ia_arr Try.underlying116 sz_51 h0 h1
@[go_sem] theorem ia_112 {b o : Nat} {k : Int} (h0 : 0 ≤ k) (h1 : k < 2) : indexAddrA Try.prog 112 (.pointer (some ⟨b, o, none⟩)) (.int .i64 k) = some (.pointer (some ⟨b, o + k.toNat, none⟩)) := ia_arr Try.underlying112 sz_51 h0 h1
@[go_sem] theorem ia_120 {b o : Nat} {k : Int} (h0 : 0 ≤ k) (h1 : k < 17) : indexAddrA Try.prog 120 (.pointer (some ⟨b, o, none⟩)) (.int .i64 k) = some (.pointer (some ⟨b, o + k.toNat, none⟩)) := ia_arr Try.underlying120 sz_51 h0 h1
theorem ix_aw {t : TypeId} {len : Nat} (ht : Try.prog.underlying t = some (.array len 51)) {ws : List (BitVec 64)} {k : Nat} {x : BitVec 64} (h1 : k < len) (hx : ws[k]? = some x) : indexA Try.prog t (aw ws) (.int .i64 (k : Nat)) = some (u64 x) :=
  ix_arr ht sz_51 kind_51 (by omega) (by omega) (by simp [hx])

theorem vw_take_succ (xs : List (BitVec 64)) (k : Nat) (h : k < xs.length) : vw (xs.take (k + 1)) = vw (xs.take k) + xs[k].toNat * (2 ^ 64) ^ k := by
  unfold vw
  rw [List.map_take, val_take_succ _ _ _ (by simpa using h), List.map_take]
  simp
theorem vw_set (xs : List (BitVec 64)) (k : Nat) (x : BitVec 64) (h : k < xs.length) : vw (xs.set k x) + xs[k].toNat * (2 ^ 64) ^ k = vw xs + x.toNat * (2 ^ 64) ^ k := by
  unfold vw
  have := val_set (2 ^ 64) (xs.map BitVec.toNat) k x.toNat (by simpa using h)
  rw [List.map_set]
  simpa using this
theorem vw_lt (xs : List (BitVec 64)) : vw xs < (2 ^ 64) ^ xs.length := by
  have := val_lt (b := 2 ^ 64) (by omega) (xs.map BitVec.toNat) (fun d hd => by
    obtain ⟨x, _, rfl⟩ := List.mem_map.1 hd
    exact x.isLt)
  rwa [List.length_map] at this
theorem vw_nil : vw [] = 0 := rfl

structure A3 (xs ys : List (BitVec 64)) (H0 : Heap) (i2 i3 i4 : Nat) (k : Nat) (c : BitVec 64) (a : AAct) (H : Heap) (zs : List (BitVec 64)) : Prop where
  a2 : a 2 = .pointer (some ⟨i2, 0, none⟩)
  a3 : a 3 = .pointer (some ⟨i3, 0, none⟩)
  a4 : a 4 = .pointer (some ⟨i4, 0, none⟩)
  a5 : a 5 = u64 c
  b2 : H[i2]? = some (.cells (zs.map u64) true false)
  b3 : H[i3]? = some (.cells (ys.map u64) true false)
  b4 : ∃ us : List Value, us.length = 3 ∧ H[i4]? = some (.cells us true false)
  len : zs.length = 3
  rest : zs.drop k = xs.drop k
  sum : vw (zs.take k) + (2 ^ 64) ^ k * c.toNat = vw (xs.take k) + vw (ys.take k)
  carry : c.toNat ≤ 1
  size : H0.size ≤ H.size
def addInv3 (xs ys : List (BitVec 64)) (H0 : Heap) (i2 i3 i4 : Nat) (m : Nat) (a : AAct) (H : Heap) : Prop :=
  ∃ (k : Nat) (c : BitVec 64) (zs : List (BitVec 64)), k + m = 3 ∧ a 7 = .int .i64 (k : Nat) ∧ A3 xs ys H0 i2 i3 i4 k c a H zs

set_option maxRecDepth 20000 in
set_option maxHeartbeats 1000000 in
theorem add_fun3 {xs ys : List (BitVec 64)} (hx : xs.length = 3) (hy : ys.length = 3) (H : Heap) : Fun Try.prog 111 [aw xs, aw ys] H (fun r H' => ∃ zs, zs.length = 3 ∧ r = aw zs ∧ vw zs = (vw xs + vw ys) % 2 ^ 192) := by
  refine fun_of Try.func111 rfl (by decide +kernel) (Nat.le_of_ble_eq_true rfl) ?_
  unfold Try.f111
  simp (maxSteps := 10000000) (disch := omega) only [go_sem, box_aw]
  have n1 : (H.push (.cells (xs.map u64) true false)).size = H.size + 1 := by simp
  have n2 : ((H.push (.cells (xs.map u64) true false)).push (.cells (ys.map u64) true false)).size = H.size + 2 := by simp
  rw [n1, n2, rep_u64]
  obtain ⟨H1, hH1⟩ : ∃ H1, H1 = ((H.push (.cells (xs.map u64) true false)).push (.cells (ys.map u64) true false)).push (.cells ((List.replicate 3 0#64).map u64) true false) := ⟨_, rfl⟩
  have z1 : H1.size = H.size + 3 := by rw [hH1]; simp
  have c2 : H1[H.size]? = some (.cells (xs.map u64) true false) := by rw [hH1]; exact keep_push (keep_push get_push_new)
  have c3 : H1[H.size + 1]? = some (.cells (ys.map u64) true false) := by rw [hH1, ← n1]; exact keep_push get_push_new
  have c4 : H1[H.size + 2]? = some (.cells ((List.replicate 3 0#64).map u64) true false) := by rw [hH1, ← n2]; exact get_push_new
  rw [← hH1]
  refine wp_loop (addInv3 xs ys H H.size (H.size + 1) (H.size + 2)) ?_ 3 ?_
  · rintro m a H2 ⟨k, c, zs, hk, h7, R⟩
    obtain ⟨us, u1, u2⟩ := R.b4
    have q2 := R.a2
    have q3 := R.a3
    have q4 := R.a4
    have q5 := R.a5
    have hlen := R.len
    simp (maxSteps := 10000000) (disch := omega) only [go_sem, h7, q2, q3, q4, q5]
    by_cases hlt : k < 3
    · have hlt' := eq_true (show (k : Int) < 3 by omega)
      have ez : zs[k]? = some xs[k] := by
        have := R.rest
        have h1 := congrArg (fun l => l[0]?) this
        simp only [List.getElem?_drop, Nat.add_zero] at h1
        rw [h1, List.getElem?_eq_getElem (by omega)]
      have L1 := load_u64 R.b2 (o := k) ez
      have L2 := load_u64 R.b3 (o := k) (List.getElem?_eq_getElem (show k < ys.length by omega))
      simp (maxSteps := 10000000) (disch := omega) only [go_sem, h7, q2, q3, q4, q5, hlt']
      refine draw_of 9 (by kernel_rfl) ?_
      simp (maxSteps := 10000000) (disch := omega) only [go_sem, h7, q2, q3, q4, q5, Nat.zero_add, L1, L2]
      refine add64_call _ _ _ R.carry ?_
      intro s d e1 e2
      simp (maxSteps := 10000000) (disch := omega) only [go_sem, h7, q2, q3, q4, q5, Nat.zero_add]
      refine store_u64 R.b2 (by omega) (by omega) ?_
      intro H3 s1 s2 s3
      simp (maxSteps := 10000000) (disch := omega) only [go_sem, h7, wrap_i64]
      refine ⟨m - 1, by omega, k + 1, d, _, by omega, by simp (maxSteps := 10000000) (disch := omega) only [go_sem]; push_cast; rfl, by simp (maxSteps := 10000000) (disch := omega) only [go_sem, q2], by simp (maxSteps := 10000000) (disch := omega) only [go_sem, q3], by simp (maxSteps := 10000000) (disch := omega) only [go_sem, q4], by simp (maxSteps := 10000000) (disch := omega) only [go_sem], s3, by rw [s2 _ (by omega)]; exact R.b3, ⟨us, u1, by rw [s2 _ (by omega)]; exact u2⟩, by simp [hlen], ?_, ?_, e2, by have := R.size; omega⟩
      · rw [List.drop_set_of_lt (by omega), ← List.drop_drop, ← List.drop_drop, R.rest]
      · have p1 : (zs.set k s).take (k + 1) = zs.take k ++ [s] := by
          rw [List.take_succ_eq_append_getElem (by simp [hlen]; omega), List.take_set_of_le (Nat.le_refl _)]
          simp
        have p2 : vw (zs.take k ++ [s]) = vw (zs.take k) + (2 ^ 64) ^ k * s.toNat := by
          unfold vw
          rw [List.map_append, val_append]
          rw [List.length_map, List.length_take, Nat.min_eq_left (by omega)]
          simp [val]
        have hs := R.sum
        have pk : (2 ^ 64) ^ (k + 1) = (2 ^ 64) ^ k * 2 ^ 64 := Nat.pow_succ ..
        rw [p1, p2, vw_take_succ _ _ (by omega), vw_take_succ _ _ (by omega), pk]
        have e3 : (2 ^ 64) ^ k * (s.toNat + 2 ^ 64 * d.toNat) = (2 ^ 64) ^ k * (xs[k].toNat + ys[k].toNat + c.toNat) := by rw [e1]
        rw [Nat.mul_add, Nat.mul_add, Nat.mul_add, ← Nat.mul_assoc] at e3
        rw [Nat.mul_comm xs[k].toNat, Nat.mul_comm ys[k].toNat]
        generalize (2 ^ 64) ^ k * 2 ^ 64 * d.toNat = t1 at *
        generalize (2 ^ 64) ^ k * s.toNat = t2 at *
        generalize (2 ^ 64) ^ k * xs[k].toNat = t3 at *
        generalize (2 ^ 64) ^ k * ys[k].toNat = t4 at *
        generalize (2 ^ 64) ^ k * c.toNat = t5 at *
        omega
    · have hlt' := eq_false (show ¬ (k : Int) < 3 by omega)
      have hk3 : k = 3 := by omega
      subst hk3
      have L := load_aw (t := 114) R.b2 (by rw [hlen]; exact kind_114)
      simp (maxSteps := 10000000) (disch := omega) only [go_sem, h7, q2, q3, q4, q5, hlt', L]
      refine store_aw u2 (by rw [hlen]; exact sz_114) (by omega) (by omega) ?_
      intro H3 s1 s2 s3
      simp (maxSteps := 10000000) (disch := omega) only [go_sem, q4, cell_aw s3 (t := 114) (by rw [hlen]; exact kind_114)]
      have hs := R.sum
      rw [List.take_of_length_le (by omega), List.take_of_length_le (by omega), List.take_of_length_le (by omega)] at hs
      have hlt := vw_lt zs
      rw [hlen] at hlt
      refine ⟨zs, hlen, rfl, ?_⟩
      have e : ((2 : Nat) ^ 64) ^ 3 = 2 ^ 192 := by decide
      rw [e] at hs hlt
      rw [← hs, Nat.add_mul_mod_self_left, Nat.mod_eq_of_lt hlt]
  · refine ⟨0, 0#64, xs, by omega, by simp (maxSteps := 10000000) (disch := omega) only [go_sem], by simp (maxSteps := 10000000) (disch := omega) only [go_sem], by simp (maxSteps := 10000000) (disch := omega) only [go_sem], by simp (maxSteps := 10000000) (disch := omega) only [go_sem], by simp (maxSteps := 10000000) (disch := omega) only [go_sem], c2, c3, ⟨_, by simp, c4⟩, hx, rfl, by simp [vw, val], by decide, by omega⟩

end Go.Proofs.Ytcapjjmikapmfaa.M
