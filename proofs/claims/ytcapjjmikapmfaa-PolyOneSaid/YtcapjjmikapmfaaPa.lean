/- Poly1305 in plain numbers. -/
import Derived.Test.YtcapjjmikapmfaaSg
set_option linter.unusedVariables false
set_option linter.unusedSimpArgs false
namespace Go.Proofs.Ytcapjjmikapmfaa.M
open Go

/-! ### Digits -/
def val (b : Nat) : List Nat → Nat
  | [] => 0
  | d :: ds => d + b * val b ds

theorem val_append (b : Nat) : ∀ xs ys : List Nat, val b (xs ++ ys) = val b xs + b ^ xs.length * val b ys
  | [], ys => by simp [val]
  | x :: xs, ys => by
    rw [List.cons_append, val, val, val_append b xs ys, List.length_cons, Nat.mul_add, Nat.pow_succ, ← Nat.mul_assoc, Nat.mul_comm b (b ^ xs.length)]
    omega
theorem val_set (b : Nat) : ∀ (ds : List Nat) (k x : Nat) (h : k < ds.length), val b (ds.set k x) + ds[k] * b ^ k = val b ds + x * b ^ k
  | [], k, x, h => by simp at h
  | d :: ds, 0, x, h => by simp [val]; omega
  | d :: ds, k + 1, x, h => by
    have h' : k < ds.length := by simpa using h
    have ih := val_set b ds k x h'
    have e1 : (d :: ds)[k + 1] = ds[k] := rfl
    rw [List.set_cons_succ, val, val, e1, Nat.pow_succ]
    have e2 : ∀ z : Nat, z * (b ^ k * b) = b * (z * b ^ k) := fun z => by rw [← Nat.mul_assoc, Nat.mul_comm]
    rw [e2, e2, Nat.add_assoc, ← Nat.mul_add, ih, Nat.mul_add]
    omega
theorem val_add (b : Nat) (ds : List Nat) (k x : Nat) (h : k < ds.length) : val b (ds.set k (ds[k] + x)) = val b ds + x * b ^ k := by
  have := val_set b ds k (ds[k] + x) h
  rw [Nat.add_mul] at this
  omega
theorem val_lt {b : Nat} (hb : 0 < b) : ∀ ds : List Nat, (∀ d ∈ ds, d < b) → val b ds < b ^ ds.length
  | [], _ => by simp [val]
  | d :: ds, h => by
    have ih := val_lt hb ds fun x hx => h x (List.mem_cons_of_mem _ hx)
    have hd := h d List.mem_cons_self
    rw [val, List.length_cons, Nat.pow_succ, Nat.mul_comm]
    have : (val b ds + 1) * b ≤ b ^ ds.length * b := Nat.mul_le_mul_right _ ih
    rw [Nat.add_mul, Nat.one_mul, Nat.mul_comm] at this
    rw [Nat.mul_comm]
    omega
theorem val_le' {b m : Nat} (hb : 2 ≤ b) : ∀ ds : List Nat, (∀ d ∈ ds, d ≤ m) → val b ds + m ≤ m * b ^ ds.length
  | [], _ => by simp [val]
  | d :: ds, h => by
    have ih := val_le' hb ds fun x hx => h x (List.mem_cons_of_mem _ hx)
    have hd := h d List.mem_cons_self
    rw [val, List.length_cons, Nat.pow_succ]
    have h2 : b * (val b ds + m) ≤ b * (m * b ^ ds.length) := Nat.mul_le_mul_left _ ih
    have h3 : 2 * m ≤ b * m := Nat.mul_le_mul_right _ hb
    have h4 : b * (m * b ^ ds.length) = m * (b ^ ds.length * b) := by rw [Nat.mul_left_comm, Nat.mul_comm b]
    rw [Nat.mul_add] at h2
    omega
theorem val_le {b m : Nat} (hb : 2 ≤ b) (ds : List Nat) (h : ∀ d ∈ ds, d ≤ m) : val b ds ≤ m * b ^ ds.length := by
  have := val_le' hb ds h
  omega
theorem val_zeros (b n : Nat) : val b (List.replicate n 0) = 0 := by
  induction n with
  | zero => rfl
  | succ n ih => rw [List.replicate_succ, val, ih, Nat.mul_zero]
theorem val_take_succ (b : Nat) (ds : List Nat) (k : Nat) (h : k < ds.length) : val b (ds.take (k + 1)) = val b (ds.take k) + ds[k] * b ^ k := by
  rw [List.take_succ_eq_append_getElem h, val_append, val, val, List.length_take, Nat.min_eq_left (by omega)]
  simp [Nat.mul_comm]
theorem val_split (b : Nat) (ds : List Nat) (k : Nat) (h : k ≤ ds.length) : val b ds = val b (ds.take k) + b ^ k * val b (ds.drop k) := by
  have := val_append b (ds.take k) (ds.drop k)
  rw [List.take_append_drop, List.length_take, Nat.min_eq_left h] at this
  exact this

/-! ### Numbers of bytes -/
def leN (xs : List (BitVec 8)) : Nat := val 256 (xs.map BitVec.toNat)
def leB (n N : Nat) : List (BitVec 8) := (List.range n).map fun i => BitVec.ofNat 8 (N / 256 ^ i)

theorem leN_append (xs ys : List (BitVec 8)) : leN (xs ++ ys) = leN xs + 256 ^ xs.length * leN ys := by
  unfold leN
  rw [List.map_append, val_append, List.length_map]
theorem leN_nil : leN [] = 0 := rfl
theorem leN_one (b : BitVec 8) : leN [b] = b.toNat := by simp [leN, val]
theorem leN_lt (xs : List (BitVec 8)) : leN xs < 256 ^ xs.length := by
  have := val_lt (b := 256) (by omega) (xs.map BitVec.toNat) (fun d hd => by
    obtain ⟨x, _, rfl⟩ := List.mem_map.1 hd
    exact x.isLt)
  rwa [List.length_map] at this
theorem leN_take_succ (xs : List (BitVec 8)) (k : Nat) (h : k < xs.length) : leN (xs.take (k + 1)) = leN (xs.take k) + xs[k].toNat * 256 ^ k := by
  rw [List.take_succ_eq_append_getElem h, leN_append, leN_one, List.length_take, Nat.min_eq_left (by omega), Nat.mul_comm]
theorem leB_length (n N : Nat) : (leB n N).length = n := by simp [leB]
theorem leB_succ (n N : Nat) : leB (n + 1) N = leB n N ++ [BitVec.ofNat 8 (N / 256 ^ n)] := by simp [leB, List.range_succ]
theorem leB_add (m n N : Nat) : leB (m + n) N = leB m N ++ leB n (N / 256 ^ m) := by
  induction n with
  | zero => simp [leB]
  | succ n ih => rw [← Nat.add_assoc, leB_succ, leB_succ, ih, List.append_assoc, Nat.div_div_eq_div_mul, ← Nat.pow_add]
theorem leB_congr {n M N : Nat} (h : M % 256 ^ n = N % 256 ^ n) : leB n M = leB n N := by
  unfold leB
  apply List.map_congr_left
  intro i hi
  rw [List.mem_range] at hi
  apply BitVec.eq_of_toNat_eq
  rw [BitVec.toNat_ofNat, BitVec.toNat_ofNat]
  have e : ∀ X : Nat, X / 256 ^ i % 2 ^ 8 = (X % 256 ^ n) / 256 ^ i % 2 ^ 8 := fun X => by
    have h1 : (256 : Nat) ^ n = 256 ^ i * 256 ^ (n - i) := by rw [← Nat.pow_add]; congr 1; omega
    have h2 : (256 : Nat) ^ (n - i) = 256 * 256 ^ (n - i - 1) := by rw [← Nat.pow_succ']; congr 1; omega
    rw [h1, Nat.mod_mul_right_div_self, h2, Nat.mod_mul_right_mod]
  rw [e M, e N, h]
theorem leB_leN : ∀ xs : List (BitVec 8), leB xs.length (leN xs) = xs
  | [] => rfl
  | x :: xs => by
    have ih := leB_leN xs
    have e1 : leN (x :: xs) = x.toNat + 256 * leN xs := rfl
    rw [List.length_cons, Nat.add_comm, leB_add, e1]
    have e2 : (x.toNat + 256 * leN xs) / 256 ^ 1 = leN xs := by have := x.isLt; omega
    rw [e2, ih]
    have e3 : leB 1 (x.toNat + 256 * leN xs) = [x] := by
      simp only [leB, List.range_succ, List.range_zero, List.map_append, List.map_cons, List.map_nil, List.nil_append, Nat.pow_zero, Nat.div_one]
      congr 1
      apply BitVec.eq_of_toNat_eq
      rw [BitVec.toNat_ofNat]
      have := x.isLt
      omega
    rw [e3]; rfl
theorem lowBytes_leB (x : BitVec 64) : lowBytes x 8 = leB 8 x.toNat := by
  unfold lowBytes leB
  apply List.map_congr_left
  intro i hi
  apply BitVec.eq_of_toNat_eq
  rw [BitVec.toNat_setWidth, BitVec.toNat_ushiftRight, BitVec.toNat_ofNat, Nat.shiftRight_eq_div_pow, Nat.pow_mul]

theorem leN_zeros (n : Nat) : leN (List.replicate n 0#8) = 0 := by
  unfold leN
  rw [List.map_replicate]
  exact val_zeros _ _

/-- What 'word.low' reads. -/
theorem lowAt_toNat (xs : List (BitVec 8)) (i : Nat) : ∀ n : Nat, n ≤ 8 → (lowAt xs (i : Int) n).toNat = leN ((xs.drop i).take n)
  | 0, _ => by simp [lowAt, leN, val]
  | n + 1, h => by
    have ih := lowAt_toNat xs i n (by omega)
    have hb : byteAt xs (i : Int) n = if h : n < (xs.drop i).length then (xs.drop i)[n] else 0#8 := by
      unfold byteAt
      by_cases h : n < (xs.drop i).length
      · rw [dif_pos h]
        have h' : i + n < xs.length := by simp at h; omega
        rw [if_pos ⟨by omega, by omega, by omega⟩]
        have e : ((i : Int) + (n : Int)).toNat = i + n := by omega
        rw [e, List.getD_eq_getElem?_getD, List.getElem?_eq_getElem h']
        simp
      · rw [dif_neg h]
        rw [if_neg]
        simp at h
        omega
    have hlt := leN_lt ((xs.drop i).take n)
    have hle : (256 : Nat) ^ ((xs.drop i).take n).length ≤ 256 ^ n := Nat.pow_le_pow_right (by omega) (by simp; omega)
    have e8 : (2 : Nat) ^ (8 * n) = 256 ^ n := by rw [Nat.pow_mul]
    have hlow : (lowAt xs (i : Int) n).toNat < 2 ^ (8 * n) := by rw [ih, e8]; omega
    have hy : ((byteAt xs (i : Int) n).setWidth 64 <<< (8 * n)).toNat = 2 ^ (8 * n) * (byteAt xs (i : Int) n).toNat := by
      have h1 := (byteAt xs (i : Int) n).isLt
      have h2 : 2 ^ (8 * n) * (byteAt xs (i : Int) n).toNat < 2 ^ (8 * n) * 256 := (Nat.mul_lt_mul_left (Nat.two_pow_pos _)).2 h1
      have h3 : (2 : Nat) ^ (8 * n) * 256 ≤ 2 ^ 64 := by
        have : (2 : Nat) ^ (8 * n) * 256 = 2 ^ (8 * n + 8) := by rw [Nat.pow_add]
        rw [this]
        exact Nat.pow_le_pow_right (by omega) (by omega)
      rw [BitVec.toNat_shiftLeft, BitVec.toNat_setWidth, Nat.shiftLeft_eq, Nat.mod_eq_of_lt (show (byteAt xs (i : Int) n).toNat < 2 ^ 64 by omega), Nat.mul_comm, Nat.mod_eq_of_lt (by omega)]
    rw [lowAt_succ, BitVec.toNat_or, hy, Nat.or_comm, ← Nat.two_pow_add_eq_or_of_lt hlow, ih, hb]
    by_cases h : n < (xs.drop i).length
    · rw [dif_pos h, leN_take_succ _ _ h, Nat.pow_mul, Nat.mul_comm, Nat.add_comm]
    · rw [dif_neg h, List.take_of_length_le (by omega), List.take_of_length_le (by omega)]
      simp

/-! ### Words with a carry -/
theorem shr63 (w : BitVec 64) : (w >>> 63).toNat = w.msb.toNat := by
  rw [BitVec.toNat_ushiftRight, Nat.shiftRight_eq_div_pow, BitVec.msb_eq_decide]
  have := w.isLt
  by_cases h : 2 ^ 63 ≤ w.toNat
  · simp [h]; omega
  · simp [h]; omega
theorem add64 (x y c : BitVec 64) (hc : c.toNat ≤ 1) : (x + y + c).toNat + 2 ^ 64 * (((x &&& y) ||| ((x ||| y) &&& ~~~(x + y + c))) >>> 63).toNat = x.toNat + y.toNat + c.toNat := by
  have hs : (x + y + c).toNat = (x.toNat + y.toNat + c.toNat) % 2 ^ 64 := by
    rw [BitVec.toNat_add, BitVec.toNat_add]; omega
  rw [shr63, BitVec.msb_or, BitVec.msb_and, BitVec.msb_and, BitVec.msb_or, BitVec.msb_not, BitVec.msb_eq_decide, BitVec.msb_eq_decide, BitVec.msb_eq_decide]
  generalize (x + y + c).toNat = s at *
  have hx := x.isLt
  have hy := y.isLt
  by_cases h1 : 2 ^ 63 ≤ x.toNat <;> by_cases h2 : 2 ^ 63 ≤ y.toNat <;> by_cases h3 : 2 ^ 63 ≤ s <;> simp [h1, h2, h3] <;> omega

/-! ### Modulo 2^130 - 5 -/
def PP : Nat := 1361129467683753853853498429727072845819

theorem two130 : (2 : Nat) ^ 130 = PP + 5 := by decide
theorem fold_mod (p : Nat) : (p % 2 ^ 130 + 4 * (p / 2 ^ 130) + p / 2 ^ 130) % PP = p % PP := by
  have h := Nat.div_add_mod p (2 ^ 130)
  rw [two130] at *
  generalize p / (PP + 5) = q at *
  generalize p % (PP + 5) = r at *
  have e : p = (r + 4 * q + q) + PP * q := by rw [← h, Nat.add_mul]; omega
  rw [e, Nat.add_mul_mod_self_left]

theorem PP_pos : 0 < PP := by decide
def pchunk (b : List (BitVec 8)) (k : Nat) : List (BitVec 8) := (b.drop (16 * k)).take 16
def polyH (r : Nat) (b : List (BitVec 8)) : Nat → Nat
  | 0 => 0
  | k + 1 => ((polyH r b k + leN (pchunk b k ++ [1#8])) * r) % PP
theorem polyH_lt (r : Nat) (b : List (BitVec 8)) : ∀ k, polyH r b k < PP
  | 0 => PP_pos
  | k + 1 => Nat.mod_lt _ PP_pos

/-- The mask of a byte of r. -/
def clampM (i : Nat) : BitVec 8 := if i = 3 ∨ i = 7 ∨ i = 11 ∨ i = 15 then 15#8 else if i = 4 ∨ i = 8 ∨ i = 12 then 252#8 else 255#8
def clampL (k : List (BitVec 8)) : List (BitVec 8) := (List.range 16).map fun i => k.getD i 0#8 &&& clampM i
theorem clampL_length (k : List (BitVec 8)) : (clampL k).length = 16 := by simp [clampL]
def polyR (k : List (BitVec 8)) : Nat := leN (clampL k)
def polyS (k : List (BitVec 8)) : Nat := leN ((k.drop 16).take 16)
def polyTag (k b : List (BitVec 8)) : List (BitVec 8) := leB 16 (polyH (polyR k) b ((b.length + 15) / 16) + polyS k)

theorem piece_lt (b : List (BitVec 8)) (k : Nat) : leN (pchunk b k ++ [1#8]) < 2 ^ 129 := by
  have h : (pchunk b k).length ≤ 16 := by simp [pchunk]; omega
  have h1 := leN_lt (pchunk b k)
  have h2 : (256 : Nat) ^ (pchunk b k).length ≤ 256 ^ 16 := Nat.pow_le_pow_right (by omega) h
  rw [leN_append, leN_one]
  have e : (1#8 : BitVec 8).toNat = 1 := rfl
  rw [e, Nat.mul_one]
  have h3 : (256 : Nat) ^ 16 = 2 ^ 128 := by decide
  omega

end Go.Proofs.Ytcapjjmikapmfaa.M
