/- What M's operations give at words of fixed width and at whole numbers; the rules that a walk rewrites by. -/
import Derived.Test.YtcapjjmikapmfaaMp
import Derived.Laws.BitsLemmas
set_option linter.unusedVariables false
set_option linter.unusedSimpArgs false
namespace Go.Proofs.Ytcapjjmikapmfaa.M
open Go

def u8 (x : BitVec 8) : Value := .int .u8 (x.toNat : Nat)
def u32 (x : BitVec 32) : Value := .int .u32 (x.toNat : Nat)
def u64 (x : BitVec 64) : Value := .int .u64 (x.toNat : Nat)

theorem wrap_uns (k : IntKind) (hk : k.signed = false) (n : Int) : k.wrap n = n % (2 ^ k.bits : Int) := by simp [IntKind.wrap, hk]
theorem wrap_i64 (n : Int) (h1 : -9223372036854775808 ≤ n) (h2 : n < 9223372036854775808) : IntKind.i64.wrap n = n := by
  rw [IntKind.wrap_i64]; omega
theorem wrap_nat {w : Nat} (x : BitVec w) : ((x.toNat : Nat) : Int) % (2 ^ w : Int) = (x.toNat : Nat) := by
  have h := x.isLt
  have : ((2 : Int) ^ w) = ((2 ^ w : Nat) : Int) := by push_cast; rfl
  rw [this, ← Int.natCast_emod, Nat.mod_eq_of_lt h]
theorem ofInt_toNat {w : Nat} (x : BitVec w) : BitVec.ofInt w ((x.toNat : Nat) : Int) = x := by simp


/-! ### u8 -/
section
variable {P : Program} (t : TypeId) (x y : BitVec 8) (n : Int) (K : Value → Heap → Prop) (H : Heap)
theorem u8_wrap (n : Int) : IntKind.u8.wrap n = ((BitVec.ofInt 8 n).toNat : Nat) := by
  rw [wrap_uns .u8 rfl]
  simp [IntKind.bits, BitVec.toNat_ofInt]
  omega
theorem int_u8 (n : Int) : (Value.int .u8 (IntKind.u8.wrap n)) = u8 (BitVec.ofInt 8 n) := by rw [u8_wrap]; rfl
@[go_sem] theorem ev_u8 (a : AAct) (h : 0 ≤ n ∧ n < 256) : ev a (.const (.int .u8 n)) = u8 (BitVec.ofInt 8 n) := by
  have : n = ((BitVec.ofInt 8 n).toNat : Nat) := by simp; omega
  unfold u8
  rw [← this]
  simp [ev, scal]
@[go_sem] theorem bin_add_u8 : binA P .add t (u8 x) (u8 y) = some (u8 (x + y)) := by
  simp only [binA, u8, ne_eq, not_true, if_false, u8_wrap]
  congr 4
  try (rw [BitVec.ofInt_add]; simp)
@[go_sem] theorem bin_sub_u8 : binA P .sub t (u8 x) (u8 y) = some (u8 (x - y)) := by
  simp only [binA, u8, ne_eq, not_true, if_false, u8_wrap]
  congr 4
  try (rw [Int.sub_eq_add_neg, BitVec.ofInt_add, BitVec.ofInt_neg]; simp [BitVec.sub_eq_add_neg])
@[go_sem] theorem bin_mul_u8 : binA P .mul t (u8 x) (u8 y) = some (u8 (x * y)) := by
  simp only [binA, u8, ne_eq, not_true, if_false, u8_wrap]
  congr 4
  try (rw [BitVec.ofInt_mul]; simp)
@[go_sem] theorem bin_and_u8 : binA P .and t (u8 x) (u8 y) = some (u8 (x &&& y)) := by
  simp only [binA, u8, ne_eq, not_true, if_false, u8_wrap, IntKind.bits, ofInt_toNat]
  rfl
@[go_sem] theorem bin_or_u8 : binA P .or t (u8 x) (u8 y) = some (u8 (x ||| y)) := by
  simp only [binA, u8, ne_eq, not_true, if_false, u8_wrap, IntKind.bits, ofInt_toNat]
  rfl
@[go_sem] theorem bin_xor_u8 : binA P .xor t (u8 x) (u8 y) = some (u8 (x ^^^ y)) := by
  simp only [binA, u8, ne_eq, not_true, if_false, u8_wrap, IntKind.bits, ofInt_toNat]
  rfl
@[go_sem] theorem bin_andNot_u8 : binA P .andNot t (u8 x) (u8 y) = some (u8 (x &&& ~~~y)) := by
  simp only [binA, u8, ne_eq, not_true, if_false, u8_wrap, IntKind.bits, ofInt_toNat]
  rfl
theorem shl_u8 (m : Nat) : IntKind.u8.wrap ((x.toNat : Nat) * 2 ^ min m 8) = ((x <<< m).toNat : Nat) := by
  rw [u8_wrap]
  congr 1
  have : (((x.toNat : Nat) : Int) * 2 ^ min m 8) = ((x.toNat * 2 ^ min m 8 : Nat) : Int) := by push_cast; rfl
  rw [this, BitVec.ofInt_natCast, BitVec.toNat_ofNat, BitVec.toNat_shiftLeft, Nat.shiftLeft_eq]
  rcases Nat.le_total m 8 with h | h
  · rw [Nat.min_eq_left h]
  · rw [Nat.min_eq_right h, Nat.mul_mod_left]
    obtain ⟨d, rfl⟩ : ∃ d, m = 8 + d := ⟨m - 8, by omega⟩
    rw [Nat.pow_add, ← Nat.mul_assoc, Nat.mul_assoc, Nat.mul_comm (2 ^ 8), ← Nat.mul_assoc, Nat.mul_mod_left]
theorem shr_u8 (m : Nat) : (((x.toNat : Nat) : Int).fdiv (2 ^ min m 8)) = ((x >>> m).toNat : Nat) := by
  have : ((2 : Int) ^ min m 8) = ((2 ^ min m 8 : Nat) : Int) := by push_cast; rfl
  rw [this, Int.fdiv_eq_ediv_of_nonneg _ (Int.natCast_nonneg _), ← Int.natCast_ediv, BitVec.toNat_ushiftRight, Nat.shiftRight_eq_div_pow]
  congr 1
  rcases Nat.le_total m 8 with h | h
  · rw [Nat.min_eq_left h]
  · have hx := x.isLt
    rw [Nat.min_eq_right h, Nat.div_eq_of_lt hx, Nat.div_eq_of_lt]
    exact Nat.lt_of_lt_of_le hx (Nat.pow_le_pow_right (by omega) h)
@[go_sem] theorem bin_shl_u8 (k : IntKind) (h : 0 ≤ n) : binA P .shl t (u8 x) (.int k n) = some (u8 (x <<< n.toNat)) := by
  have h' : ¬ n < 0 := by omega
  unfold u8
  simp only [binA, if_neg h', IntKind.bits]
  rw [shl_u8]
@[go_sem] theorem bin_shl_u8_u64 (y : BitVec 64) : binA P .shl t (u8 x) (u64 y) = some (u8 (x <<< y.toNat)) := by
  have := bin_shl_u8 (P := P) t x (y.toNat : Nat) .u64 (by omega)
  simpa [u64] using this
@[go_sem] theorem bin_rem_u8 (h : y ≠ 0) : binA P .rem t (u8 x) (u8 y) = some (u8 (x % y)) := by
  have h0 : y.toNat ≠ 0 := fun e => h (BitVec.eq_of_toNat_eq (by simpa using e))
  have h' : ¬ ((y.toNat : Nat) : Int) = 0 := by omega
  simp only [binA, u8, ne_eq, not_true, if_false, if_neg h', Int.ofNat_tmod, BitVec.toNat_umod]
@[go_sem] theorem bin_quo_u8 (h : y ≠ 0) : binA P .quo t (u8 x) (u8 y) = some (u8 (x / y)) := by
  have h0 : y.toNat ≠ 0 := fun e => h (BitVec.eq_of_toNat_eq (by simpa using e))
  have h' : ¬ ((y.toNat : Nat) : Int) = 0 := by omega
  simp only [binA, u8, ne_eq, not_true, if_false, if_neg h', u8_wrap]
  congr 4
  rw [← Int.ofNat_tdiv, BitVec.ofInt_natCast]
  apply BitVec.eq_of_toNat_eq
  rw [BitVec.toNat_ofNat, BitVec.toNat_udiv, Nat.mod_eq_of_lt]
  exact Nat.lt_of_le_of_lt (Nat.div_le_self _ _) x.isLt
@[go_sem] theorem bin_shr_u8 (k : IntKind) (h : 0 ≤ n) : binA P .shr t (u8 x) (.int k n) = some (u8 (x >>> n.toNat)) := by
  have h' : ¬ n < 0 := by omega
  unfold u8
  simp only [binA, if_neg h', IntKind.bits]
  rw [shr_u8]
@[go_sem] theorem bin_shr_u8_u64 (y : BitVec 64) : binA P .shr t (u8 x) (u64 y) = some (u8 (x >>> y.toNat)) := by
  have := bin_shr_u8 (P := P) t x (y.toNat : Nat) .u64 (by omega)
  simpa [u64] using this
theorem beq_u8 : (((x.toNat : Nat) : Int) == ((y.toNat : Nat) : Int)) = (x == y) := by
  rw [Bool.eq_iff_iff]
  simp only [beq_iff_eq]
  exact ⟨fun h => BitVec.eq_of_toNat_eq (by omega), fun h => by rw [h]⟩
@[go_sem] theorem bin_eql_u8 : binA P .eql t (u8 x) (u8 y) = some (.bool (x == y)) := by
  simp only [binA, u8, ne_eq, not_true, if_false, beq_u8]
@[go_sem] theorem bin_neq_u8 : binA P .neq t (u8 x) (u8 y) = some (.bool (x != y)) := by
  simp only [binA, u8, ne_eq, not_true, if_false, bne, beq_u8]
@[go_sem] theorem bin_lss_u8 : binA P .lss t (u8 x) (u8 y) = some (.bool (decide (x.toNat < y.toNat))) := by
  simp only [binA, u8, ne_eq, not_true, if_false, Int.ofNat_lt]
@[go_sem] theorem bin_leq_u8 : binA P .leq t (u8 x) (u8 y) = some (.bool (decide (x.toNat ≤ y.toNat))) := by
  simp only [binA, u8, ne_eq, not_true, if_false, Int.ofNat_le]
@[go_sem] theorem bin_gtr_u8 : binA P .gtr t (u8 x) (u8 y) = some (.bool (decide (y.toNat < x.toNat))) := by
  simp only [binA, u8, ne_eq, not_true, if_false, gt_iff_lt, Int.ofNat_lt]
@[go_sem] theorem bin_geq_u8 : binA P .geq t (u8 x) (u8 y) = some (.bool (decide (y.toNat ≤ x.toNat))) := by
  simp only [binA, u8, ne_eq, not_true, if_false, ge_iff_le, Int.ofNat_le]
@[go_sem] theorem un_xor_u8 : unA .xor (u8 x) = some (u8 (~~~x)) := by
  simp only [unA, u8, IntKind.signed, IntKind.bits, ofInt_toNat, u8_wrap]
  have : BitVec.ofInt 8 (if false = true then -1 else IntKind.u8.max) = BitVec.allOnes 8 := by rfl
  congr 4
@[go_sem] theorem un_neg_u8 : unA .neg (u8 x) = some (u8 (-x)) := by
  simp only [unA, u8, u8_wrap]
  congr 4
  try (rw [Int.zero_sub, BitVec.ofInt_neg]; simp)
@[go_sem] theorem scal_u8 : scal (u8 x) = true := (rfl)
@[go_sem] theorem isU_u8 : isU (u8 x) = false := (rfl)
@[go_sem] theorem cellOk_u8 : cellOk (u8 x) = true := (rfl)
@[go_sem] theorem cells_u8 : (u8 x).cells = #[u8 x] := (rfl)
@[go_sem] theorem stc_u8 : stc 1 (u8 x) = some [u8 x] := (rfl)
theorem u8_inj {x y : BitVec 8} : u8 x = u8 y ↔ x = y := by
  refine ⟨fun h => ?_, fun h => by rw [h]⟩
  unfold u8 at h
  injection h with _ h
  exact BitVec.eq_of_toNat_eq (by omega)
end


/-! ### u32 -/
section
variable {P : Program} (t : TypeId) (x y : BitVec 32) (n : Int) (K : Value → Heap → Prop) (H : Heap)
theorem u32_wrap (n : Int) : IntKind.u32.wrap n = ((BitVec.ofInt 32 n).toNat : Nat) := by
  rw [wrap_uns .u32 rfl]
  simp [IntKind.bits, BitVec.toNat_ofInt]
  omega
theorem int_u32 (n : Int) : (Value.int .u32 (IntKind.u32.wrap n)) = u32 (BitVec.ofInt 32 n) := by rw [u32_wrap]; rfl
@[go_sem] theorem ev_u32 (a : AAct) (h : 0 ≤ n ∧ n < 4294967296) : ev a (.const (.int .u32 n)) = u32 (BitVec.ofInt 32 n) := by
  have : n = ((BitVec.ofInt 32 n).toNat : Nat) := by simp; omega
  unfold u32
  rw [← this]
  simp [ev, scal]
@[go_sem] theorem bin_add_u32 : binA P .add t (u32 x) (u32 y) = some (u32 (x + y)) := by
  simp only [binA, u32, ne_eq, not_true, if_false, u32_wrap]
  congr 4
  try (rw [BitVec.ofInt_add]; simp)
@[go_sem] theorem bin_sub_u32 : binA P .sub t (u32 x) (u32 y) = some (u32 (x - y)) := by
  simp only [binA, u32, ne_eq, not_true, if_false, u32_wrap]
  congr 4
  try (rw [Int.sub_eq_add_neg, BitVec.ofInt_add, BitVec.ofInt_neg]; simp [BitVec.sub_eq_add_neg])
@[go_sem] theorem bin_mul_u32 : binA P .mul t (u32 x) (u32 y) = some (u32 (x * y)) := by
  simp only [binA, u32, ne_eq, not_true, if_false, u32_wrap]
  congr 4
  try (rw [BitVec.ofInt_mul]; simp)
@[go_sem] theorem bin_and_u32 : binA P .and t (u32 x) (u32 y) = some (u32 (x &&& y)) := by
  simp only [binA, u32, ne_eq, not_true, if_false, u32_wrap, IntKind.bits, ofInt_toNat]
  rfl
@[go_sem] theorem bin_or_u32 : binA P .or t (u32 x) (u32 y) = some (u32 (x ||| y)) := by
  simp only [binA, u32, ne_eq, not_true, if_false, u32_wrap, IntKind.bits, ofInt_toNat]
  rfl
@[go_sem] theorem bin_xor_u32 : binA P .xor t (u32 x) (u32 y) = some (u32 (x ^^^ y)) := by
  simp only [binA, u32, ne_eq, not_true, if_false, u32_wrap, IntKind.bits, ofInt_toNat]
  rfl
@[go_sem] theorem bin_andNot_u32 : binA P .andNot t (u32 x) (u32 y) = some (u32 (x &&& ~~~y)) := by
  simp only [binA, u32, ne_eq, not_true, if_false, u32_wrap, IntKind.bits, ofInt_toNat]
  rfl
theorem shl_u32 (m : Nat) : IntKind.u32.wrap ((x.toNat : Nat) * 2 ^ min m 32) = ((x <<< m).toNat : Nat) := by
  rw [u32_wrap]
  congr 1
  have : (((x.toNat : Nat) : Int) * 2 ^ min m 32) = ((x.toNat * 2 ^ min m 32 : Nat) : Int) := by push_cast; rfl
  rw [this, BitVec.ofInt_natCast, BitVec.toNat_ofNat, BitVec.toNat_shiftLeft, Nat.shiftLeft_eq]
  rcases Nat.le_total m 32 with h | h
  · rw [Nat.min_eq_left h]
  · rw [Nat.min_eq_right h, Nat.mul_mod_left]
    obtain ⟨d, rfl⟩ : ∃ d, m = 32 + d := ⟨m - 32, by omega⟩
    rw [Nat.pow_add, ← Nat.mul_assoc, Nat.mul_assoc, Nat.mul_comm (2 ^ 32), ← Nat.mul_assoc, Nat.mul_mod_left]
theorem shr_u32 (m : Nat) : (((x.toNat : Nat) : Int).fdiv (2 ^ min m 32)) = ((x >>> m).toNat : Nat) := by
  have : ((2 : Int) ^ min m 32) = ((2 ^ min m 32 : Nat) : Int) := by push_cast; rfl
  rw [this, Int.fdiv_eq_ediv_of_nonneg _ (Int.natCast_nonneg _), ← Int.natCast_ediv, BitVec.toNat_ushiftRight, Nat.shiftRight_eq_div_pow]
  congr 1
  rcases Nat.le_total m 32 with h | h
  · rw [Nat.min_eq_left h]
  · have hx := x.isLt
    rw [Nat.min_eq_right h, Nat.div_eq_of_lt hx, Nat.div_eq_of_lt]
    exact Nat.lt_of_lt_of_le hx (Nat.pow_le_pow_right (by omega) h)
@[go_sem] theorem bin_shl_u32 (k : IntKind) (h : 0 ≤ n) : binA P .shl t (u32 x) (.int k n) = some (u32 (x <<< n.toNat)) := by
  have h' : ¬ n < 0 := by omega
  unfold u32
  simp only [binA, if_neg h', IntKind.bits]
  rw [shl_u32]
@[go_sem] theorem bin_shl_u32_u64 (y : BitVec 64) : binA P .shl t (u32 x) (u64 y) = some (u32 (x <<< y.toNat)) := by
  have := bin_shl_u32 (P := P) t x (y.toNat : Nat) .u64 (by omega)
  simpa [u64] using this
@[go_sem] theorem bin_rem_u32 (h : y ≠ 0) : binA P .rem t (u32 x) (u32 y) = some (u32 (x % y)) := by
  have h0 : y.toNat ≠ 0 := fun e => h (BitVec.eq_of_toNat_eq (by simpa using e))
  have h' : ¬ ((y.toNat : Nat) : Int) = 0 := by omega
  simp only [binA, u32, ne_eq, not_true, if_false, if_neg h', Int.ofNat_tmod, BitVec.toNat_umod]
@[go_sem] theorem bin_quo_u32 (h : y ≠ 0) : binA P .quo t (u32 x) (u32 y) = some (u32 (x / y)) := by
  have h0 : y.toNat ≠ 0 := fun e => h (BitVec.eq_of_toNat_eq (by simpa using e))
  have h' : ¬ ((y.toNat : Nat) : Int) = 0 := by omega
  simp only [binA, u32, ne_eq, not_true, if_false, if_neg h', u32_wrap]
  congr 4
  rw [← Int.ofNat_tdiv, BitVec.ofInt_natCast]
  apply BitVec.eq_of_toNat_eq
  rw [BitVec.toNat_ofNat, BitVec.toNat_udiv, Nat.mod_eq_of_lt]
  exact Nat.lt_of_le_of_lt (Nat.div_le_self _ _) x.isLt
@[go_sem] theorem bin_shr_u32 (k : IntKind) (h : 0 ≤ n) : binA P .shr t (u32 x) (.int k n) = some (u32 (x >>> n.toNat)) := by
  have h' : ¬ n < 0 := by omega
  unfold u32
  simp only [binA, if_neg h', IntKind.bits]
  rw [shr_u32]
@[go_sem] theorem bin_shr_u32_u64 (y : BitVec 64) : binA P .shr t (u32 x) (u64 y) = some (u32 (x >>> y.toNat)) := by
  have := bin_shr_u32 (P := P) t x (y.toNat : Nat) .u64 (by omega)
  simpa [u64] using this
theorem beq_u32 : (((x.toNat : Nat) : Int) == ((y.toNat : Nat) : Int)) = (x == y) := by
  rw [Bool.eq_iff_iff]
  simp only [beq_iff_eq]
  exact ⟨fun h => BitVec.eq_of_toNat_eq (by omega), fun h => by rw [h]⟩
@[go_sem] theorem bin_eql_u32 : binA P .eql t (u32 x) (u32 y) = some (.bool (x == y)) := by
  simp only [binA, u32, ne_eq, not_true, if_false, beq_u32]
@[go_sem] theorem bin_neq_u32 : binA P .neq t (u32 x) (u32 y) = some (.bool (x != y)) := by
  simp only [binA, u32, ne_eq, not_true, if_false, bne, beq_u32]
@[go_sem] theorem bin_lss_u32 : binA P .lss t (u32 x) (u32 y) = some (.bool (decide (x.toNat < y.toNat))) := by
  simp only [binA, u32, ne_eq, not_true, if_false, Int.ofNat_lt]
@[go_sem] theorem bin_leq_u32 : binA P .leq t (u32 x) (u32 y) = some (.bool (decide (x.toNat ≤ y.toNat))) := by
  simp only [binA, u32, ne_eq, not_true, if_false, Int.ofNat_le]
@[go_sem] theorem bin_gtr_u32 : binA P .gtr t (u32 x) (u32 y) = some (.bool (decide (y.toNat < x.toNat))) := by
  simp only [binA, u32, ne_eq, not_true, if_false, gt_iff_lt, Int.ofNat_lt]
@[go_sem] theorem bin_geq_u32 : binA P .geq t (u32 x) (u32 y) = some (.bool (decide (y.toNat ≤ x.toNat))) := by
  simp only [binA, u32, ne_eq, not_true, if_false, ge_iff_le, Int.ofNat_le]
@[go_sem] theorem un_xor_u32 : unA .xor (u32 x) = some (u32 (~~~x)) := by
  simp only [unA, u32, IntKind.signed, IntKind.bits, ofInt_toNat, u32_wrap]
  have : BitVec.ofInt 32 (if false = true then -1 else IntKind.u32.max) = BitVec.allOnes 32 := by rfl
  congr 4
@[go_sem] theorem un_neg_u32 : unA .neg (u32 x) = some (u32 (-x)) := by
  simp only [unA, u32, u32_wrap]
  congr 4
  try (rw [Int.zero_sub, BitVec.ofInt_neg]; simp)
@[go_sem] theorem scal_u32 : scal (u32 x) = true := (rfl)
@[go_sem] theorem isU_u32 : isU (u32 x) = false := (rfl)
@[go_sem] theorem cellOk_u32 : cellOk (u32 x) = true := (rfl)
@[go_sem] theorem cells_u32 : (u32 x).cells = #[u32 x] := (rfl)
@[go_sem] theorem stc_u32 : stc 1 (u32 x) = some [u32 x] := (rfl)
theorem u32_inj {x y : BitVec 32} : u32 x = u32 y ↔ x = y := by
  refine ⟨fun h => ?_, fun h => by rw [h]⟩
  unfold u32 at h
  injection h with _ h
  exact BitVec.eq_of_toNat_eq (by omega)
end


/-! ### u64 -/
section
variable {P : Program} (t : TypeId) (x y : BitVec 64) (n : Int) (K : Value → Heap → Prop) (H : Heap)
theorem u64_wrap (n : Int) : IntKind.u64.wrap n = ((BitVec.ofInt 64 n).toNat : Nat) := by
  rw [wrap_uns .u64 rfl]
  simp [IntKind.bits, BitVec.toNat_ofInt]
  omega
theorem int_u64 (n : Int) : (Value.int .u64 (IntKind.u64.wrap n)) = u64 (BitVec.ofInt 64 n) := by rw [u64_wrap]; rfl
@[go_sem] theorem ev_u64 (a : AAct) (h : 0 ≤ n ∧ n < 18446744073709551616) : ev a (.const (.int .u64 n)) = u64 (BitVec.ofInt 64 n) := by
  have : n = ((BitVec.ofInt 64 n).toNat : Nat) := by simp; omega
  unfold u64
  rw [← this]
  simp [ev, scal]
@[go_sem] theorem bin_add_u64 : binA P .add t (u64 x) (u64 y) = some (u64 (x + y)) := by
  simp only [binA, u64, ne_eq, not_true, if_false, u64_wrap]
  congr 4
  try (rw [BitVec.ofInt_add]; simp)
@[go_sem] theorem bin_sub_u64 : binA P .sub t (u64 x) (u64 y) = some (u64 (x - y)) := by
  simp only [binA, u64, ne_eq, not_true, if_false, u64_wrap]
  congr 4
  try (rw [Int.sub_eq_add_neg, BitVec.ofInt_add, BitVec.ofInt_neg]; simp [BitVec.sub_eq_add_neg])
@[go_sem] theorem bin_mul_u64 : binA P .mul t (u64 x) (u64 y) = some (u64 (x * y)) := by
  simp only [binA, u64, ne_eq, not_true, if_false, u64_wrap]
  congr 4
  try (rw [BitVec.ofInt_mul]; simp)
@[go_sem] theorem bin_and_u64 : binA P .and t (u64 x) (u64 y) = some (u64 (x &&& y)) := by
  simp only [binA, u64, ne_eq, not_true, if_false, u64_wrap, IntKind.bits, ofInt_toNat]
  rfl
@[go_sem] theorem bin_or_u64 : binA P .or t (u64 x) (u64 y) = some (u64 (x ||| y)) := by
  simp only [binA, u64, ne_eq, not_true, if_false, u64_wrap, IntKind.bits, ofInt_toNat]
  rfl
@[go_sem] theorem bin_xor_u64 : binA P .xor t (u64 x) (u64 y) = some (u64 (x ^^^ y)) := by
  simp only [binA, u64, ne_eq, not_true, if_false, u64_wrap, IntKind.bits, ofInt_toNat]
  rfl
@[go_sem] theorem bin_andNot_u64 : binA P .andNot t (u64 x) (u64 y) = some (u64 (x &&& ~~~y)) := by
  simp only [binA, u64, ne_eq, not_true, if_false, u64_wrap, IntKind.bits, ofInt_toNat]
  rfl
theorem shl_u64 (m : Nat) : IntKind.u64.wrap ((x.toNat : Nat) * 2 ^ min m 64) = ((x <<< m).toNat : Nat) := by
  rw [u64_wrap]
  congr 1
  have : (((x.toNat : Nat) : Int) * 2 ^ min m 64) = ((x.toNat * 2 ^ min m 64 : Nat) : Int) := by push_cast; rfl
  rw [this, BitVec.ofInt_natCast, BitVec.toNat_ofNat, BitVec.toNat_shiftLeft, Nat.shiftLeft_eq]
  rcases Nat.le_total m 64 with h | h
  · rw [Nat.min_eq_left h]
  · rw [Nat.min_eq_right h, Nat.mul_mod_left]
    obtain ⟨d, rfl⟩ : ∃ d, m = 64 + d := ⟨m - 64, by omega⟩
    rw [Nat.pow_add, ← Nat.mul_assoc, Nat.mul_assoc, Nat.mul_comm (2 ^ 64), ← Nat.mul_assoc, Nat.mul_mod_left]
theorem shr_u64 (m : Nat) : (((x.toNat : Nat) : Int).fdiv (2 ^ min m 64)) = ((x >>> m).toNat : Nat) := by
  have : ((2 : Int) ^ min m 64) = ((2 ^ min m 64 : Nat) : Int) := by push_cast; rfl
  rw [this, Int.fdiv_eq_ediv_of_nonneg _ (Int.natCast_nonneg _), ← Int.natCast_ediv, BitVec.toNat_ushiftRight, Nat.shiftRight_eq_div_pow]
  congr 1
  rcases Nat.le_total m 64 with h | h
  · rw [Nat.min_eq_left h]
  · have hx := x.isLt
    rw [Nat.min_eq_right h, Nat.div_eq_of_lt hx, Nat.div_eq_of_lt]
    exact Nat.lt_of_lt_of_le hx (Nat.pow_le_pow_right (by omega) h)
@[go_sem] theorem bin_shl_u64 (k : IntKind) (h : 0 ≤ n) : binA P .shl t (u64 x) (.int k n) = some (u64 (x <<< n.toNat)) := by
  have h' : ¬ n < 0 := by omega
  unfold u64
  simp only [binA, if_neg h', IntKind.bits]
  rw [shl_u64]
@[go_sem] theorem bin_shl_u64_u64 (y : BitVec 64) : binA P .shl t (u64 x) (u64 y) = some (u64 (x <<< y.toNat)) := by
  have := bin_shl_u64 (P := P) t x (y.toNat : Nat) .u64 (by omega)
  simpa [u64] using this
@[go_sem] theorem bin_rem_u64 (h : y ≠ 0) : binA P .rem t (u64 x) (u64 y) = some (u64 (x % y)) := by
  have h0 : y.toNat ≠ 0 := fun e => h (BitVec.eq_of_toNat_eq (by simpa using e))
  have h' : ¬ ((y.toNat : Nat) : Int) = 0 := by omega
  simp only [binA, u64, ne_eq, not_true, if_false, if_neg h', Int.ofNat_tmod, BitVec.toNat_umod]
@[go_sem] theorem bin_quo_u64 (h : y ≠ 0) : binA P .quo t (u64 x) (u64 y) = some (u64 (x / y)) := by
  have h0 : y.toNat ≠ 0 := fun e => h (BitVec.eq_of_toNat_eq (by simpa using e))
  have h' : ¬ ((y.toNat : Nat) : Int) = 0 := by omega
  simp only [binA, u64, ne_eq, not_true, if_false, if_neg h', u64_wrap]
  congr 4
  rw [← Int.ofNat_tdiv, BitVec.ofInt_natCast]
  apply BitVec.eq_of_toNat_eq
  rw [BitVec.toNat_ofNat, BitVec.toNat_udiv, Nat.mod_eq_of_lt]
  exact Nat.lt_of_le_of_lt (Nat.div_le_self _ _) x.isLt
@[go_sem] theorem bin_shr_u64 (k : IntKind) (h : 0 ≤ n) : binA P .shr t (u64 x) (.int k n) = some (u64 (x >>> n.toNat)) := by
  have h' : ¬ n < 0 := by omega
  unfold u64
  simp only [binA, if_neg h', IntKind.bits]
  rw [shr_u64]
@[go_sem] theorem bin_shr_u64_u64 (y : BitVec 64) : binA P .shr t (u64 x) (u64 y) = some (u64 (x >>> y.toNat)) := by
  have := bin_shr_u64 (P := P) t x (y.toNat : Nat) .u64 (by omega)
  simpa [u64] using this
theorem beq_u64 : (((x.toNat : Nat) : Int) == ((y.toNat : Nat) : Int)) = (x == y) := by
  rw [Bool.eq_iff_iff]
  simp only [beq_iff_eq]
  exact ⟨fun h => BitVec.eq_of_toNat_eq (by omega), fun h => by rw [h]⟩
@[go_sem] theorem bin_eql_u64 : binA P .eql t (u64 x) (u64 y) = some (.bool (x == y)) := by
  simp only [binA, u64, ne_eq, not_true, if_false, beq_u64]
@[go_sem] theorem bin_neq_u64 : binA P .neq t (u64 x) (u64 y) = some (.bool (x != y)) := by
  simp only [binA, u64, ne_eq, not_true, if_false, bne, beq_u64]
@[go_sem] theorem bin_lss_u64 : binA P .lss t (u64 x) (u64 y) = some (.bool (decide (x.toNat < y.toNat))) := by
  simp only [binA, u64, ne_eq, not_true, if_false, Int.ofNat_lt]
@[go_sem] theorem bin_leq_u64 : binA P .leq t (u64 x) (u64 y) = some (.bool (decide (x.toNat ≤ y.toNat))) := by
  simp only [binA, u64, ne_eq, not_true, if_false, Int.ofNat_le]
@[go_sem] theorem bin_gtr_u64 : binA P .gtr t (u64 x) (u64 y) = some (.bool (decide (y.toNat < x.toNat))) := by
  simp only [binA, u64, ne_eq, not_true, if_false, gt_iff_lt, Int.ofNat_lt]
@[go_sem] theorem bin_geq_u64 : binA P .geq t (u64 x) (u64 y) = some (.bool (decide (y.toNat ≤ x.toNat))) := by
  simp only [binA, u64, ne_eq, not_true, if_false, ge_iff_le, Int.ofNat_le]
@[go_sem] theorem un_xor_u64 : unA .xor (u64 x) = some (u64 (~~~x)) := by
  simp only [unA, u64, IntKind.signed, IntKind.bits, ofInt_toNat, u64_wrap]
  have : BitVec.ofInt 64 (if false = true then -1 else IntKind.u64.max) = BitVec.allOnes 64 := by rfl
  congr 4
@[go_sem] theorem un_neg_u64 : unA .neg (u64 x) = some (u64 (-x)) := by
  simp only [unA, u64, u64_wrap]
  congr 4
  try (rw [Int.zero_sub, BitVec.ofInt_neg]; simp)
@[go_sem] theorem scal_u64 : scal (u64 x) = true := (rfl)
@[go_sem] theorem isU_u64 : isU (u64 x) = false := (rfl)
@[go_sem] theorem cellOk_u64 : cellOk (u64 x) = true := (rfl)
@[go_sem] theorem cells_u64 : (u64 x).cells = #[u64 x] := (rfl)
@[go_sem] theorem stc_u64 : stc 1 (u64 x) = some [u64 x] := (rfl)
theorem u64_inj {x y : BitVec 64} : u64 x = u64 y ↔ x = y := by
  refine ⟨fun h => ?_, fun h => by rw [h]⟩
  unfold u64 at h
  injection h with _ h
  exact BitVec.eq_of_toNat_eq (by omega)
end


/-! ### Turns from kind to kind -/
section
variable {P : Program} (n : Int) (K : Value → Heap → Prop) (H : Heap) (d : TypeDesc) (r : Prop)

@[go_sem] theorem conv_u8_u8 (x : BitVec 8) : convTo (some (.int .u8)) (some d) (u8 x) H K r = K (u8 (x.setWidth 8)) H := by
  simp only [convTo, u8]
  rw [int_u8]
  congr 2
  try (rw [BitVec.ofInt_natCast]; apply BitVec.eq_of_toNat_eq; simp)
@[go_sem] theorem conv_u8_u32 (x : BitVec 8) : convTo (some (.int .u32)) (some d) (u8 x) H K r = K (u32 (x.setWidth 32)) H := by
  simp only [convTo, u8]
  rw [int_u32]
  congr 2
  try (rw [BitVec.ofInt_natCast]; apply BitVec.eq_of_toNat_eq; simp)
@[go_sem] theorem conv_u8_u64 (x : BitVec 8) : convTo (some (.int .u64)) (some d) (u8 x) H K r = K (u64 (x.setWidth 64)) H := by
  simp only [convTo, u8]
  rw [int_u64]
  congr 2
  try (rw [BitVec.ofInt_natCast]; apply BitVec.eq_of_toNat_eq; simp)
@[go_sem] theorem conv_i64_u8 : convTo (some (.int .u8)) (some d) (.int .i64 n) H K r = K (u8 (BitVec.ofInt 8 n)) H := by
  simp only [convTo]
  rw [int_u8]
@[go_sem] theorem conv_u32_u8 (x : BitVec 32) : convTo (some (.int .u8)) (some d) (u32 x) H K r = K (u8 (x.setWidth 8)) H := by
  simp only [convTo, u32]
  rw [int_u8]
  congr 2
  try (rw [BitVec.ofInt_natCast]; apply BitVec.eq_of_toNat_eq; simp)
@[go_sem] theorem conv_u32_u32 (x : BitVec 32) : convTo (some (.int .u32)) (some d) (u32 x) H K r = K (u32 (x.setWidth 32)) H := by
  simp only [convTo, u32]
  rw [int_u32]
  congr 2
  try (rw [BitVec.ofInt_natCast]; apply BitVec.eq_of_toNat_eq; simp)
@[go_sem] theorem conv_u32_u64 (x : BitVec 32) : convTo (some (.int .u64)) (some d) (u32 x) H K r = K (u64 (x.setWidth 64)) H := by
  simp only [convTo, u32]
  rw [int_u64]
  congr 2
  try (rw [BitVec.ofInt_natCast]; apply BitVec.eq_of_toNat_eq; simp)
@[go_sem] theorem conv_i64_u32 : convTo (some (.int .u32)) (some d) (.int .i64 n) H K r = K (u32 (BitVec.ofInt 32 n)) H := by
  simp only [convTo]
  rw [int_u32]
@[go_sem] theorem conv_u64_u8 (x : BitVec 64) : convTo (some (.int .u8)) (some d) (u64 x) H K r = K (u8 (x.setWidth 8)) H := by
  simp only [convTo, u64]
  rw [int_u8]
  congr 2
  try (rw [BitVec.ofInt_natCast]; apply BitVec.eq_of_toNat_eq; simp)
@[go_sem] theorem conv_u64_u32 (x : BitVec 64) : convTo (some (.int .u32)) (some d) (u64 x) H K r = K (u32 (x.setWidth 32)) H := by
  simp only [convTo, u64]
  rw [int_u32]
  congr 2
  try (rw [BitVec.ofInt_natCast]; apply BitVec.eq_of_toNat_eq; simp)
@[go_sem] theorem conv_u64_u64 (x : BitVec 64) : convTo (some (.int .u64)) (some d) (u64 x) H K r = K (u64 (x.setWidth 64)) H := by
  simp only [convTo, u64]
  rw [int_u64]
  congr 2
  try (rw [BitVec.ofInt_natCast]; apply BitVec.eq_of_toNat_eq; simp)
@[go_sem] theorem conv_i64_u64 : convTo (some (.int .u64)) (some d) (.int .i64 n) H K r = K (u64 (BitVec.ofInt 64 n)) H := by
  simp only [convTo]
  rw [int_u64]
@[go_sem] theorem conv_u8_i64 (x : BitVec 8) : convTo (some (.int .i64)) (some d) (u8 x) H K r = K (.int .i64 (x.toNat : Nat)) H := by
  simp only [convTo, u8]
  have := x.isLt
  rw [wrap_i64 _ (by omega) (by omega)]
@[go_sem] theorem conv_u32_i64 (x : BitVec 32) : convTo (some (.int .i64)) (some d) (u32 x) H K r = K (.int .i64 (x.toNat : Nat)) H := by
  simp only [convTo, u32]
  have := x.isLt
  rw [wrap_i64 _ (by omega) (by omega)]
@[go_sem] theorem conv_u64_i64 (x : BitVec 64) : convTo (some (.int .i64)) (some d) (u64 x) H K r = K (.int .i64 x.toInt) H := by
  simp only [convTo, u64]
  have := x.isLt
  have h : IntKind.i64.wrap (x.toNat : Nat) = x.toInt := by
    rw [IntKind.wrap_i64, BitVec.toInt_eq_toNat_cond]
    split <;> omega
  rw [h]
@[go_sem] theorem conv_i64_i64 : convTo (some (.int .i64)) (some d) (.int .i64 n) H K r = K (.int .i64 (IntKind.i64.wrap n)) H := (rfl)
end

/-! ### Whole numbers -/
section
variable {P : Program} (t : TypeId) (m n : Int) (a : AAct)
@[go_sem] theorem ev_i64 : ev a (.const (.int .i64 n)) = .int .i64 n := by simp [ev, scal]
@[go_sem] theorem bin_add_i : binA P .add t (.int .i64 m) (.int .i64 n) = some (.int .i64 (IntKind.i64.wrap (m + n))) := (rfl)
@[go_sem] theorem bin_sub_i : binA P .sub t (.int .i64 m) (.int .i64 n) = some (.int .i64 (IntKind.i64.wrap (m - n))) := (rfl)
@[go_sem] theorem bin_mul_i : binA P .mul t (.int .i64 m) (.int .i64 n) = some (.int .i64 (IntKind.i64.wrap (m * n))) := (rfl)
@[go_sem] theorem bin_rem_i (h : n ≠ 0) : binA P .rem t (.int .i64 m) (.int .i64 n) = some (.int .i64 (m.tmod n)) := by simp [binA, h]
@[go_sem] theorem bin_quo_i (h : n ≠ 0) : binA P .quo t (.int .i64 m) (.int .i64 n) = some (.int .i64 (IntKind.i64.wrap (m.tdiv n))) := by simp [binA, h]
@[go_sem] theorem bin_eql_i : binA P .eql t (.int .i64 m) (.int .i64 n) = some (.bool (decide (m = n))) := by
  simp only [binA, ne_eq, not_true, if_false]
  congr 2
@[go_sem] theorem bin_neq_i : binA P .neq t (.int .i64 m) (.int .i64 n) = some (.bool (decide (m ≠ n))) := by
  simp only [binA, ne_eq, not_true, if_false]
  congr 2
  try (rw [Bool.eq_iff_iff]; simp)
@[go_sem] theorem bin_lss_i : binA P .lss t (.int .i64 m) (.int .i64 n) = some (.bool (decide (m < n))) := (rfl)
@[go_sem] theorem bin_leq_i : binA P .leq t (.int .i64 m) (.int .i64 n) = some (.bool (decide (m ≤ n))) := (rfl)
@[go_sem] theorem bin_gtr_i : binA P .gtr t (.int .i64 m) (.int .i64 n) = some (.bool (decide (n < m))) := (rfl)
@[go_sem] theorem bin_geq_i : binA P .geq t (.int .i64 m) (.int .i64 n) = some (.bool (decide (n ≤ m))) := (rfl)
@[go_sem] theorem un_neg_i : unA .neg (.int .i64 n) = some (.int .i64 (IntKind.i64.wrap (0 - n))) := (rfl)
@[go_sem] theorem un_not_b (b : Bool) : unA .not (.bool b) = some (.bool !b) := (rfl)
@[go_sem] theorem scal_i : scal (.int .i64 n) = true := (rfl)
@[go_sem] theorem isU_i : isU (.int .i64 n) = false := (rfl)
@[go_sem] theorem cellOk_i : cellOk (.int .i64 n) = true := (rfl)
@[go_sem] theorem cells_i : (Value.int .i64 n).cells = #[.int .i64 n] := (rfl)
@[go_sem] theorem stc_i : stc 1 (.int .i64 n) = some [.int .i64 n] := (rfl)
@[go_sem] theorem stc_b (b : Bool) : stc 1 (.bool b) = some [.bool b] := (rfl)
@[go_sem] theorem stc_slice (p : Option Addr) (m n : Nat) : stc 1 (.slice p m n) = some [.slice p m n] := (rfl)
@[go_sem] theorem stc_ptr (p : Option Addr) : stc 1 (.pointer p) = some [.pointer p] := (rfl)
@[go_sem] theorem isU_b (b : Bool) : isU (.bool b) = false := (rfl)
@[go_sem] theorem isU_slice (p : Option Addr) (m n : Nat) : isU (.slice p m n) = false := (rfl)
@[go_sem] theorem isU_ptr (p : Option Addr) : isU (.pointer p) = false := (rfl)
@[go_sem] theorem isU_func (f : Fn) (x y : Array Value) : isU (.func f x y) = false := (rfl)
@[go_sem] theorem isU_agg (x : Array Value) : isU (.agg x) = false := (rfl)
@[go_sem] theorem cells_agg (x : Array Value) : (Value.agg x).cells = x := (rfl)
@[go_sem] theorem cells_slice (p : Option Addr) (m n : Nat) : (Value.slice p m n).cells = #[.slice p m n] := (rfl)
@[go_sem] theorem cells_ptr (p : Option Addr) : (Value.pointer p).cells = #[.pointer p] := (rfl)
@[go_sem] theorem cells_b (b : Bool) : (Value.bool b).cells = #[.bool b] := (rfl)
@[go_sem] theorem ev_bool (b : Bool) : ev a (.const (.bool b)) = .bool b := by simp [ev, scal]
@[go_sem] theorem ev_nilS : ev a (.const (.slice none 0 0)) = .slice none 0 0 := by simp [ev, scal]
@[go_sem] theorem ev_nilP : ev a (.const (.pointer none)) = .pointer none := by simp [ev, scal]
@[go_sem] theorem ev_nilF : ev a (.const .nilFunc) = .nilFunc := by simp [ev, scal]
@[go_sem] theorem ev_str (s : ByteArray) : ev a (.const (.string s)) = .string s := by simp [ev, scal]
@[go_sem] theorem ev_tmp (k : Nat) : ev a (.tmp k) = a k := (rfl)
@[go_sem] theorem ev_func (f : FuncId) : ev a (.func f) = .func (.func f) #[] #[] := (rfl)
end

/-! ### Slots -/
@[go_sem] theorem put_at (n : Nat) (a : AAct) (d t : Nat) (v : Value) : put n a (some d) v t = if t = d then (if d < n then v else a t) else a t := by
  simp only [put]
  by_cases h1 : d < n <;> by_cases h2 : t = d <;> simp [h1, h2]
@[go_sem] theorem put_no (n : Nat) (a : AAct) (v : Value) : put n a none v = a := (rfl)
@[go_sem] theorem enter_0 (x : Value) (l : List Value) : enterA (x :: l) 0 = x := (rfl)
@[go_sem] theorem enter_s (x : Value) (l : List Value) (t : Nat) : enterA (x :: l) (t + 1) = enterA l t := (rfl)
@[go_sem] theorem enter_n (t : Nat) : enterA [] t = undef := (rfl)

/-! ### Codes -/
section
variable {P : Program} {N n : Nat} {No : Option Nat} {fn : FuncId} {top : Bool} {Q : Post} {R : AAct → Heap → Prop} {K : Value → Heap → Prop} {a : AAct} {H : Heap}

@[go_sem] theorem wp_skip : wp P N fn n top .skip Q a H = Q .normal a H := (rfl)
@[go_sem] theorem wp_region (id : Nat) (l : List Oper) : wp P N fn n top (.region id ⟨l⟩ false) Q a H = wl P (some N) n ⟨l⟩ l (Q .normal) a H := (rfl)
@[go_sem] theorem wp_draw (id : Nat) (l : List Oper) : wp P N fn n top (.region id ⟨l⟩ true) Q a H = drawK P N n ⟨l⟩ (Q .normal) a H := (rfl)
@[go_sem] theorem wp_seq (x y : Code) : wp P N fn n top (.seq x y) Q a H = wp P N fn n top x (seqK (wp P N fn n top y Q) Q) a H := (rfl)
@[go_sem] theorem wp_cond (c : Operand) (x y : Code) : wp P N fn n top (.cond c x y) Q a H = condK (ev a c) (wp P N fn n top x Q) (wp P N fn n top y Q) a H := (rfl)
@[go_sem] theorem wp_block (id : Nat) (c : Code) : wp P N fn n top (.block id c) Q a H = wp P N fn n top c (blockK id Q) a H := (rfl)
@[go_sem] theorem wp_exit (id : Nat) : wp P N fn n top (.exit id) Q a H = Q (.exit id) a H := (rfl)
@[go_sem] theorem wp_ret : wp P N fn n top .ret Q a H = Q .ret a H := (rfl)
@[go_sem] theorem seqK_normal : seqK R Q .normal a H = R a H := (rfl)
@[go_sem] theorem seqK_exit (id : Nat) : seqK R Q (.exit id) a H = Q (.exit id) a H := (rfl)
@[go_sem] theorem seqK_ret : seqK R Q .ret a H = Q .ret a H := (rfl)
@[go_sem] theorem blockK_normal (id : Nat) : blockK id Q .normal a H = Q .normal a H := (rfl)
@[go_sem] theorem blockK_exit (id k : Nat) : blockK id Q (.exit k) a H = if k = id then Q .normal a H else Q (.exit k) a H := by
  unfold blockK
  by_cases h : k = id <;> simp [h]
@[go_sem] theorem blockK_ret (id : Nat) : blockK id Q .ret a H = Q .ret a H := (rfl)
@[go_sem] theorem backK_normal (I : Nat → AAct → Heap → Prop) (m : Nat) : backK I m Q .normal a H = ∃ m', m' < m ∧ I m' a H := (rfl)
@[go_sem] theorem backK_exit (I : Nat → AAct → Heap → Prop) (m id : Nat) : backK I m Q (.exit id) a H = Q (.exit id) a H := (rfl)
@[go_sem] theorem backK_ret (I : Nat → AAct → Heap → Prop) (m : Nat) : backK I m Q .ret a H = Q .ret a H := (rfl)
@[go_sem] theorem condK_bool (b : Bool) (X Y : AAct → Heap → Prop) : condK (.bool b) X Y a H = ((b = true → X a H) ∧ (b = false → Y a H)) := (rfl)
@[go_sem] theorem retK_normal (rs : List ResultVar) (Q : Value → Heap → Prop) : retK P rs Q .normal a H = optK (resA P rs a H) H Q := by simp [retK]
@[go_sem] theorem retK_ret (rs : List ResultVar) (Q : Value → Heap → Prop) : retK P rs Q .ret a H = optK (resA P rs a H) H Q := by simp [retK]
@[go_sem] theorem resA_0 : resA P [] a H = some (.tuple #[]) := (rfl)
@[go_sem] theorem resA_1 (t : Nat) : resA P [.tmp t] a H = some (a t) := (rfl)
@[go_sem] theorem resA_2 (t s : Nat) : resA P [.tmp t, .tmp s] a H = some (.tuple #[a t, a s]) := (rfl)
@[go_sem] theorem resA_3 (t s r : Nat) : resA P [.tmp t, .tmp s, .tmp r] a H = some (.tuple #[a t, a s, a r]) := (rfl)
@[go_sem] theorem resA_4 (t s r q : Nat) : resA P [.tmp t, .tmp s, .tmp r, .tmp q] a H = some (.tuple #[a t, a s, a r, a q]) := (rfl)

@[go_sem] theorem wl_nil (ops : Array Oper) : wl P No n ops [] R a H = R a H := (rfl)
@[go_sem] theorem wl_some (ops : Array Oper) (d : Option Nat) (op : Op) (t : TypeId) (pos : String) (af : Array Edge) (rest : List Oper) :
    wl P (some N) n ops (⟨d, op, t, pos, af, none⟩ :: rest) R a H = wop P N op a H (nextK P (some N) n ops rest d a R) := (rfl)
@[go_sem] theorem wl_none (ops : Array Oper) (d : Option Nat) (op : Op) (t : TypeId) (pos : String) (af : Array Edge) (rest : List Oper) :
    wl P none n ops (⟨d, op, t, pos, af, none⟩ :: rest) R a H = wop P H.size op a H (nextK P none n ops rest d a R) := (rfl)
/-- A guarded operation. -/
def guardK (P : Program) (No : Option Nat) (n : Nat) (ops : Array Oper) (g : Option Value) (w : Bool) (d : Option Nat) (op : Op) (rest : List Oper) (R : AAct → Heap → Prop) (a : AAct) (H : Heap) : Prop :=
  match g with
  | some (.bool b) => (b = w → wop P (No.getD H.size) op a H (nextK P No n ops rest d a R)) ∧ (b ≠ w → wl P No n ops rest R (put n a d undef) H)
  | some (.tuple ⟨[]⟩) => wl P No n ops rest R (put n a d undef) H
  | _ => False
@[go_sem] theorem wl_guard (ops : Array Oper) (d : Option Nat) (op : Op) (t : TypeId) (pos : String) (af : Array Edge) (j : Nat) (w : Bool) (rest : List Oper) :
    wl P No n ops (⟨d, op, t, pos, af, some (j, w)⟩ :: rest) R a H = guardK P No n ops (((ops[j]?).bind (·.dst)).map a) w d op rest R a H := by
  apply propext
  unfold wl wantedA guardK nextK
  simp only
  cases (ops[j]?).bind (·.dst) with
  | none => simp
  | some s =>
    simp only [Option.map_some]
    split
    · rename_i v hv
      split at hv
      · rename_i b hb
        simp only [hb]
        simp at hv
        subst hv
        simp
      · simp at hv
      · simp at hv
    · rename_i v hv
      split at hv
      · rename_i b hb
        simp only [hb]
        simp at hv
        simp [hv]
      · rename_i hb; simp only [hb]
      · simp at hv
    · rename_i v hv
      split at hv
      · simp at hv
      · simp at hv
      · rename_i h1 h2
        constructor
        · exact fun h => h.elim
        · intro h
          split at h
          · rename_i b hb; exact h1 b (Option.some.inj hb)
          · rename_i hb; exact h2 (Option.some.inj hb)
          · exact h
@[go_sem] theorem guardK_b (ops : Array Oper) (b w : Bool) (d : Option Nat) (op : Op) (rest : List Oper) : guardK P No n ops (some (.bool b)) w d op rest R a H =
    ((b = w → wop P (No.getD H.size) op a H (nextK P No n ops rest d a R)) ∧ (b ≠ w → wl P No n ops rest R (put n a d undef) H)) := (rfl)
@[go_sem] theorem guardK_u (ops : Array Oper) (w : Bool) (d : Option Nat) (op : Op) (rest : List Oper) : guardK P No n ops (some undef) w d op rest R a H = wl P No n ops rest R (put n a d undef) H := (rfl)
@[go_sem] theorem nextK_eq (ops : Array Oper) (rest : List Oper) (d : Option Nat) (v : Value) : nextK P No n ops rest d a R v H = wl P No n ops rest R (put n a d v) H := (rfl)

@[congr] theorem nextK_congr (ops : Array Oper) (rest : List Oper) (d : Option Nat) : nextK P No n ops rest d a R = nextK P No n ops rest d a R := rfl
@[congr] theorem seqK_congr : seqK R Q = seqK R Q := rfl
@[congr] theorem blockK_congr (id : Nat) : blockK id Q = blockK id Q := rfl
@[congr] theorem backK_congr (I : Nat → AAct → Heap → Prop) (m : Nat) : backK I m Q = backK I m Q := rfl
@[congr] theorem retK_congr (rs : List ResultVar) (Q : Value → Heap → Prop) : retK P rs Q = retK P rs Q := rfl
@[congr] theorem wl_congr (ops : Array Oper) (l : List Oper) {a' : AAct} {H' : Heap} (h1 : a = a') (h2 : H = H') : wl P No n ops l R a H = wl P No n ops l R a' H' := by rw [h1, h2]
@[congr] theorem wop_congr (op : Op) {a' : AAct} {H' : Heap} (h1 : a = a') (h2 : H = H') : wop P N op a H K = wop P N op a' H' K := by rw [h1, h2]
@[congr] theorem wp_congr (c : Code) {a' : AAct} {H' : Heap} (h1 : a = a') (h2 : H = H') : wp P N fn n top c Q a H = wp P N fn n top c Q a' H' := by rw [h1, h2]
@[congr] theorem condK_congr (X Y : AAct → Heap → Prop) {c c' : Value} {a' : AAct} {H' : Heap} (h0 : c = c') (h1 : a = a') (h2 : H = H') : condK c X Y a H = condK c' X Y a' H' := by rw [h0, h1, h2]
@[congr] theorem drawK_congr (ops : Array Oper) {a' : AAct} {H' : Heap} (h1 : a = a') (h2 : H = H') : drawK P N n ops R a H = drawK P N n ops R a' H' := by rw [h1, h2]
@[congr] theorem guardK_congr (ops : Array Oper) (w : Bool) (d : Option Nat) (op : Op) (rest : List Oper) {g g' : Option Value} {a' : AAct} {H' : Heap} (h0 : g = g') (h1 : a = a') (h2 : H = H') :
    guardK P No n ops g w d op rest R a H = guardK P No n ops g' w d op rest R a' H' := by rw [h0, h1, h2]

/-- A drawn region: how many of its operations leave all as it is. -/
theorem drawK_mk (k : Nat) (l : List Oper) (hf : P.follows .mixedOrders = true) (h1 : (Nat.ble k l.length && drawOk ⟨l⟩ k) = true) (h : wl P none n ⟨l⟩ (l.take k) (wl P (some N) n ⟨l⟩ (l.drop k) R) a H) : drawK P N n ⟨l⟩ R a H := by
  simp only [Bool.and_eq_true, Nat.ble_eq] at h1
  exact .inl ⟨k, ⟨by simpa using h1.1, .inr hf, h1.2⟩, h⟩
theorem drawL_mk (k : Nat) (st : List Nat) (N2 : Nat) (l : List Oper) (hf : P.follows .mixedOrders = true) (h1 : (Nat.ble k l.length && drawOkS ⟨l⟩ k st) = true) (g1 : N ≤ N2) (g2 : N2 ≤ H.size)
    (g3 : ∀ j ∈ st, ∀ t r, ((Array.mk l).getD j default).op = .load t (.tmp r) → ∃ b o, a r = .pointer (some ⟨b, o, none⟩) ∧ b < N2) (h : wl P none n ⟨l⟩ (l.take k) (wl P (some N2) n ⟨l⟩ (l.drop k) R) a H) : drawK P N n ⟨l⟩ R a H := by
  simp only [Bool.and_eq_true, Nat.ble_eq] at h1
  exact .inr (.inl ⟨k, st, N2, ⟨by simpa using h1.1, .inr hf, h1.2, g1, g2, g3⟩, h⟩)

/-! ### Operations -/
variable (x y : Operand)
@[go_sem] theorem wop_move : wop P N (.move x) a H K = K (ev a x) H := (rfl)
@[go_sem] theorem wop_assign : wop P N (.assign x) a H K = K (ev a x) H := (rfl)
@[go_sem] theorem wop_pick (c : Operand) : wop P N (.pick c x y) a H K = pickK (ev a c) (ev a x) (ev a y) H K := (rfl)
@[go_sem] theorem wop_alloc (t : TypeId) : wop P N (.alloc t) a H K = allocK P t H K := (rfl)
@[go_sem] theorem wop_box (t : TypeId) : wop P N (.box t x) a H K = boxK (ev a x) H K := (rfl)
@[go_sem] theorem wop_build (t : TypeId) (l : List (Nat × Operand)) : wop P N (.build t ⟨l⟩) a H K = optK (buildA P t (l.map fun p => (p.1, ev a p.2))) H K := (rfl)
@[go_sem] theorem wop_buildSlice (t : TypeId) (len : Nat) (l : List (Nat × Operand)) : wop P N (.buildSlice t len ⟨l⟩) a H K = buildSliceK P t len (l.map fun p => (p.1, ev a p.2)) H K := (rfl)
@[go_sem] theorem wop_load (t : TypeId) : wop P N (.load t x) a H K = loadK P t (ev a x) H K := (rfl)
@[go_sem] theorem wop_store (t : TypeId) : wop P N (.store t x y) a H K = storeK P N t (ev a x) (ev a y) H K := (rfl)
@[go_sem] theorem wop_nilCheck : wop P N (.nilCheck x) a H K = nilCheckK (ev a x) H K := (rfl)
@[go_sem] theorem wop_bin (op : BinOp) (t t' : TypeId) : wop P N (.binOp op t x y t') a H K = optK (binA P op t (ev a x) (ev a y)) H K := (rfl)
@[go_sem] theorem wop_un (op : UnOp) (t : TypeId) : wop P N (.unOp op t x) a H K = optK (unA op (ev a x)) H K := (rfl)
@[go_sem] theorem wop_conv (s t : TypeId) : wop P N (.convert s t x) a H K = convTo (P.underlying t) (P.underlying s) (ev a x) H K (restK P N s t (ev a x) H K) := (rfl)
@[go_sem] theorem wop_slice (t : TypeId) (lo hi mx : Option Operand) : wop P N (.slice t x lo hi mx) a H K = optK (sliceA P t (ev a x) (lo.map (ev a)) (hi.map (ev a)) (mx.map (ev a))) H K := (rfl)
@[go_sem] theorem wop_fieldAddr (t : TypeId) (f : Nat) : wop P N (.fieldAddr t x f) a H K = optK (fieldAddrA P t (ev a x) f) H K := (rfl)
@[go_sem] theorem wop_field (t : TypeId) (f : Nat) : wop P N (.field t x f) a H K = optK (fieldA P t (ev a x) f) H K := (rfl)
@[go_sem] theorem wop_indexAddr (t : TypeId) : wop P N (.indexAddr t x y) a H K = optK (indexAddrA P t (ev a x) (ev a y)) H K := (rfl)
@[go_sem] theorem wop_index (t : TypeId) : wop P N (.index t x y) a H K = optK (indexA P t (ev a x) (ev a y)) H K := (rfl)
@[go_sem] theorem wop_extract (i : Nat) : wop P N (.extract x i) a H K = extractK (ev a x) i H K := (rfl)
@[go_sem] theorem wop_call_f (f : FuncId) (args : List Operand) (ts : Array TypeId) : wop P N (.call ⟨.value (.func f), ⟨args⟩, ts⟩) a H K = callK P N (.func f) (args.map (ev a)) H K := by
  show callK P N (.func f) (args.map (ev a) ++ []) H K = _
  rw [List.append_nil]
/-- A call of a function's value. -/
def callV (P : Program) (N : Nat) (f : Value) (args : List Value) (H : Heap) (K : Value → Heap → Prop) : Prop :=
  match f with
  | .func fn ⟨[]⟩ cap => callK P N fn (args ++ cap.toList) H K
  | _ => False
@[go_sem] theorem wop_call_t (t : Nat) (args : List Operand) (ts : Array TypeId) : wop P N (.call ⟨.value (.tmp t), ⟨args⟩, ts⟩) a H K = callV P N (a t) (args.map (ev a)) H K := (rfl)
@[go_sem] theorem callV_func (fn : Fn) (args cap : List Value) : callV P N (.func fn ⟨[]⟩ ⟨cap⟩) args H K = callK P N fn (args ++ cap) H K := (rfl)
@[go_sem] theorem wop_len (t : TypeId) : wop P N (.call ⟨.builtin .len, ⟨[x]⟩, ⟨[t]⟩⟩) a H K = lenK P t (ev a x) H K := (rfl)
@[go_sem] theorem wop_append (t t' : TypeId) : wop P N (.call ⟨.builtin .append, ⟨[x, y]⟩, ⟨[t, t']⟩⟩) a H K = (match P.underlying t' with
      | some (.int _) => appendZK P N t (ev a x) (ev a y) H K
      | _ => appendK P N t t' (ev a x) (ev a y) H K) := (rfl)
@[go_sem] theorem wop_copy (t t' : TypeId) : wop P N (.call ⟨.builtin .copy, ⟨[x, y]⟩, ⟨[t, t']⟩⟩) a H K = copyK P N t (ev a x) (ev a y) H K := (rfl)
@[go_sem] theorem wop_min (ts : Array TypeId) : wop P N (.call ⟨.builtin .min, ⟨[x, y]⟩, ts⟩) a H K = minK (ev a x) (ev a y) H K := (rfl)
@[go_sem] theorem wop_max (ts : Array TypeId) : wop P N (.call ⟨.builtin .max, ⟨[x, y]⟩, ts⟩) a H K = maxK (ev a x) (ev a y) H K := (rfl)

@[go_sem] theorem optK_some (v : Value) : optK (some v) H K = K v H := (rfl)
@[go_sem] theorem pickK_b (b : Bool) (x y : Value) : pickK (.bool b) x y H K = K (if b then x else y) H := (rfl)
@[go_sem] theorem extractK_t (l : List Value) (i : Nat) : extractK (.tuple ⟨l⟩) i H K = optK l[i]? H K := by
  show optK (l.toArray[i]?) H K = _
  rw [List.getElem?_toArray]
@[go_sem] theorem nilCheckK_p (ad : Addr) : nilCheckK (.pointer (some ad)) H K = K (.pointer (some ad)) H := (rfl)
@[go_sem] theorem minK_i (k : IntKind) (m n : Int) : minK (.int k m) (.int k n) H K = K (.int k (if n < m then n else m)) H := by simp [minK]
@[go_sem] theorem maxK_i (k : IntKind) (m n : Int) : maxK (.int k m) (.int k n) H K = K (.int k (if n > m then n else m)) H := by simp [maxK]
end

end Go.Proofs.Ytcapjjmikapmfaa.M
