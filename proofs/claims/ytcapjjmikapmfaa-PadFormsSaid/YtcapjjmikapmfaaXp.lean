/- Padding: what the functions of pad compute, in plain lists. -/
import Derived.Test.YtcapjjmikapmfaaMz
import Derived.Test.YtcapjjmikapmfaaXw
set_option linter.unusedVariables false
set_option linter.unusedSimpArgs false
namespace Go.Proofs.Ytcapjjmikapmfaa.M
open Go Go.Proofs

def padUp : Nat → Int → Int → Int
  | 0, s, _ => s
  | f + 1, s, n => if s < n then padUp f (s * 2) n else s
def padSize (n : Int) : Int := if n < 0 ∨ 4096 < n then 0 else padUp 7 64 (n + 2)

theorem padSize_spec {n : Int} (h0 : 0 ≤ n) (h1 : n ≤ 4096) : ∃ s : Int, padSize n = s ∧ (s = 64 ∨ s = 128 ∨ s = 256 ∨ s = 512 ∨ s = 1024 ∨ s = 2048 ∨ s = 4096 ∨ s = 8192) ∧ n + 2 ≤ s ∧ (s = 64 ∨ s < 2 * (n + 2)) := by
  refine ⟨_, rfl, ?_⟩
  unfold padSize
  rw [if_neg (by omega)]
  simp only [padUp]
  repeat' split
  all_goals omega

def headN (xs : List (BitVec 8)) : Nat := 256 * (xs.getD 0 0#8).toNat + (xs.getD 1 0#8).toNat

def wrapB (xs : List (BitVec 8)) : List (BitVec 8) := BitVec.ofNat 8 (xs.length / 256) :: BitVec.ofNat 8 xs.length :: (xs ++ List.replicate ((padSize xs.length).toNat - (2 + xs.length)) 0#8)
def unwrapE (xs : List (BitVec 8)) : Int :=
  if xs.length < 2 then 2 else if (xs.length : Int) ≠ padSize (headN xs) then 3 else if (xs.drop (2 + headN xs)).all (· == 0#8) then 0 else 3
def unwrapB (xs : List (BitVec 8)) : List (BitVec 8) := if unwrapE xs = 0 then (xs.drop 2).take (headN xs) else []

theorem head_or (x y : BitVec 8) : IntKind.i64.wrap (BitVec.ofInt 64 (IntKind.i64.wrap ((x.toNat : Nat) * 2 ^ min (8#64).toNat 64)) ||| BitVec.ofInt 64 (y.toNat : Nat)).toNat = (256 * x.toNat + y.toNat : Nat) := by
  have hx := x.isLt
  have hy := y.isLt
  have e1 : ((x.toNat : Nat) : Int) * 2 ^ min (8#64).toNat 64 = ((2 ^ 8 * x.toNat : Nat) : Int) := by
    have : min (8#64).toNat 64 = 8 := rfl
    rw [this]; omega
  have e2 : IntKind.i64.wrap ((2 ^ 8 * x.toNat : Nat) : Int) = ((2 ^ 8 * x.toNat : Nat) : Int) := wrap_i64 _ (by omega) (by omega)
  rw [e1, e2, BitVec.toNat_or, BitVec.ofInt_natCast, BitVec.ofInt_natCast, BitVec.toNat_ofNat, BitVec.toNat_ofNat, Nat.mod_eq_of_lt (by omega), Nat.mod_eq_of_lt (by omega), ← Nat.two_pow_add_eq_or_of_lt hy, wrap_i64 _ (by omega) (by omega)]

theorem highAt_2 {xs : List (BitVec 8)} (h : 2 ≤ xs.length) : (highAt xs 0 2).toInt = (headN xs : Nat) := by
  have e0 : byteAt xs 0 0 = xs.getD 0 0#8 := by
    rw [byteAt_get (by omega), List.getD_eq_getElem?_getD, List.getElem?_eq_getElem (by omega)]; rfl
  have e1 : byteAt xs 0 1 = xs.getD 1 0#8 := by
    rw [byteAt_get (by omega), List.getD_eq_getElem?_getD, List.getElem?_eq_getElem (by omega)]; rfl
  have e : highAt xs 0 2 = (0#64 <<< 8 ||| (byteAt xs 0 0).setWidth 64) <<< 8 ||| (byteAt xs 0 1).setWidth 64 := rfl
  rw [e, e0, e1]
  unfold headN
  generalize xs.getD 0 0#8 = x
  generalize xs.getD 1 0#8 = y
  have hx := x.isLt
  have hy := y.isLt
  have hn : ((0#64 <<< 8 ||| x.setWidth 64) <<< 8 ||| y.setWidth 64).toNat = 256 * x.toNat + y.toNat := by
    rw [BitVec.toNat_or, BitVec.toNat_shiftLeft, BitVec.toNat_or, BitVec.toNat_setWidth, BitVec.toNat_setWidth]
    have : (0#64 <<< 8).toNat = 0 := rfl
    rw [this, Nat.zero_or, Nat.mod_eq_of_lt (a := x.toNat) (by omega), Nat.mod_eq_of_lt (a := y.toNat) (by omega), Nat.shiftLeft_eq, Nat.mod_eq_of_lt (by omega), Nat.mul_comm, ← Nat.two_pow_add_eq_or_of_lt hy]
  rw [BitVec.toInt_eq_toNat_of_lt (by rw [hn]; omega), hn]

theorem wrapB_length {xs : List (BitVec 8)} (h : xs.length ≤ 4096) : (wrapB xs).length = (padSize xs.length).toNat := by
  obtain ⟨s, h1, h2, h3, h4⟩ := padSize_spec (n := (xs.length : Nat)) (by omega) (by omega)
  simp [wrapB, h1]; omega
theorem headN_wrap {xs : List (BitVec 8)} (h : xs.length ≤ 4096) : headN (wrapB xs) = xs.length := by
  simp [headN, wrapB]; omega
theorem unwrapE_wrap {xs : List (BitVec 8)} (h : xs.length ≤ 4096) : unwrapE (wrapB xs) = 0 := by
  obtain ⟨s, h1, h2, h3, h4⟩ := padSize_spec (n := (xs.length : Nat)) (by omega) (by omega)
  have hl := wrapB_length h
  unfold unwrapE
  rw [headN_wrap h, h1, hl, h1, if_neg (by omega), if_neg (by omega), if_pos]
  have e : (wrapB xs).drop (2 + xs.length) = List.replicate ((padSize xs.length).toNat - (2 + xs.length)) 0#8 := by
    rw [Nat.add_comm 2 xs.length, wrapB, List.drop_succ_cons, List.drop_succ_cons, List.drop_append_of_le_length (Nat.le_refl _), List.drop_length, List.nil_append, Nat.add_comm 2 xs.length]
  rw [e]
  simp
theorem unwrapB_wrap {xs : List (BitVec 8)} (h : xs.length ≤ 4096) : unwrapB (wrapB xs) = xs := by
  unfold unwrapB
  rw [if_pos (unwrapE_wrap h), headN_wrap h]
  simp [wrapB]
theorem unwrapB_length (xs : List (BitVec 8)) : (unwrapB xs).length ≤ xs.length := by
  unfold unwrapB
  split <;> simp
  omega

end Go.Proofs.Ytcapjjmikapmfaa.M
