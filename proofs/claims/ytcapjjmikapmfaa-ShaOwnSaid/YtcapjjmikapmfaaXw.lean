/- Plain laws of words and bytes. -/
import Derived.Test.YtcapjjmikapmfaaSg
import Derived.Test.YtcapjjmikapmfaaSf
import Derived.Laws.Strings
set_option linter.unusedVariables false
set_option linter.unusedSimpArgs false
namespace Go.Proofs.Ytcapjjmikapmfaa.M
open Go Go.Proofs

/-! ### Texts -/
theorem textOf_toList (xs : List (BitVec 8)) : (textOf xs).toList = xs.map fun b => UInt8.ofNat b.toNat := by
  rw [ByteArray.toList_eq]; simp [textOf]
theorem textOf_inj {xs ys : List (BitVec 8)} (h : (textOf xs).toList = (textOf ys).toList) : xs = ys := by
  rw [textOf_toList, textOf_toList] at h
  apply List.ext_getElem?
  intro k
  have hk := congrArg (fun l : List UInt8 => l[k]?) h
  simp only [List.getElem?_map] at hk
  cases hx : xs[k]? with
  | none => cases hy : ys[k]? with
    | none => rfl
    | some y => rw [hx, hy] at hk; simp at hk
  | some x => cases hy : ys[k]? with
    | none => rw [hx, hy] at hk; simp at hk
    | some y =>
      rw [hx, hy] at hk
      simp only [Option.map_some, Option.some.injEq] at hk
      have := congrArg UInt8.toNat hk
      simp only [UInt8.toNat_ofNat'] at this
      have hx' := x.isLt
      have hy' := y.isLt
      rw [Nat.mod_eq_of_lt hx', Nat.mod_eq_of_lt hy'] at this
      rw [BitVec.eq_of_toNat_eq this]
theorem textOf_beq (xs ys : List (BitVec 8)) : ((textOf xs).toList == (textOf ys).toList) = decide (xs = ys) := by
  by_cases h : xs = ys
  · subst h; simp
  · have : ¬ (textOf xs).toList = (textOf ys).toList := fun e => h (textOf_inj e)
    simp [h, this]

/-! ### The highest byte first -/
def highBytes (x : BitVec 64) (n : Nat) : List (BitVec 8) := (List.range n).map fun i => (x >>> (8 * (n - 1 - i))).setWidth 8
def highAt (xs : List (BitVec 8)) (i : Int) (n : Nat) : BitVec 64 := (List.range n).foldl (fun acc k => acc <<< 8 ||| (byteAt xs i k).setWidth 64) 0#64
theorem highAt_succ (xs : List (BitVec 8)) (i : Int) (n : Nat) : highAt xs i (n + 1) = (highAt xs i n <<< 8 ||| (byteAt xs i n).setWidth 64) := by simp [highAt, List.range_succ]

theorem high32_bytes (x : BitVec 32) : lowBytes ((rev32 x).setWidth 64) 4 = highBytes (x.setWidth 64) 4 := by
  apply List.ext_getElem
  · simp [lowBytes, highBytes]
  · intro i h1 h2
    rw [lowBytes_length] at h1
    have e := rev32_byte x (3 - i) (by omega)
    have e2 : 3 - (3 - i) = i := by omega
    rw [e2] at e
    simp only [lowBytes, highBytes, List.getElem_map, List.getElem_range]
    rw [← e]

theorem high32_at (xs : List (BitVec 8)) (i : Int) : rev32 ((lowAt xs i 4).setWidth 32) = (highAt xs i 4).setWidth 32 := by
  have e1 : lowAt xs i 4 = 0#64 ||| (byteAt xs i 0).setWidth 64 <<< 0 ||| (byteAt xs i 1).setWidth 64 <<< 8 ||| (byteAt xs i 2).setWidth 64 <<< 16 ||| (byteAt xs i 3).setWidth 64 <<< 24 := rfl
  have e2 : highAt xs i 4 = (((0#64 <<< 8 ||| (byteAt xs i 0).setWidth 64) <<< 8 ||| (byteAt xs i 1).setWidth 64) <<< 8 ||| (byteAt xs i 2).setWidth 64) <<< 8 ||| (byteAt xs i 3).setWidth 64 := rfl
  rw [e1, e2]
  generalize byteAt xs i 0 = b0
  generalize byteAt xs i 1 = b1
  generalize byteAt xs i 2 = b2
  generalize byteAt xs i 3 = b3
  apply BitVec.eq_of_getLsbD_eq
  intro i hi
  have h2 : i = 0 ∨ i = 1 ∨ i = 2 ∨ i = 3 ∨ i = 4 ∨ i = 5 ∨ i = 6 ∨ i = 7 ∨ i = 8 ∨ i = 9 ∨ i = 10 ∨ i = 11 ∨ i = 12 ∨ i = 13 ∨ i = 14 ∨ i = 15 ∨ i = 16 ∨ i = 17 ∨ i = 18 ∨ i = 19 ∨ i = 20 ∨ i = 21 ∨ i = 22 ∨ i = 23 ∨ i = 24 ∨ i = 25 ∨ i = 26 ∨ i = 27 ∨ i = 28 ∨ i = 29 ∨ i = 30 ∨ i = 31 := by omega
  rcases h2 with rfl | rfl | rfl | rfl | rfl | rfl | rfl | rfl | rfl | rfl | rfl | rfl | rfl | rfl | rfl | rfl | rfl | rfl | rfl | rfl | rfl | rfl | rfl | rfl | rfl | rfl | rfl | rfl | rfl | rfl | rfl | rfl <;> simp [rev32, BitVec.getLsbD_ushiftRight, BitVec.getLsbD_setWidth]

/-! ### Turns by the document -/
theorem turn_ref (n : Int) (h : -32 < n ∧ n < 32) : BitVec.ofInt 64 (n + 32) % 32#64 = BitVec.ofInt 64 n &&& 31#64 := by
  apply BitVec.eq_of_toNat_eq
  rw [and31, BitVec.toNat_umod, BitVec.toNat_ofInt]
  have h1 : (32#64).toNat = 32 := rfl
  have h2 : ((2 ^ 64 : Nat) : Int) = 18446744073709551616 := rfl
  rw [h1, h2]
  omega

end Go.Proofs.Ytcapjjmikapmfaa.M
