/- SHA-256, in plain lists of words. -/
import Derived.Test.YtcapjjmikapmfaaSf
set_option linter.unusedVariables false
set_option linter.unusedSimpArgs false
namespace Go.Proofs.Ytcapjjmikapmfaa.M
open Go Go.Proofs

structure St where
  a : BitVec 32
  b : BitVec 32
  c : BitVec 32
  d : BitVec 32
  e : BitVec 32
  f : BitVec 32
  g : BitVec 32
  h : BitVec 32

def St.list (s : St) : List (BitVec 32) := [s.a, s.b, s.c, s.d, s.e, s.f, s.g, s.h]
theorem St.list_length (s : St) : s.list.length = 8 := rfl
def St.add (s v : St) : St := ⟨s.a + v.a, s.b + v.b, s.c + v.c, s.d + v.d, s.e + v.e, s.f + v.f, s.g + v.g, s.h + v.h⟩
theorem St.add_list (s v : St) : (s.add v).list = List.zipWith (· + ·) s.list v.list := rfl

def st0 : St := ⟨0x6a09e667#32, 0xbb67ae85#32, 0x3c6ef372#32, 0xa54ff53a#32, 0x510e527f#32, 0x9b05688c#32, 0x1f83d9ab#32, 0x5be0cd19#32⟩

def sums : List (BitVec 32) := [
  0x428a2f98#32, 0x71374491#32, 0xb5c0fbcf#32, 0xe9b5dba5#32, 0x3956c25b#32, 0x59f111f1#32, 0x923f82a4#32, 0xab1c5ed5#32,
  0xd807aa98#32, 0x12835b01#32, 0x243185be#32, 0x550c7dc3#32, 0x72be5d74#32, 0x80deb1fe#32, 0x9bdc06a7#32, 0xc19bf174#32,
  0xe49b69c1#32, 0xefbe4786#32, 0x0fc19dc6#32, 0x240ca1cc#32, 0x2de92c6f#32, 0x4a7484aa#32, 0x5cb0a9dc#32, 0x76f988da#32,
  0x983e5152#32, 0xa831c66d#32, 0xb00327c8#32, 0xbf597fc7#32, 0xc6e00bf3#32, 0xd5a79147#32, 0x06ca6351#32, 0x14292967#32,
  0x27b70a85#32, 0x2e1b2138#32, 0x4d2c6dfc#32, 0x53380d13#32, 0x650a7354#32, 0x766a0abb#32, 0x81c2c92e#32, 0x92722c85#32,
  0xa2bfe8a1#32, 0xa81a664b#32, 0xc24b8b70#32, 0xc76c51a3#32, 0xd192e819#32, 0xd6990624#32, 0xf40e3585#32, 0x106aa070#32,
  0x19a4c116#32, 0x1e376c08#32, 0x2748774c#32, 0x34b0bcb5#32, 0x391c0cb3#32, 0x4ed8aa4a#32, 0x5b9cca4f#32, 0x682e6ff3#32,
  0x748f82ee#32, 0x78a5636f#32, 0x84c87814#32, 0x8cc70208#32, 0x90befffa#32, 0xa4506ceb#32, 0xbef9a3f7#32, 0xc67178f2#32]

def sig0 (x : BitVec 32) : BitVec 32 := rot x (-7) ^^^ rot x (-18) ^^^ x >>> 3
def sig1 (x : BitVec 32) : BitVec 32 := rot x (-17) ^^^ rot x (-19) ^^^ x >>> 10
def wordAt (b : List (BitVec 8)) (i : Nat) : BitVec 32 := rev32 ((lowAt b (i : Int) 4).setWidth 32)

def schedW (b : List (BitVec 8)) (k : Nat) (l : List (BitVec 32)) : BitVec 32 :=
  if k < 16 then wordAt b (4 * k) else sig1 (l.getD (k - 2) 0#32) + l.getD (k - 7) 0#32 + sig0 (l.getD (k - 15) 0#32) + l.getD (k - 16) 0#32
def sched (b : List (BitVec 8)) : Nat → List (BitVec 32)
  | 0 => []
  | k + 1 => let l := sched b k; l ++ [schedW b k l]
theorem sched_succ (b : List (BitVec 8)) (k : Nat) : sched b (k + 1) = sched b k ++ [schedW b k (sched b k)] := rfl
theorem sched_length (b : List (BitVec 8)) : ∀ k, (sched b k).length = k
  | 0 => rfl
  | k + 1 => by rw [sched_succ, List.length_append, sched_length b k]; rfl

def rnd (v : St) (k w : BitVec 32) : St :=
  let one := v.h + (rot v.e (-6) ^^^ rot v.e (-11) ^^^ rot v.e (-25)) + (v.e &&& v.f ^^^ ~~~v.e &&& v.g) + k + w
  let two := (rot v.a (-2) ^^^ rot v.a (-13) ^^^ rot v.a (-22)) + (v.a &&& v.b ^^^ v.a &&& v.c ^^^ v.b &&& v.c)
  ⟨one + two, v.a, v.b, v.c, v.d + one, v.e, v.f, v.g⟩

def rnds (w : List (BitVec 32)) (s : St) : Nat → St
  | 0 => s
  | k + 1 => rnd (rnds w s k) (sums.getD k 0#32) (w.getD k 0#32)

def comp (s : St) (b : List (BitVec 8)) : St := s.add (rnds (sched b 64) s 64)

/-- So many blocks. -/
def absorbN : Nat → St → List (BitVec 8) → St
  | 0, s, _ => s
  | n + 1, s, m => absorbN n (comp s (m.take 64)) (m.drop 64)
def absorb (s : St) (m : List (BitVec 8)) : St := absorbN (m.length / 64) s m

def highBytes32 (x : BitVec 32) : List (BitVec 8) := lowBytes ((rev32 x).setWidth 64) 4
def highBytes64 (x : BitVec 64) : List (BitVec 8) := (lowBytes x 8).reverse
def padding (n : Nat) : List (BitVec 8) := 0x80#8 :: (List.replicate ((119 - n % 64) % 64) 0#8 ++ highBytes64 (BitVec.ofNat 64 (8 * n)))
def St.bytes (s : St) : List (BitVec 8) := s.list.flatMap highBytes32
def sha (b : List (BitVec 8)) : List (BitVec 8) := (absorb st0 (b ++ padding b.length)).bytes

theorem absorbN_add (m n : Nat) : ∀ (s : St) (b : List (BitVec 8)), absorbN (m + n) s b = absorbN n (absorbN m s b) (b.drop (64 * m)) := by
  induction m with
  | zero => intro s b; simp [absorbN]
  | succ m ih =>
    intro s b
    rw [show m + 1 + n = (m + n) + 1 by omega]
    simp only [absorbN]
    rw [ih, List.drop_drop]
    congr 2; omega
theorem absorbN_left (n : Nat) : ∀ (s : St) (b c : List (BitVec 8)), 64 * n ≤ b.length → absorbN n s (b ++ c) = absorbN n s b := by
  induction n with
  | zero => intros; rfl
  | succ n ih =>
    intro s b c h
    simp only [absorbN]
    rw [List.take_append_of_le_length (by omega), List.drop_append_of_le_length (by omega)]
    exact ih _ _ _ (by simp; omega)

/-- What is left when whole blocks are taken. -/
def rest (b : List (BitVec 8)) : List (BitVec 8) := b.drop (64 * (b.length / 64))
theorem rest_length (b : List (BitVec 8)) : (rest b).length = b.length % 64 := by simp [rest]; omega
theorem absorb_append (s : St) (b c : List (BitVec 8)) : absorb s (b ++ c) = absorb (absorb s b) (rest b ++ c) := by
  have hr := rest_length b
  have h1 : (b ++ c).length / 64 = b.length / 64 + (rest b ++ c).length / 64 := by simp [hr]; omega
  unfold absorb
  rw [h1, absorbN_add, absorbN_left _ _ _ _ (by omega), List.drop_append_of_le_length (by omega)]
  rfl
theorem rest_append (b c : List (BitVec 8)) : rest (b ++ c) = rest (rest b ++ c) := by
  have hr := rest_length b
  unfold rest at hr ⊢
  have h1 : (b ++ c).length / 64 = b.length / 64 + (b.drop (64 * (b.length / 64)) ++ c).length / 64 := by simp at hr ⊢; omega
  rw [h1, Nat.mul_add, ← List.drop_drop, List.drop_append_of_le_length (by omega)]
theorem absorb_short (s : St) {b : List (BitVec 8)} (h : b.length < 64) : absorb s b = s := by
  unfold absorb; rw [Nat.div_eq_of_lt h]; rfl
theorem rest_short {b : List (BitVec 8)} (h : b.length < 64) : rest b = b := by
  unfold rest; rw [Nat.div_eq_of_lt h]; rfl
theorem absorb_long (s : St) {b : List (BitVec 8)} (h : 64 ≤ b.length) : absorb s b = absorb (comp s (b.take 64)) (b.drop 64) := by
  unfold absorb
  rw [show b.length / 64 = (b.drop 64).length / 64 + 1 by simp; omega]
  rfl
theorem rest_long {b : List (BitVec 8)} (h : 64 ≤ b.length) : rest b = rest (b.drop 64) := by
  unfold rest
  rw [List.drop_drop, List.length_drop]
  congr 1; omega
theorem padding_length (n : Nat) : (n + (padding n).length) % 64 = 0 ∧ 9 ≤ (padding n).length ∧ (padding n).length ≤ 72 := by
  simp [padding, highBytes64, lowBytes_length]; omega

end Go.Proofs.Ytcapjjmikapmfaa.M
