/- Poly1305 in digits of eight bits, as the document has it. -/
import Derived.Test.YtcapjjmikapmfaaPa
set_option linter.unusedVariables false
set_option linter.unusedSimpArgs false
namespace Go.Proofs.Ytcapjjmikapmfaa.M
open Go

def fp (V : Nat) : Nat := V % 2 ^ 130 + 5 * (V / 2 ^ 130)
theorem fp_mod (V : Nat) : fp V % PP = V % PP := by
  rw [← fold_mod V, fp]
  congr 1
  omega
def lowD (V n : Nat) : List Nat := (List.range n).map fun i => V / 256 ^ i % 256
def digs (V : Nat) : List Nat := lowD V 16 ++ [V / 256 ^ 16 % 4]
theorem lowD_length (V n : Nat) : (lowD V n).length = n := by simp [lowD]
theorem lowD_succ (V n : Nat) : lowD V (n + 1) = lowD V n ++ [V / 256 ^ n % 256] := by simp [lowD, List.range_succ]
theorem val_lowD (V n : Nat) : val 256 (lowD V n) = V % 256 ^ n := by
  induction n with
  | zero => simp [lowD, val, Nat.mod_one]
  | succ n ih => rw [lowD_succ, val_append, ih, lowD_length, val, val, Nat.pow_succ, Nat.mod_mul]; simp
theorem digs_length (V : Nat) : (digs V).length = 17 := by simp [digs, lowD_length]
theorem val_digs (V : Nat) : val 256 (digs V) = V % 2 ^ 130 := by
  have e : (2 : Nat) ^ 130 = 256 ^ 16 * 4 := by decide
  rw [digs, val_append, val_lowD, lowD_length, val, val, e, Nat.mod_mul]
  simp
theorem digs_lt (V : Nat) : ∀ d ∈ digs V, d ≤ 255 := by
  intro d hd
  simp only [digs, lowD, List.mem_append, List.mem_map, List.mem_cons, List.not_mem_nil, or_false] at hd
  rcases hd with ⟨i, _, rfl⟩ | rfl
  · omega
  · omega
theorem digs_zero : digs 0 = List.replicate 17 0 := by decide

/-- One round of carrying. -/
def rndL (ds : List Nat) (k : Nat) : List Nat := lowD (val 256 ds) k ++ ds.drop k
def rndC (ds : List Nat) (k : Nat) : Nat := val 256 (ds.take k) / 256 ^ k
theorem rndL_zero (ds : List Nat) : rndL ds 0 = ds := by simp [rndL, lowD]
theorem rndC_zero (ds : List Nat) : rndC ds 0 = 0 := by simp [rndC, val]
theorem rndL_length {ds : List Nat} {k : Nat} (h : k ≤ ds.length) : (rndL ds k).length = ds.length := by simp [rndL, lowD_length]; omega
theorem rndL_get {ds : List Nat} {k : Nat} (h : k < ds.length) : (rndL ds k)[k]? = some ds[k] := by
  rw [rndL, List.getElem?_append_right (by rw [lowD_length]; omega), lowD_length, Nat.sub_self, List.getElem?_drop, Nat.add_zero, List.getElem?_eq_getElem h]
theorem pow256_pos (k : Nat) : 0 < 256 ^ k := Nat.pos_of_ne_zero (by simp)
theorem rndC_add {ds : List Nat} {k : Nat} (h : k < ds.length) : rndC ds k + ds[k] = val 256 (ds.take (k + 1)) / 256 ^ k := by
  rw [rndC, val_take_succ _ _ _ h, Nat.add_mul_div_right _ _ (pow256_pos k)]
theorem rndC_mod {ds : List Nat} {k : Nat} (h : k < ds.length) : (rndC ds k + ds[k]) % 256 = val 256 ds / 256 ^ k % 256 := by
  rw [rndC_add h]
  have hs := val_split 256 ds (k + 1) h
  rw [hs, Nat.pow_succ, Nat.mul_assoc, Nat.add_mul_div_left _ _ (pow256_pos k), Nat.add_mul_mod_self_left]
theorem rndC_succ {ds : List Nat} {k : Nat} (h : k < ds.length) : (rndC ds k + ds[k]) / 256 = rndC ds (k + 1) := by
  rw [rndC_add h, rndC, Nat.div_div_eq_div_mul, Nat.pow_succ]
theorem rndL_succ {ds : List Nat} {k : Nat} (h : k < ds.length) : (rndL ds k).set k ((rndC ds k + ds[k]) % 256) = rndL ds (k + 1) := by
  rw [rndC_mod h, rndL, rndL, lowD_succ, List.set_append_right _ _ (by rw [lowD_length]; omega), lowD_length, Nat.sub_self, List.drop_eq_getElem_cons h, List.set_cons_zero, List.append_assoc]
  rfl
theorem rndC_le {ds : List Nat} {m : Nat} (hm : ∀ d ∈ ds, d ≤ m) (k : Nat) : rndC ds k ≤ m := by
  have h := val_le (b := 256) (m := m) (by omega) (ds.take k) (fun d hd => hm d (List.mem_of_mem_take hd))
  have h2 : (256 : Nat) ^ (ds.take k).length ≤ 256 ^ k := Nat.pow_le_pow_right (by omega) (by simp; omega)
  have h3 := Nat.mul_le_mul_left m h2
  unfold rndC
  refine Nat.div_le_of_le_mul ?_
  rw [Nat.mul_comm (256 ^ k)]
  omega

/-- What a round leaves. -/
def rnd130 (ds : List Nat) : List Nat := (digs (val 256 ds)).set 0 (val 256 ds % 256 + 5 * (val 256 ds / 2 ^ 130))
theorem rnd130_length (ds : List Nat) : (rnd130 ds).length = 17 := by rw [rnd130, List.length_set, digs_length]
theorem digs_zero_get (V : Nat) : (digs V)[0]'(by rw [digs_length]; omega) = V % 256 := by
  simp [digs, lowD]
theorem val_rnd130 (ds : List Nat) : val 256 (rnd130 ds) = fp (val 256 ds) := by
  have h := val_set 256 (digs (val 256 ds)) 0 (val 256 ds % 256 + 5 * (val 256 ds / 2 ^ 130)) (by rw [digs_length]; omega)
  rw [digs_zero_get, val_digs] at h
  rw [rnd130, fp]
  simp only [Nat.pow_zero, Nat.mul_one] at h
  omega
theorem rnd130_end {ds : List Nat} (h : ds.length = 17) : (((rndL ds 16).set 16 ((rndC ds 16 + ds[16]) % 4)).set 0 (val 256 ds % 256 + 5 * ((rndC ds 16 + ds[16]) / 4))) = rnd130 ds ∧ ((rndL ds 16).set 16 ((rndC ds 16 + ds[16]) % 4))[0]? = some (val 256 ds % 256) := by
  have e1 : rndC ds 16 + ds[16] = val 256 ds / 256 ^ 16 := by
    rw [rndC_add (by omega), List.take_of_length_le (by omega)]
  have e2 : (rndL ds 16).set 16 (val 256 ds / 256 ^ 16 % 4) = digs (val 256 ds) := by
    rw [rndL, digs, List.set_append_right _ _ (by rw [lowD_length]; omega), lowD_length, List.drop_eq_getElem_cons (by omega), List.drop_eq_nil_of_le (by omega)]
    rfl
  have e3 : val 256 ds / 256 ^ 16 / 4 = val 256 ds / 2 ^ 130 := by rw [Nat.div_div_eq_div_mul]
  rw [e1, e2, e3]
  refine ⟨rfl, ?_⟩
  rw [List.getElem?_eq_getElem (by rw [digs_length]; omega), digs_zero_get]
theorem rnd130_le {ds : List Nat} (h : ds.length = 17) {m : Nat} (hm : ∀ d ∈ ds, d ≤ m) : ∀ d ∈ rnd130 ds, d ≤ 255 + 320 * m := by
  have hv := val_le (b := 256) (m := m) (by omega) ds hm
  rw [h] at hv
  have hq : val 256 ds / 2 ^ 130 ≤ 64 * m := by
    refine Nat.div_le_of_le_mul ?_
    have e : (256 : Nat) ^ 17 = 2 ^ 130 * 64 := by decide
    rw [e, Nat.mul_comm m, Nat.mul_assoc] at hv
    omega
  intro d hd
  rw [rnd130] at hd
  rcases List.mem_or_eq_of_mem_set hd with hd | rfl
  · have := digs_lt _ d hd
    omega
  · omega
theorem rnd130_small {ds : List Nat} (h : val 256 ds < 2 ^ 130) : rnd130 ds = digs (val 256 ds) := by
  rw [rnd130, Nat.div_eq_of_lt h, Nat.mul_zero, Nat.add_zero]
  have := digs_zero_get (val 256 ds)
  conv => lhs; rw [← this]
  exact List.set_getElem_self _

/-- Carried three times. -/
def car (V : Nat) : Nat := fp (fp V)
theorem car_lt {V : Nat} (h : V < 2 ^ 190) : car V < 2 ^ 130 := by
  unfold car fp
  omega
theorem car_mod (V : Nat) : car V % PP = V % PP := by rw [car, fp_mod, fp_mod]
theorem rnd_three {ds : List Nat} (h : val 256 ds < 2 ^ 190) : rnd130 (rnd130 (rnd130 ds)) = digs (car (val 256 ds)) := by
  have e : val 256 (rnd130 (rnd130 ds)) = car (val 256 ds) := by rw [val_rnd130, val_rnd130, car]
  rw [rnd130_small (by rw [e]; exact car_lt h), e]

/-! ### Products -/
theorem wrap_mod (x y k : Nat) (h : 17 ≤ k) : (x + 320 * y * 256 ^ (k - 17)) % PP = (x + y * 256 ^ k) % PP := by
  have e : (256 : Nat) ^ k = (320 + PP * 64) * 256 ^ (k - 17) := by
    have h1 : (256 : Nat) ^ k = 256 ^ 17 * 256 ^ (k - 17) := by rw [← Nat.pow_add]; congr 1; omega
    have h2 : (256 : Nat) ^ 17 = 320 + PP * 64 := by decide
    rw [h1, h2]
  have e2 : x + y * 256 ^ k = (x + 320 * y * 256 ^ (k - 17)) + PP * (y * (64 * 256 ^ (k - 17))) := by
    rw [e, Nat.add_mul, Nat.mul_add]
    have a1 : y * (320 * 256 ^ (k - 17)) = 320 * y * 256 ^ (k - 17) := by rw [← Nat.mul_assoc, Nat.mul_comm y]
    have a2 : y * (PP * 64 * 256 ^ (k - 17)) = PP * (y * (64 * 256 ^ (k - 17))) := by
      rw [Nat.mul_assoc PP, ← Nat.mul_assoc y, Nat.mul_comm y, Nat.mul_assoc]
    rw [a1, a2]; omega
  rw [e2, Nat.add_mul_mod_self_left]

structure TI (a b : List Nat) (i j : Nat) (t : List Nat) : Prop where
  len : t.length = 17
  mod : val 256 t % PP = (val 256 (a.take i) * val 256 b + a.getD i 0 * 256 ^ i * val 256 (b.take j)) % PP
  le : ∀ d ∈ t, d ≤ (17 * i + j) * 20808000

theorem TI.zero (a b : List Nat) : TI a b 0 0 (List.replicate 17 0) := ⟨by simp, by simp [val_zeros, val], by simp⟩
theorem TI.turn {a b : List Nat} (ha : a.length = 17) (hb : b.length = 17) {i : Nat} {t : List Nat} (hi : i < 17) (h : TI a b i 17 t) : TI a b (i + 1) 0 t := by
  refine ⟨h.len, ?_, fun d hd => by have := h.le d hd; omega⟩
  have hm := h.mod
  rw [List.take_of_length_le (Nat.le_of_eq hb)] at hm
  rw [hm, val_take_succ _ _ _ (by omega), List.take_zero, Nat.add_mul]
  have : a.getD i 0 = a[i] := by rw [List.getD_eq_getElem?_getD, List.getElem?_eq_getElem (by omega)]; rfl
  rw [this]
  simp [val]
theorem set_le {t : List Nat} {M N k x : Nat} (h : ∀ d ∈ t, d ≤ M) (hM : M ≤ N) (hx : x ≤ N) : ∀ d ∈ t.set k x, d ≤ N := by
  intro d hd
  rcases List.mem_or_eq_of_mem_set hd with hd | rfl
  · exact Nat.le_trans (h d hd) hM
  · exact hx
theorem TI.step {a b : List Nat} (ha : a.length = 17) (hb : b.length = 17) (ha2 : ∀ d ∈ a, d ≤ 255) (hb2 : ∀ d ∈ b, d ≤ 255) {i j : Nat} {t : List Nat} (hi : i < 17) (hj : j < 17) (h : TI a b i j t) :
    (i + j < 17 → TI a b i (j + 1) (t.set (i + j) (t.getD (i + j) 0 + a.getD i 0 * b.getD j 0))) ∧
    (¬ i + j < 17 → TI a b i (j + 1) (t.set (i + j - 17) (t.getD (i + j - 17) 0 + 320 * a.getD i 0 * b.getD j 0))) := by
  have ea : a.getD i 0 = a[i] := by rw [List.getD_eq_getElem?_getD, List.getElem?_eq_getElem (by omega)]; rfl
  have eb : b.getD j 0 = b[j] := by rw [List.getD_eq_getElem?_getD, List.getElem?_eq_getElem (by omega)]; rfl
  have hx := ha2 a[i] (List.getElem_mem _)
  have hy := hb2 b[j] (List.getElem_mem _)
  have hl := h.len
  have hm := h.mod
  rw [ea] at hm
  rw [ea, eb]
  generalize a[i] = x at *
  generalize hyy : b[j] = y at *
  have hxy : x * y ≤ 65025 := Nat.mul_le_mul hx hy
  have hsplit : x * 256 ^ i * val 256 (b.take (j + 1)) = x * 256 ^ i * val 256 (b.take j) + x * y * 256 ^ (i + j) := by
    rw [val_take_succ _ _ _ (by omega), Nat.mul_add, hyy, Nat.pow_add]
    congr 1
    rw [Nat.mul_assoc, Nat.mul_assoc, Nat.mul_left_comm (256 ^ i)]
  constructor
  · intro hlt
    have et : t.getD (i + j) 0 = t[i + j] := by rw [List.getD_eq_getElem?_getD, List.getElem?_eq_getElem (by omega)]; rfl
    have hb3 := h.le t[i + j] (List.getElem_mem _)
    refine ⟨by simp [hl], ?_, set_le h.le (by omega) (by rw [et]; omega)⟩
    rw [et, val_add, ea, hsplit, ← Nat.add_assoc, Nat.add_mod, hm, ← Nat.add_mod]
  · intro hlt
    have et : t.getD (i + j - 17) 0 = t[i + j - 17] := by rw [List.getD_eq_getElem?_getD, List.getElem?_eq_getElem (by omega)]; rfl
    have hb3 := h.le t[i + j - 17] (List.getElem_mem _)
    refine ⟨by simp [hl], ?_, set_le h.le (by omega) (by rw [et, Nat.mul_assoc]; omega)⟩
    rw [et, val_add, ea, hsplit, ← Nat.add_assoc, Nat.mul_assoc 320, wrap_mod _ _ _ (by omega), Nat.add_mod, hm, ← Nat.add_mod]
theorem TI.end {a b : List Nat} (ha : a.length = 17) {t : List Nat} (h : TI a b 17 0 t) : val 256 t % PP = (val 256 a * val 256 b) % PP ∧ val 256 t < 2 ^ 180 ∧ ∀ d ∈ t, d ≤ 2 ^ 40 := by
  have hm := h.mod
  rw [List.take_of_length_le (Nat.le_of_eq ha), List.take_zero] at hm
  have hle : ∀ d ∈ t, d ≤ 6013512000 := fun d hd => by have := h.le d hd; omega
  have hv := val_le (b := 256) (m := 6013512000) (by omega) t hle
  rw [h.len] at hv
  refine ⟨by simpa [val] using hm, ?_, fun d hd => by have := hle d hd; omega⟩
  have : 6013512000 * 256 ^ 17 < 2 ^ 180 := by decide
  omega

/-! ### The least number -/
theorem least_of {W : Nat} (h : W < 2 ^ 130) : (W + 5 < 2 ^ 130 → W = W % PP) ∧ (2 ^ 130 ≤ W + 5 → W + 5 - 2 ^ 130 = W % PP) := by
  unfold PP
  omega
theorem least_of2 {W : Nat} (h : W < 2 ^ 130 + 5 * 2 ^ 126) : (W + 5 < 2 ^ 130 → W = W % PP) ∧ (2 ^ 130 ≤ W + 5 → (W + 5) % 2 ^ 130 = W % PP) := by
  unfold PP
  omega

end Go.Proofs.Ytcapjjmikapmfaa.M
