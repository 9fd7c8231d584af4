/- Chunks, clones and small things for the walks of Poly1305. -/
import Derived.Test.YtcapjjmikapmfaaXq
import Derived.Test.YtcapjjmikapmfaaXj
import Derived.Test.YtcapjjmikapmfaaSl
set_option linter.unusedVariables false
set_option linter.unusedSimpArgs false
namespace Go.Proofs.Ytcapjjmikapmfaa.M
open Go Go.Proofs

theorem wp_gen {P : Program} {N : Nat} {fn : FuncId} {n : Nat} {top : Bool} {c : Code} {Q : Post} {H : Heap} {a : AAct} (F : AAct → Prop) (h1 : F a) (h2 : ∀ b, F b → wp P N fn n top c Q b H) : wp P N fn n top c Q a H := h2 a h1

theorem wp_range2 {P : Program} {N : Nat} {fn : FuncId} {n : Nat} {f : Operand} {ps : Array Nat} {cs cb : Code} {Q : Post} {a : AAct} {H : Heap} {g : Fn} {cap : List Value} (hf : ev a f = .func g #[] ⟨cap⟩)
    (h : ∀ cs' cb', cs' = cs → cb' = cb → callK P N g (.func (.yield H.size) #[] #[] :: cap) (H.push (.loop fn n a ps.toList cs' cb' .ready)) fun v H2 => overK H.size fn n a ps.toList cs' cb' Q H2) : wp P N fn n true (.rangeFunc f ps cs cb) Q a H := wp_range hf (h cs cb rfl rfl)

theorem wp_code {P : Program} {N : Nat} {fn : FuncId} {n : Nat} {top : Bool} {c c' : Code} {Q : Post} {H : Heap} {a : AAct} (h : c = c') (k : wp P N fn n top c' Q a H) : wp P N fn n top c Q a H := h ▸ k

theorem set_get {H : Heap} {l : Nat} {b : Blk} (h : l < H.size) : (H.setIfInBounds l b)[l]? = some b := by rw [Array.getElem?_setIfInBounds, if_pos rfl, if_pos h]
theorem set_ne {H : Heap} {l j : Nat} {b : Blk} (h : j ≠ l) : (H.setIfInBounds l b)[j]? = H[j]? := Array.getElem?_setIfInBounds_ne (fun e => h e.symm)

theorem sl_one (H : Heap) (b : BitVec 8) : Sl (H.push (.cells [u8 b] true true)) (.slice (some ⟨H.size, 0, some 1⟩) 1 1) [b] := (OV.new (B := 0) (Nat.zero_le _) [u8 b] true 1 (by simp)).sv
def fit (n : Nat) (xs : List (BitVec 8)) : List (BitVec 8) := xs.take n ++ List.replicate (n - xs.length) 0#8
theorem fit_length (n : Nat) (xs : List (BitVec 8)) : (fit n xs).length = n := by simp [fit]; omega
theorem Ow.le {H : Heap} {B C : Nat} (hBC : C ≤ B) {v : Value} {xs : List (BitVec 8)} (h : Ow H B v xs) : Ow H C v xs := by
  rcases h with h | ⟨i, o, c, ex, vs, h1, h2, h3, h4, h5, h6⟩
  · exact .inl h
  · exact .inr ⟨i, o, c, ex, vs, h1, h2, by omega, h4, h5, h6⟩

/-! ### Chunks -/
def chunk (z : Nat) (xs : List (BitVec 8)) (j : Nat) : List (BitVec 8) := (xs.drop (z * j)).take z

set_option maxRecDepth 20000 in
theorem chunk_fun {v : Value} {xs : List (BitVec 8)} {H : Heap} (hv : Sl H v xs) (z : Nat) (hz : 1 ≤ z) : Fun Try.prog 104 [v, .int .i64 (z : Nat)] H (fun r H' => ∃ p q, r = .func (.func 122) #[] #[.pointer (some ⟨p, 0, none⟩), .pointer (some ⟨q, 0, none⟩)] ∧ p ≠ q ∧ H.size ≤ p ∧ H.size ≤ q ∧ p < H'.size ∧ q < H'.size ∧ H'[p]? = some (.cells [v] true false) ∧ H'[q]? = some (.cells [.int .i64 (z : Nat)] true false)) := by
  obtain ⟨pp, nn, cc, rfl⟩ := hv.form
  have z1 : (H.push (.cells [.slice pp nn cc] true false)).size = H.size + 1 := by simp
  have L := load_cell (P := Try.prog) (t := 3) (H := (H.push (.cells [.slice pp nn cc] true false)).push (.cells [.int .i64 (z : Nat)] true false)) (i := (H.push (.cells [.slice pp nn cc] true false)).size) (o := 0) get_push_new kind_3 rfl
  have hlt := eq_false (show ¬ (z : Int) < 1 by omega)
  refine fun_of Try.func104 rfl (by decide +kernel) (Nat.le_of_ble_eq_true rfl) ?_
  unfold Try.f104
  simp (maxSteps := 10000000) (disch := omega) only [go_sem]
  refine ⟨rfl, ?_⟩
  simp (maxSteps := 10000000) (disch := omega) only [go_sem]
  refine ⟨rfl, ?_⟩
  simp (maxSteps := 10000000) (disch := omega) only [go_sem, L, hlt]
  exact ⟨H.size, (H.push (.cells [.slice pp nn cc] true false)).size, rfl, by omega, Nat.le_refl _, by omega, by simp; omega, by simp, keep_push get_push_new, get_push_new⟩

def chInv (l p q z : Nat) (xs : List (BitVec 8)) (I : Nat → Heap → Prop) (m : Nat) (a : AAct) (H : Heap) : Prop :=
  ∃ j : Nat, m = xs.length - z * j ∧ a 0 = .func (.yield l) #[] #[] ∧ a 1 = .pointer (some ⟨p, 0, none⟩) ∧ a 2 = .pointer (some ⟨q, 0, none⟩) ∧ a 4 = .int .i64 ((z * j : Nat) : Int) ∧ (j ≠ 0 → z * (j - 1) < xs.length) ∧ I j H

/-- The chunks of a slice, one by one. -/
theorem chunk_iter {N l p q z : Nat} {v : Value} {xs : List (BitVec 8)} {H : Heap} {K : Value → Heap → Prop} (I : Nat → Heap → Prop) (hz : 1 ≤ z) (hz2 : z ≤ 1000000) (hl : xs.length ≤ 100000000000000)
    (hI : ∀ j H, I j H → H[p]? = some (.cells [v] true false) ∧ H[q]? = some (.cells [.int .i64 (z : Nat)] true false) ∧ Sl H v xs)
    (hstep : ∀ j H part, I j H → z * j < xs.length → Sl H part (chunk z xs j) → callK Try.prog N (.yield l) [part] H (fun r H' => r = .bool true ∧ I (j + 1) H'))
    (h0 : I 0 H) (hK : ∀ j H', xs.length ≤ z * j → (j ≠ 0 → z * (j - 1) < xs.length) → I j H' → K (.tuple #[]) H') : callK Try.prog N (.func 122) [.func (.yield l) #[] #[], .pointer (some ⟨p, 0, none⟩), .pointer (some ⟨q, 0, none⟩)] H K := by
  refine call_of Try.func122 rfl (by decide +kernel) (Nat.le_of_ble_eq_true rfl) ?_
  unfold Try.f122
  simp (maxSteps := 10000000) (disch := omega) only [go_sem]
  refine wp_loop (chInv l p q z xs I) ?_ xs.length ?_
  · rintro m a H1 ⟨j, hm, g0, g1, g2, g4, hj, hI1⟩
    obtain ⟨b1, b2, b3⟩ := hI j H1 hI1
    have L1 := load_cell (P := Try.prog) (t := 47) b1 kind_47 (o := 0) rfl
    have L2 := load_cell (P := Try.prog) (t := 3) b2 kind_3 (o := 0) rfl
    simp (maxSteps := 10000000) (disch := omega) only [go_sem, g0, g1, g2, g4, L1, L2, b3.len]
    by_cases hlt : z * j < xs.length
    · have hlt' := eq_true (show ((z * j : Nat) : Int) < (xs.length : Nat) by omega)
      obtain ⟨w, e1, e2, _⟩ := b3.lo (k := ((z * j : Nat) : Int)) (by omega) (by omega)
      have hwl := e2.len
      have hdl : (xs.drop ((z * j : Nat) : Int).toNat).length = xs.length - z * j := by rw [List.length_drop, Int.toNat_natCast]
      rw [hdl] at hwl
      have hmin : (if (((xs.length - z * j : Nat) : Int)) < (z : Int) then ((xs.length - z * j : Nat) : Int) else (z : Int)) = ((min z (xs.length - z * j) : Nat) : Int) := by split <;> omega
      obtain ⟨w2, e3, e4, _⟩ := b3.mid3 (j := ((z * j : Nat) : Int)) (k := ((z * j : Nat) : Int) + ((min z (xs.length - z * j) : Nat) : Int)) (by omega) (by omega) (by omega)
      have hpart : ((xs.take (((z * j : Nat) : Int) + ((min z (xs.length - z * j) : Nat) : Int)).toNat).drop ((z * j : Nat) : Int).toNat) = chunk z xs j := by
        have c1 : (((z * j : Nat) : Int) + ((min z (xs.length - z * j) : Nat) : Int)).toNat = z * j + min z (xs.length - z * j) := by omega
        rw [c1, Int.toNat_natCast, List.drop_take, Nat.add_sub_cancel_left]
        unfold chunk
        by_cases hle : z ≤ xs.length - z * j
        · rw [Nat.min_eq_left hle]
        · rw [Nat.min_eq_right (by omega), List.take_of_length_le (by simp), List.take_of_length_le (by simp; omega)]
      rw [hpart] at e4
      simp (maxSteps := 10000000) (disch := omega) only [go_sem, hlt']
      refine draw_of 7 (by kernel_rfl) ?_
      simp (maxSteps := 10000000) (disch := omega) only [go_sem, g0, g1, g2, g4, L1, L2, e1, hwl, hmin, wrap_i64, e3]
      refine (hstep j H1 w2 hI1 hlt e4).mono ?_
      rintro r H2 ⟨rfl, hI2⟩
      obtain ⟨d1, d2, d3⟩ := hI (j + 1) H2 hI2
      have L2 := load_cell (P := Try.prog) (t := 3) d2 kind_3 (o := 0) rfl
      have hn : z * (j + 1) = z * j + z := by rw [Nat.mul_add, Nat.mul_one]
      simp (maxSteps := 10000000) (disch := omega) only [go_sem, g2, g4, L2, wrap_i64]
      refine ⟨xs.length - z * (j + 1), by omega, j + 1, rfl, by simp (maxSteps := 10000000) (disch := omega) only [go_sem, g0], by simp (maxSteps := 10000000) (disch := omega) only [go_sem, g1], by simp (maxSteps := 10000000) (disch := omega) only [go_sem, g2], by simp (maxSteps := 10000000) (disch := omega) only [go_sem]; rw [hn]; push_cast; rfl, fun _ => by simpa using hlt, hI2⟩
    · have hlt' := eq_false (show ¬ ((z * j : Nat) : Int) < (xs.length : Nat) by omega)
      simp (maxSteps := 10000000) (disch := omega) only [go_sem, hlt']
      exact hK j H1 (by omega) hj hI1
  · exact ⟨0, by omega, by simp (maxSteps := 10000000) (disch := omega) only [go_sem], by simp (maxSteps := 10000000) (disch := omega) only [go_sem], by simp (maxSteps := 10000000) (disch := omega) only [go_sem], by simp (maxSteps := 10000000) (disch := omega) only [go_sem]; rfl, fun h => absurd rfl h, h0⟩

/-! ### Clone -/
@[go_sem] theorem eql_47n (a : Option Addr) (n c : Nat) : binA Try.prog .eql 47 (.slice a n c) (.slice none 0 0) = some (.bool a.isNone) := by simp [binA, Try.underlying47]
@[go_sem] theorem buildSlice_zero (H : Heap) (K : Value → Heap → Prop) : buildSliceK Try.prog 47 0 [] H K = K (.slice (some ⟨H.size, 0, some 1⟩) 0 0) (H.push (.cells [] true true)) := by
  have : buildSliceA Try.prog 47 0 [] = some ([], 1) := by kernel_rfl
  simp only [buildSliceK, this]
set_option maxRecDepth 20000 in
theorem clone_fun {v : Value} {xs : List (BitVec 8)} {H : Heap} (hv : Sl H v xs) (hl : xs.length ≤ 100000000000000) : Fun Try.prog 120 [v] H fun r H' => Ow H' H.size r xs := by
  obtain ⟨p, n, c, rfl⟩ := hv.form
  cases p with
  | none =>
    have hx : xs = [] ∧ n = 0 ∧ c = 0 := by
      rcases hv with ⟨e, h⟩ | ⟨i, o, c, h, _⟩
      · cases e; exact ⟨by simpa using h, rfl, rfl⟩
      · cases h
    obtain ⟨rfl, rfl, rfl⟩ := hx
    refine fun_of Try.func120 rfl (by decide +kernel) (Nat.le_of_ble_eq_true rfl) ?_
    unfold Try.f120
    simp (maxSteps := 10000000) (disch := omega) only [go_sem]
    exact OV.nil _ _
  | some ad =>
    refine fun_of Try.func120 rfl (by decide +kernel) (Nat.le_of_ble_eq_true rfl) ?_
    unfold Try.f120
    simp (maxSteps := 10000000) (disch := omega) only [go_sem]
    have o1 : OE (H.push (.cells [] true true)) H.size (.slice (some ⟨H.size, 0, some 1⟩) 0 0) [] := OE.new (Nat.le_refl _) [] 0 (Nat.le_refl _)
    refine append_fresh o1 (hv.mono (Rd.push _ _)) (Nat.le_refl _) (by simp) (by omega) ?_
    intro t H3 c1 c2 c3 c4
    simp (maxSteps := 10000000) (disch := omega) only [go_sem]
    exact c4.ow

end Go.Proofs.Ytcapjjmikapmfaa.M
