/- What loads, stores, new blocks and appends do to the relation of the two heaps. -/
import Derived.Test.YtcapjjmikapmfaaMb
import Derived.Laws.IdiomCopy
import Derived.Laws.Append
import Derived.Laws.AppendOwn
set_option linter.unusedVariables false
set_option linter.unusedSimpArgs false
namespace Go.Proofs.Ytcapjjmikapmfaa.M
open Go

theorem add_plain (b o j : Nat) : (⟨b, o, none⟩ : Addr).add j = ⟨b, o + j, none⟩ := by unfold Addr.add; split <;> simp_all

theorem get_lt {α : Type} {xs : Array α} {i : Nat} {x : α} (h : xs[i]? = some x) : i < xs.size := by
  rcases Nat.lt_or_ge i xs.size with h' | h'
  · exact h'
  · rw [Array.getElem?_eq_none h'] at h; cases h

theorem getL_lt {α : Type} {xs : List α} {i : Nat} {x : α} (h : xs[i]? = some x) : i < xs.length := by
  rcases Nat.lt_or_ge i xs.length with h' | h'
  · exact h'
  · rw [List.getElem?_eq_none h'] at h; cases h

theorem cell_at {w : World} {b k : Nat} {carr : Array Value} {ty : TypeId} {fz : Nat × Nat} (h : w.heap[b]? = some (.cells carr ty fz)) : w.cell? ⟨b, k, none⟩ = carr[k]? := by
  simp [World.cell?, h]

theorem frozen_at {w : World} {b k : Nat} {carr : Array Value} {ty : TypeId} {fz : Nat × Nat} (h : w.heap[b]? = some (.cells carr ty fz)) (hk : ¬ (fz.1 ≤ k ∧ k < fz.2)) : w.frozen? ⟨b, k, none⟩ = false := by
  obtain ⟨lo, hi⟩ := fz
  simp only [World.frozen?, h]
  simp at hk ⊢
  exact hk

/-- The cells of an abstract row, as the model has them. -/
theorem BR.row {ρ : Pl} {w : World} {b s E : Nat} {vs : List Value} {ex tl : Bool} (h : BR ρ w b s E (.cells vs ex tl)) :
    ∃ cs, VL ρ vs cs ∧ ∀ (j : Nat) (v : Value), cs[j]? = some v → w.cell? ⟨b, s + j, none⟩ = some v := by
  obtain ⟨carr, ty, fz, hb, hE, hl, hc, _⟩ := h
  refine ⟨(carr.toList.drop s).take vs.length, ⟨by simp; omega, fun j x y hx hy => ?_⟩, fun j v hv => ?_⟩
  · obtain ⟨v', h1, h2⟩ := hc j x hx
    rw [List.getElem?_take, if_pos (getL_lt hx), List.getElem?_drop] at hy
    simp [h1] at hy
    exact hy ▸ h2
  · rw [List.getElem?_take] at hv
    split at hv
    · rw [List.getElem?_drop] at hv
      rw [cell_at hb]
      simpa using hv
    · cases hv

/-! ### New blocks -/

def upd (ρ : Pl) (i : Nat) (p : Nat × Nat × Nat) : Pl := fun j => if j = i then some p else ρ j

theorem upd_ext {ρ : Pl} {i : Nat} {p : Nat × Nat × Nat} (h : ρ i = none) : ∀ j q, ρ j = some q → upd ρ i p j = some q := by
  intro j q hj
  unfold upd
  split
  · rename_i e; subst e; rw [h] at hj; cases hj
  · exact hj

theorem heap_push (w : World) (o : Obj) : (w.alloc o).heap[w.heap.size]? = some o := heap_alloc_new w o
theorem heap_push_lt (w : World) (o : Obj) (i : Nat) (h : i < w.heap.size) : (w.alloc o).heap[i]? = w.heap[i]? := heap_alloc_old w o i h

/-- What is said of a block holds in a later world that has that block as it was. -/
theorem BR.keep {ρ ρ' : Pl} (hext : ∀ i p, ρ i = some p → ρ' i = some p) {w w' : World} {b s E : Nat} {x : Blk} (h : BR ρ w b s E x) (hb : w'.heap[b]? = w.heap[b]?) : BR ρ' w' b s E x := by
  cases x with
  | cells vs ex tl =>
    obtain ⟨carr, ty, fz, h1, hE, h2, h3, h4, h5⟩ := h
    exact ⟨carr, ty, fz, hb.trans h1, hE, h2, fun k v hk => (by obtain ⟨v', a, c⟩ := h3 k v hk; exact ⟨v', a, c.mono hext⟩), h4, h5⟩
  | map es =>
    obtain ⟨ces, clk, h1, h2, h3⟩ := h
    exact ⟨ces, clk, hb.trans h1, h2, fun j e c he hc => (by obtain ⟨a, d, f⟩ := h3 j e c he hc; exact ⟨a.mono hext, d, f.mono hext⟩)⟩
  | loop fn n a params assign body st =>
    obtain ⟨l, h1, h2, h3, h4⟩ := h
    exact ⟨l, hb.trans h1, h2, h3.mono hext, h4⟩
  | dead => trivial

theorem Rel.push {N : Nat} {ρ : Pl} {H : Heap} {w : World} (r : Rel ρ H w) (hf : ρ H.size = none) (x : Blk) (o : Obj) (E0 : Nat)
    (hx : BR (upd ρ H.size (w.heap.size, 0, E0)) (w.alloc o) w.heap.size 0 E0 x) :
    Rel (upd ρ H.size (w.heap.size, 0, E0)) (H.push x) (w.alloc o) ∧ Grow N ρ (upd ρ H.size (w.heap.size, 0, E0)) H (H.push x) w (w.alloc o) := by
  have hext := upd_ext (p := (w.heap.size, 0, E0)) hf
  refine ⟨⟨fun i b s E hi he => ?_, fun i b s E y he hy => ?_, fun i j b s s' E E' y z hij hi hj hy hz => ?_⟩, ?_⟩
  · unfold upd at he
    split at he
    · cases he; simp
    · have := r.lt i b s E (by simp at hi; omega) he; simp; omega
  · by_cases e : i = H.size
    · subst e
      have e1 : (b, s, E) = (w.heap.size, 0, E0) := by simpa [upd] using he.symm
      cases e1
      have : y = x := by simpa using hy.symm
      subst this
      exact hx
    · have he' : ρ i = some (b, s, E) := by simpa [upd, e] using he
      have hy' : H[i]? = some y := by
        rw [Array.getElem?_push, if_neg e] at hy; exact hy
      exact (r.blk i b s E y he' hy').keep hext (heap_push_lt w o b (r.lt i b s E (get_lt hy') he'))
  · by_cases e : i = H.size
    · subst e
      have e1 : (b, s, E) = (w.heap.size, 0, E0) := by simpa [upd] using hi.symm
      cases e1
      have hj' : ρ j = some (w.heap.size, s', E') := by simpa [upd, Ne.symm hij] using hj
      have hz' : H[j]? = some z := by
        rw [Array.getElem?_push, if_neg (Ne.symm hij)] at hz; exact hz
      have := r.lt j _ _ _ (get_lt hz') hj'
      omega
    · have hi' : ρ i = some (b, s, E) := by simpa [upd, e] using hi
      have hy' : H[i]? = some y := by
        rw [Array.getElem?_push, if_neg e] at hy; exact hy
      by_cases e2 : j = H.size
      · subst e2
        have e1 : (b, s', E') = (w.heap.size, 0, E0) := by simpa [upd] using hj.symm
        cases e1
        have := r.lt i _ _ _ (get_lt hy') hi'
        omega
      · have hj' : ρ j = some (b, s', E') := by simpa [upd, e2] using hj
        have hz' : H[j]? = some z := by
          rw [Array.getElem?_push, if_neg e2] at hz; exact hz
        exact r.sep i j b s s' E E' y z hij hi' hj' hy' hz'
  · exact {
      hsize := by simp
      ext := hext
      new := fun i p h h' => by
        unfold upd at h
        split at h
        · simp; omega
        · rw [h'] at h; cases h
      fresh := fun i b s E h h' hb => by
        unfold upd at h
        split at h
        · cases h; omega
        · rw [h'] at h; cases h
      os := rfl
      tape := rfl
      output := rfl
      size := by simp
      keep := fun b hb _ => heap_push_lt w o b hb }

theorem BR.newCells {ρ : Pl} {w : World} (vs : List Value) (carr : Array Value) (ty : TypeId) (ex tl : Bool) (hl : vs.length ≤ carr.size)
    (hv : ∀ (k : Nat) (v : Value), vs[k]? = some v → ∃ v', carr[k]? = some v' ∧ VR ρ v v') : BR ρ (w.alloc (.cells carr ty)) w.heap.size 0 carr.size (.cells vs ex tl) :=
  ⟨carr, ty, (0, 0), heap_push w _, rfl, by simpa using hl, fun k v hk => by simpa using hv k v hk, fun _ k _ _ => by simp, fun _ => rfl⟩

/-! ### Stores -/

/-- An array with a piece written over. -/
def wrA (carr : Array Value) (o : Nat) (vs : List Value) : Array Value := (carr.toList.take o ++ vs ++ carr.toList.drop (o + vs.length)).toArray

theorem get_wr (vs : List Value) (o : Nat) (new : List Value) (h : o + new.length ≤ vs.length) (k : Nat) :
    (wr vs o new)[k]? = if o ≤ k ∧ k < o + new.length then new[k - o]? else vs[k]? := by
  unfold wr
  rw [List.append_assoc, List.getElem?_append]
  have hl : (vs.take o).length = o := by simp; omega
  rw [hl]
  by_cases h1 : k < o
  · rw [if_pos h1, if_neg (by omega), List.getElem?_take, if_pos h1]
  · rw [if_neg h1, List.getElem?_append]
    by_cases h2 : k - o < new.length
    · rw [if_pos h2, if_pos (by omega)]
    · rw [if_neg h2, if_neg (by omega), List.getElem?_drop]
      congr 1
      omega

theorem length_wr (vs : List Value) (o : Nat) (new : List Value) (h : o + new.length ≤ vs.length) : (wr vs o new).length = vs.length := by
  unfold wr
  simp
  omega

theorem heap_setCells (b : Nat) : ∀ (vs : List Value) (o : Nat) (w : World) (carr : Array Value) (ty : TypeId) (fz : Nat × Nat), w.heap[b]? = some (.cells carr ty fz) → o + vs.length ≤ carr.size →
    ∃ carr', (w.setCells b o vs).heap[b]? = some (.cells carr' ty fz) ∧ carr'.size = carr.size ∧ ∀ k, carr'[k]? = if o ≤ k ∧ k < o + vs.length then vs[k - o]? else carr[k]?
  | [], o, w, carr, ty, fz, h, _ => ⟨carr, h, rfl, fun k => by rw [if_neg (by simp)]⟩
  | v :: r, o, w, carr, ty, fz, h, hl => by
    simp at hl
    have h1 : (w.setCell ⟨b, o, none⟩ v).heap[b]? = some (.cells (carr.setIfInBounds o v) ty fz) := by
      simp [World.setCell, Array.getElem?_modify, h]
    obtain ⟨carr', h2, h3, h4⟩ := heap_setCells b r (o + 1) _ _ ty fz h1 (by simp; omega)
    refine ⟨carr', h2, by simpa using h3, fun k => ?_⟩
    rw [h4]
    by_cases e : k = o
    · subst e
      have : k < carr.size := by omega
      rw [if_neg (by omega), if_pos (by simp)]
      simp [this]
    · by_cases h5 : o + 1 ≤ k ∧ k < o + 1 + r.length
      · rw [if_pos h5, if_pos (by simp; omega)]
        obtain ⟨m, hm⟩ : ∃ m, k - o = m + 1 := ⟨k - o - 1, by omega⟩
        rw [hm]
        simp
        congr 1
        omega
      · rw [if_neg h5, if_neg (by simp; omega), Array.getElem?_setIfInBounds_ne (Ne.symm e)]

theorem heap_setCells_other (b : Nat) : ∀ (vs : List Value) (o : Nat) (w : World) (k : Nat), k ≠ b → (w.setCells b o vs).heap[k]? = w.heap[k]?
  | [], _, _, _, _ => rfl
  | v :: r, o, w, k, h => by
    rw [World.setCells, heap_setCells_other b r (o + 1) _ k h]
    exact heap_setCell_other w _ k v h

theorem size_setCells (b : Nat) : ∀ (vs : List Value) (o : Nat) (w : World), (w.setCells b o vs).heap.size = w.heap.size
  | [], _, _ => rfl
  | v :: r, o, w => by rw [World.setCells, size_setCells b r]; simp
theorem os_setCells (b : Nat) : ∀ (vs : List Value) (o : Nat) (w : World), (w.setCells b o vs).os = w.os
  | [], _, _ => rfl
  | v :: r, o, w => by rw [World.setCells, os_setCells b r]; rfl
theorem tape_setCells (b : Nat) : ∀ (vs : List Value) (o : Nat) (w : World), (w.setCells b o vs).tape = w.tape
  | [], _, _ => rfl
  | v :: r, o, w => by rw [World.setCells, tape_setCells b r]; rfl
theorem output_setCells (b : Nat) : ∀ (vs : List Value) (o : Nat) (w : World), (w.setCells b o vs).output = w.output
  | [], _, _ => rfl
  | v :: r, o, w => by rw [World.setCells, output_setCells b r]; rfl

/-- The frame of a write into a block in which an abstract block from N on lies. -/
theorem Grow.write {N : Nat} {ρ : Pl} {H : Heap} {w : World} {i b s E o : Nat} (x : Blk) (vs : List Value) (hi : i < H.size) (hN : N ≤ i) (hρ : ρ i = some (b, s, E)) :
    Grow N ρ ρ H (H.setIfInBounds i x) w (w.setCells b o vs) where
  hsize := by simp
  ext _ _ h := h
  new i p h h' := by rw [h] at h'; cases h'
  fresh i b s E h h' := by rw [h] at h'; cases h'
  os := os_setCells b vs o w
  tape := tape_setCells b vs o w
  output := output_setCells b vs o w
  size := by rw [size_setCells]; exact Nat.le_refl _
  keep c hc hh := by
    refine heap_setCells_other b vs o w c (fun e => ?_)
    subst e
    have := hh i s E hi hρ
    omega

theorem Rel.store {N : Nat} {ρ : Pl} {H : Heap} {w : World} (r : Rel ρ H w) {i b s E o : Nat} {vs new new' : List Value} {tl : Bool} (hρ : ρ i = some (b, s, E)) (hN : N ≤ i) (hi : H[i]? = some (.cells vs true tl))
    (ho : o + new.length ≤ vs.length) (hv : VL ρ new new') :
    Rel ρ (H.setIfInBounds i (.cells (wr vs o new) true tl)) (w.setCells b (s + o) new') ∧ Grow N ρ ρ H (H.setIfInBounds i (.cells (wr vs o new) true tl)) w (w.setCells b (s + o) new') := by
  refine ⟨?_, Grow.write _ _ (get_lt hi) hN hρ⟩
  have hlen := hv.1
  obtain ⟨carr, ty, fz, hb, hE, hl, hc, hex, htl⟩ := r.blk i b s E _ hρ hi
  obtain ⟨carr', hb', hsz, hget⟩ := heap_setCells b new' (s + o) w carr ty fz hb (by omega)
  have hlw := length_wr vs o new ho
  refine ⟨fun j c t F hj he => ?_, fun j c t F y he hy => ?_, fun j k c t t' F F' y z hjk hj hk hy hz => ?_⟩
  · rw [size_setCells]; exact r.lt j c t F (by simpa using hj) he
  · by_cases e : i = j
    · subst e
      rw [hρ] at he; cases he
      rw [Array.getElem?_setIfInBounds_self_of_lt (get_lt hi)] at hy
      cases hy
      refine ⟨carr', ty, fz, hb', by omega, by omega, fun k v hk => ?_, fun h k h1 h2 => hex h k h1 (by omega), htl⟩
      rw [get_wr vs o new ho] at hk
      split at hk
      · rename_i hin
        obtain ⟨v', h1, h2⟩ := hv.get hk
        refine ⟨v', ?_, h2⟩
        rw [hget, if_pos (by omega)]
        rw [show s + k - (s + o) = k - o by omega]
        exact h1
      · rename_i hin
        obtain ⟨v', h1, h2⟩ := hc k v hk
        exact ⟨v', by rw [hget, if_neg (by omega)]; exact h1, h2⟩
    · rw [Array.getElem?_setIfInBounds_ne e] at hy
      by_cases e2 : c = b
      · subst e2
        have hs := r.sep i j c s t _ _ _ y e hρ he hi hy
        have hs2 := r.sep j i c t s _ _ y _ (Ne.symm e) he hρ hy hi
        have hB := r.blk j c t F y he hy
        cases y with
        | cells vs2 ex2 tl2 =>
          obtain ⟨carr2, ty2, fz2, hb2, hE2, hl2, hc2, hex2, htl2⟩ := hB
          rw [hb] at hb2; cases hb2
          refine ⟨carr', ty, fz, hb', by omega, by omega, fun k v hk => ?_, hex2, htl2⟩
          obtain ⟨v', h1, h2⟩ := hc2 k v hk
          refine ⟨v', ?_, h2⟩
          have hkl := getL_lt hk
          rw [hget, if_neg ?_]
          · exact h1
          · rintro ⟨ha, hb3⟩
            exact hs.1 rfl (t + k) (by omega) (by omega) (by omega) (by omega)
        | map es => exact hs.elim
        | loop fn n a params assign body st => exact hs.elim
        | dead => trivial
      · exact (r.blk j c t F y he hy).keep (fun _ _ h => h) (heap_setCells_other b new' (s + o) w c e2)
  · have key : ∀ (q c : Nat) (y : Blk), (H.setIfInBounds i (.cells (wr vs o new) true tl))[q]? = some y → ∃ y0, H[q]? = some y0 ∧ ((y = y0) ∨ (y0 = Blk.cells vs true tl ∧ y = Blk.cells (wr vs o new) true tl)) := by
      intro q c y hy
      by_cases e : i = q
      · subst e
        rw [Array.getElem?_setIfInBounds_self_of_lt (get_lt hi)] at hy
        cases hy
        exact ⟨_, hi, .inr ⟨rfl, rfl⟩⟩
      · rw [Array.getElem?_setIfInBounds_ne e] at hy
        exact ⟨y, hy, .inl rfl⟩
    obtain ⟨y0, hy0, hyy⟩ := key j c y hy
    obtain ⟨z0, hz0, hzz⟩ := key k c z hz
    have h0 := r.sep j k c t t' F F' y0 z0 hjk hj hk hy0 hz0
    rcases hyy with rfl | ⟨rfl, rfl⟩ <;> rcases hzz with rfl | ⟨rfl, rfl⟩
    · exact h0
    · cases y <;> simp only [Sep] at h0 ⊢
      · rw [hlw]; exact h0
    · cases z <;> simp only [Sep] at h0 ⊢
      · rw [hlw]; exact h0
    · simp only [Sep] at h0 ⊢
      rw [hlw]; exact h0

/-! ### append where there may be room -/

theorem Rel.inPlace {N : Nat} {ρ : Pl} {H : Heap} {w : World} (r : Rel ρ H w) (hf : ρ H.size = none) {i b s E o e : Nat} {vs xs xs' : List Value} {ex : Bool} (hρ : ρ i = some (b, s, E)) (hN : N ≤ i) (hi : H[i]? = some (.cells vs ex true))
    (ho : o + e = vs.length) (hv : VL ρ xs xs') (carr : Array Value) (ty : TypeId) (fz : Nat × Nat) (hb : w.heap[b]? = some (.cells carr ty fz)) (hroom : s + vs.length + xs.length ≤ carr.size) (hx0 : 0 < xs.length) :
    Rel (upd ρ H.size (b, s + o, E)) ((H.setIfInBounds i (.cells vs (ex && e == 0) false)).push (.cells (vs.drop o ++ xs) (e == 0) true)) (w.setCells b (s + vs.length) xs') ∧
    Grow N ρ (upd ρ H.size (b, s + o, E)) H ((H.setIfInBounds i (.cells vs (ex && e == 0) false)).push (.cells (vs.drop o ++ xs) (e == 0) true)) w (w.setCells b (s + vs.length) xs') := by
  have hext := upd_ext (p := (b, s + o, E)) hf
  have hlen := hv.1
  have hiL := get_lt hi
  have hBR := r.blk i b s E _ hρ hi
  obtain ⟨carr0, ty0, fz0, hb0, hE, hl, hc, hex, htl⟩ := hBR
  rw [hb] at hb0; cases hb0
  obtain ⟨carr', hb', hsz, hget⟩ := heap_setCells b xs' (s + vs.length) w carr ty fz hb (by omega)
  have hgetI : ∀ q y, ((H.setIfInBounds i (.cells vs (ex && e == 0) false)).push (.cells (vs.drop o ++ xs) (e == 0) true))[q]? = some y →
      (q = H.size ∧ y = .cells (vs.drop o ++ xs) (e == 0) true) ∨ (q = i ∧ y = .cells vs (ex && e == 0) false) ∨ (q ≠ i ∧ q ≠ H.size ∧ H[q]? = some y) := by
    intro q y hy
    rw [Array.getElem?_push] at hy
    simp only [Array.size_setIfInBounds] at hy
    by_cases e1 : q = H.size
    · rw [if_pos e1] at hy; cases hy; exact .inl ⟨e1, rfl⟩
    · rw [if_neg e1] at hy
      by_cases e2 : i = q
      · subst e2
        rw [Array.getElem?_setIfInBounds_self_of_lt hiL] at hy
        cases hy
        exact .inr (.inl ⟨rfl, rfl⟩)
      · rw [Array.getElem?_setIfInBounds_ne e2] at hy
        exact .inr (.inr ⟨Ne.symm e2, e1, hy⟩)
  have hdl : (vs.drop o ++ xs).length = e + xs.length := by simp; omega
  -- other blocks in b end before the end of i, and have no tail
  have hoth : ∀ q t F y, q ≠ i → ρ q = some (b, t, F) → H[q]? = some y → (∃ vq eq, y = .cells vq eq false ∧ t + vq.length ≤ s + vs.length ∧ (eq = true → ∀ k, t ≤ k → k < t + vq.length → s ≤ k → k < s + vs.length → False)
      ∧ (ex = true → ∀ k, s ≤ k → k < s + vs.length → t ≤ k → k < t + vq.length → False)) ∨ y = .dead := by
    intro q t F y hq hqr hy
    have h1 := r.sep i q b s t _ _ _ y (Ne.symm hq) hρ hqr hi hy
    have h2 := r.sep q i b t s _ _ y _ hq hqr hρ hy hi
    cases y with
    | cells vq eq tq =>
      obtain ⟨h3, h4⟩ := h1.2 rfl
      subst h4
      exact .inl ⟨vq, eq, rfl, h3, h2.1, h1.1⟩
    | map es => exact h1.elim
    | loop fn n a params assign body st => exact h1.elim
    | dead => exact .inr rfl
  refine ⟨⟨fun j c t F hj he => ?_, fun j c t F y he hy => ?_, fun j k c t t' F F' y z hjk hj hk hy hz => ?_⟩, ?_⟩
  · rw [size_setCells]
    unfold upd at he
    split at he
    · cases he; exact r.lt i b s _ hiL hρ
    · rename_i hne; exact r.lt j c t F (by simp at hj; omega) he
  · rcases hgetI j y hy with ⟨rfl, rfl⟩ | ⟨rfl, rfl⟩ | ⟨e1, e2, hy'⟩
    · have e3 : (c, t, F) = (b, s + o, E) := by simpa [upd] using he.symm
      cases e3
      refine ⟨carr', ty, fz, hb', by omega, by rw [hdl]; omega, fun k v hk => ?_, fun h k h1 h2 => ?_, fun _ => htl rfl⟩
      · rw [List.getElem?_append] at hk
        have hdl0 : (vs.drop o).length = e := by simp; omega
        rw [hdl0] at hk
        split at hk
        · rename_i hke
          rw [List.getElem?_drop] at hk
          obtain ⟨v', h1, h2⟩ := hc (o + k) v hk
          refine ⟨v', ?_, h2.mono hext⟩
          rw [hget, if_neg (by omega), show s + o + k = s + (o + k) by omega]
          exact h1
        · rename_i hke
          obtain ⟨v', h1, h2⟩ := hv.get hk
          have := getL_lt hk
          refine ⟨v', ?_, h2.mono hext⟩
          rw [hget, if_pos (by omega), show s + o + k - (s + vs.length) = k - e by omega]
          exact h1
      · have : e = 0 := by simpa using h
        have := htl rfl
        omega
    · have hne : j ≠ H.size := by omega
      have e3 : ρ j = some (c, t, F) := by simpa [upd, hne] using he
      rw [hρ] at e3; cases e3
      refine ⟨carr', ty, fz, hb', by omega, by omega, fun k v hk => ?_, fun h k h1 h2 => hex (by simp at h; exact h.1) k h1 h2, fun h => by cases h⟩
      obtain ⟨v', h1, h2⟩ := hc k v hk
      have := getL_lt hk
      exact ⟨v', by rw [hget, if_neg (by omega)]; exact h1, h2.mono hext⟩
    · have e3 : ρ j = some (c, t, F) := by simpa [upd, e2] using he
      by_cases e4 : c = b
      · subst e4
        have hB := r.blk j c t F y e3 hy'
        rcases hoth j t F y e1 e3 hy' with ⟨vq, eq, rfl, h1, _, _⟩ | rfl
        · obtain ⟨carr2, ty2, fz2, hb2, hE2, hl2, hc2, hex2, htl2⟩ := hB
          rw [hb] at hb2; cases hb2
          refine ⟨carr', ty, fz, hb', by omega, by omega, fun k v hk => ?_, hex2, htl2⟩
          obtain ⟨v', h3, h4⟩ := hc2 k v hk
          have := getL_lt hk
          exact ⟨v', by rw [hget, if_neg (by omega)]; exact h3, h4.mono hext⟩
        · trivial
      · exact (r.blk j c t F y e3 hy').keep hext (heap_setCells_other b xs' (s + vs.length) w c e4)
  · -- apartness
    rcases hgetI j y hy with ⟨rfl, rfl⟩ | ⟨rfl, rfl⟩ | ⟨e1, e2, hy'⟩
    · have e3 : (c, t, F) = (b, s + o, E) := by simpa [upd] using hj.symm
      cases e3
      rcases hgetI k z hz with ⟨rfl, rfl⟩ | ⟨rfl, rfl⟩ | ⟨f1, f2, hz'⟩
      · exact absurd rfl hjk
      · have e3 : ρ k = some (b, t', F') := by simpa [upd, Ne.symm hjk] using hk
        rw [hρ] at e3; cases e3
        refine ⟨fun h m h1 h2 h3 h4 => ?_, fun _ => ⟨by rw [hdl]; omega, rfl⟩⟩
        have : e = 0 := by simpa using h
        omega
      · have e3 : ρ k = some (b, t', F') := by simpa [upd, f2] using hk
        rcases hoth k t' F' z f1 e3 hz' with ⟨vq, eq, rfl, h1, h2, h3⟩ | rfl
        · refine ⟨fun h m h4 h5 h6 h7 => ?_, fun _ => ⟨by rw [hdl]; omega, rfl⟩⟩
          have : e = 0 := by simpa using h
          omega
        · trivial
    · have hne : j ≠ H.size := by omega
      have e3 : ρ j = some (c, t, F) := by simpa [upd, hne] using hj
      rw [hρ] at e3; cases e3
      rcases hgetI k z hz with ⟨rfl, rfl⟩ | ⟨rfl, rfl⟩ | ⟨f1, f2, hz'⟩
      · have e4 : (b, t', F') = (b, s + o, E) := by simpa [upd] using hk.symm
        cases e4
        refine ⟨fun h m h1 h2 h3 h4 => ?_, fun h => by cases h⟩
        have : e = 0 := by simp at h; exact h.2
        omega
      · exact absurd rfl hjk
      · have e4 : ρ k = some (b, t', F') := by simpa [upd, f2] using hk
        rcases hoth k t' F' z f1 e4 hz' with ⟨vq, eq, rfl, h1, h2, h3⟩ | rfl
        · exact ⟨fun h => h3 (by simp at h; exact h.1), fun h => by cases h⟩
        · trivial
    · have e3 : ρ j = some (c, t, F) := by simpa [upd, e2] using hj
      rcases hgetI k z hz with ⟨rfl, rfl⟩ | ⟨rfl, rfl⟩ | ⟨f1, f2, hz'⟩
      · have e4 : (c, t', F') = (b, s + o, E) := by simpa [upd] using hk.symm
        cases e4
        rcases hoth j t F y e1 e3 hy' with ⟨vq, eq, rfl, h1, h2, h3⟩ | rfl
        · refine ⟨fun h m h4 h5 h6 h7 => ?_, fun h => by cases h⟩
          exact h2 h m h4 h5 (by omega) (by omega)
        · trivial
      · have hne : k ≠ H.size := by omega
        have e4 : ρ k = some (c, t', F') := by simpa [upd, hne] using hk
        rw [hρ] at e4; cases e4
        rcases hoth j t F y e1 e3 hy' with ⟨vq, eq, rfl, h1, h2, h3⟩ | rfl
        · exact ⟨h2, fun h => by cases h⟩
        · trivial
      · have e4 : ρ k = some (c, t', F') := by simpa [upd, f2] using hk
        exact r.sep j k c t t' F F' y z hjk e3 e4 hy' hz'
  · exact {
      hsize := by simp
      ext := hext
      new := fun j p h h' => by
        unfold upd at h
        split at h
        · simp; omega
        · rw [h'] at h; cases h
      fresh := fun j c t F h h' hc => by
        unfold upd at h
        split at h
        · cases h; exact ⟨i, s, E, hiL, hN, hρ⟩
        · rw [h'] at h; cases h
      os := os_setCells _ _ _ _
      tape := tape_setCells _ _ _ _
      output := output_setCells _ _ _ _
      size := by rw [size_setCells]; exact Nat.le_refl _
      keep := fun c hc hh => by
        refine heap_setCells_other b xs' _ w c (fun e => ?_)
        subst e
        have := hh i s E hiL hρ
        omega }

theorem Rel.inPlaceMove {N : Nat} {ρ : Pl} {H : Heap} {w : World} (r : Rel ρ H w) (hf : ρ H.size = none) {i b s E o e : Nat} {vs xs xs' : List Value} (hρ : ρ i = some (b, s, E)) (hN : N ≤ i) (hi : H[i]? = some (.cells vs true true))
    (ho : o + e = vs.length) (hv : VL ρ xs xs') (carr : Array Value) (ty : TypeId) (fz : Nat × Nat) (hb : w.heap[b]? = some (.cells carr ty fz)) (hroom : s + vs.length + xs.length ≤ carr.size) (hx0 : 0 < xs.length) :
    Rel (upd ρ H.size (b, s + o, E)) ((H.setIfInBounds i .dead).push (.cells (vs.drop o ++ xs) true true)) (w.setCells b (s + vs.length) xs') ∧
    Grow N ρ (upd ρ H.size (b, s + o, E)) H ((H.setIfInBounds i .dead).push (.cells (vs.drop o ++ xs) true true)) w (w.setCells b (s + vs.length) xs') := by
  have hext := upd_ext (p := (b, s + o, E)) hf
  have hlen := hv.1
  have hiL := get_lt hi
  have hBR := r.blk i b s E _ hρ hi
  obtain ⟨carr0, ty0, fz0, hb0, hE, hl, hc, hex, htl⟩ := hBR
  rw [hb] at hb0; cases hb0
  obtain ⟨carr', hb', hsz, hget⟩ := heap_setCells b xs' (s + vs.length) w carr ty fz hb (by omega)
  have hgetI : ∀ q y, ((H.setIfInBounds i .dead).push (.cells (vs.drop o ++ xs) true true))[q]? = some y →
      (q = H.size ∧ y = .cells (vs.drop o ++ xs) true true) ∨ (q = i ∧ y = .dead) ∨ (q ≠ i ∧ q ≠ H.size ∧ H[q]? = some y) := by
    intro q y hy
    rw [Array.getElem?_push] at hy
    simp only [Array.size_setIfInBounds] at hy
    by_cases e1 : q = H.size
    · rw [if_pos e1] at hy; cases hy; exact .inl ⟨e1, rfl⟩
    · rw [if_neg e1] at hy
      by_cases e2 : i = q
      · subst e2
        rw [Array.getElem?_setIfInBounds_self_of_lt hiL] at hy
        cases hy
        exact .inr (.inl ⟨rfl, rfl⟩)
      · rw [Array.getElem?_setIfInBounds_ne e2] at hy
        exact .inr (.inr ⟨Ne.symm e2, e1, hy⟩)
  have hdl : (vs.drop o ++ xs).length = e + xs.length := by simp; omega
  -- other blocks in b end before the end of i, and have no tail
  have hoth : ∀ q t F y, q ≠ i → ρ q = some (b, t, F) → H[q]? = some y → (∃ vq eq, y = .cells vq eq false ∧ t + vq.length ≤ s + vs.length ∧ (eq = true → ∀ k, t ≤ k → k < t + vq.length → s ≤ k → k < s + vs.length → False)
      ∧ (∀ k, s ≤ k → k < s + vs.length → t ≤ k → k < t + vq.length → False)) ∨ y = .dead := by
    intro q t F y hq hqr hy
    have h1 := r.sep i q b s t _ _ _ y (Ne.symm hq) hρ hqr hi hy
    have h2 := r.sep q i b t s _ _ y _ hq hqr hρ hy hi
    cases y with
    | cells vq eq tq =>
      obtain ⟨h3, h4⟩ := h1.2 rfl
      subst h4
      exact .inl ⟨vq, eq, rfl, h3, h2.1, h1.1 rfl⟩
    | map es => exact h1.elim
    | loop fn n a params assign body st => exact h1.elim
    | dead => exact .inr rfl
  refine ⟨⟨fun j c t F hj he => ?_, fun j c t F y he hy => ?_, fun j k c t t' F F' y z hjk hj hk hy hz => ?_⟩, ?_⟩
  · rw [size_setCells]
    unfold upd at he
    split at he
    · cases he; exact r.lt i b s _ hiL hρ
    · rename_i hne; exact r.lt j c t F (by simp at hj; omega) he
  · rcases hgetI j y hy with ⟨rfl, rfl⟩ | ⟨rfl, rfl⟩ | ⟨e1, e2, hy'⟩
    · have e3 : (c, t, F) = (b, s + o, E) := by simpa [upd] using he.symm
      cases e3
      refine ⟨carr', ty, fz, hb', by omega, by rw [hdl]; omega, fun k v hk => ?_, fun h k h1 h2 => ?_, fun _ => htl rfl⟩
      · rw [List.getElem?_append] at hk
        have hdl0 : (vs.drop o).length = e := by simp; omega
        rw [hdl0] at hk
        split at hk
        · rename_i hke
          rw [List.getElem?_drop] at hk
          obtain ⟨v', h1, h2⟩ := hc (o + k) v hk
          refine ⟨v', ?_, h2.mono hext⟩
          rw [hget, if_neg (by omega), show s + o + k = s + (o + k) by omega]
          exact h1
        · rename_i hke
          obtain ⟨v', h1, h2⟩ := hv.get hk
          have := getL_lt hk
          refine ⟨v', ?_, h2.mono hext⟩
          rw [hget, if_pos (by omega), show s + o + k - (s + vs.length) = k - e by omega]
          exact h1
      · have := htl rfl
        omega
    · trivial
    · have e3 : ρ j = some (c, t, F) := by simpa [upd, e2] using he
      by_cases e4 : c = b
      · subst e4
        have hB := r.blk j c t F y e3 hy'
        rcases hoth j t F y e1 e3 hy' with ⟨vq, eq, rfl, h1, _, _⟩ | rfl
        · obtain ⟨carr2, ty2, fz2, hb2, hE2, hl2, hc2, hex2, htl2⟩ := hB
          rw [hb] at hb2; cases hb2
          refine ⟨carr', ty, fz, hb', by omega, by omega, fun k v hk => ?_, hex2, htl2⟩
          obtain ⟨v', h3, h4⟩ := hc2 k v hk
          have := getL_lt hk
          exact ⟨v', by rw [hget, if_neg (by omega)]; exact h3, h4.mono hext⟩
        · trivial
      · exact (r.blk j c t F y e3 hy').keep hext (heap_setCells_other b xs' (s + vs.length) w c e4)
  · -- apartness
    rcases hgetI j y hy with ⟨rfl, rfl⟩ | ⟨rfl, rfl⟩ | ⟨e1, e2, hy'⟩
    · have e3 : (c, t, F) = (b, s + o, E) := by simpa [upd] using hj.symm
      cases e3
      rcases hgetI k z hz with ⟨rfl, rfl⟩ | ⟨rfl, rfl⟩ | ⟨f1, f2, hz'⟩
      · exact absurd rfl hjk
      · trivial
      · have e3 : ρ k = some (b, t', F') := by simpa [upd, f2] using hk
        rcases hoth k t' F' z f1 e3 hz' with ⟨vq, eq, rfl, h1, h2, h3⟩ | rfl
        · exact ⟨fun h m h4 h5 h6 h7 => h3 m (by omega) (by omega) h6 h7, fun _ => ⟨by rw [hdl]; omega, rfl⟩⟩
        · trivial
    · trivial
    · have e3 : ρ j = some (c, t, F) := by simpa [upd, e2] using hj
      rcases hgetI k z hz with ⟨rfl, rfl⟩ | ⟨rfl, rfl⟩ | ⟨f1, f2, hz'⟩
      · have e4 : (c, t', F') = (b, s + o, E) := by simpa [upd] using hk.symm
        cases e4
        rcases hoth j t F y e1 e3 hy' with ⟨vq, eq, rfl, h1, h2, h3⟩ | rfl
        · refine ⟨fun h m h4 h5 h6 h7 => ?_, fun h => by cases h⟩
          exact h2 h m h4 h5 (by omega) (by omega)
        · trivial
      · cases y <;> trivial
      · have e4 : ρ k = some (c, t', F') := by simpa [upd, f2] using hk
        exact r.sep j k c t t' F F' y z hjk e3 e4 hy' hz'
  · exact {
      hsize := by simp
      ext := hext
      new := fun j p h h' => by
        unfold upd at h
        split at h
        · simp; omega
        · rw [h'] at h; cases h
      fresh := fun j c t F h h' hc => by
        unfold upd at h
        split at h
        · cases h; exact ⟨i, s, E, hiL, hN, hρ⟩
        · rw [h'] at h; cases h
      os := os_setCells _ _ _ _
      tape := tape_setCells _ _ _ _
      output := output_setCells _ _ _ _
      size := by rw [size_setCells]; exact Nat.le_refl _
      keep := fun c hc hh => by
        refine heap_setCells_other b xs' _ w c (fun e => ?_)
        subst e
        have := hh i s E hiL hρ
        omega }

theorem Rel.kill {ρ : Pl} {H : Heap} {w : World} (r : Rel ρ H w) (i : Nat) : Rel ρ (H.setIfInBounds i .dead) w := by
  have key : ∀ (q : Nat) (y : Blk), (H.setIfInBounds i Blk.dead)[q]? = some y → y = Blk.dead ∨ H[q]? = some y := by
    intro q y hy
    rw [Array.getElem?_setIfInBounds] at hy
    split at hy
    · split at hy
      · cases hy; exact .inl rfl
      · cases hy
    · exact .inr hy
  refine ⟨fun j c t F hj h => r.lt j c t F (by simpa using hj) h, fun j c t F y h hy => ?_, fun j k c t t' F F' y z hjk hj hk hy hz => ?_⟩
  · rcases key j y hy with rfl | hy'
    · trivial
    · exact r.blk j c t F y h hy'
  · rcases key j y hy with rfl | hy'
    · trivial
    · rcases key k z hz with rfl | hz'
      · cases y <;> trivial
      · exact r.sep j k c t t' F F' y z hjk hj hk hy' hz'

/-- A change of flags alone: fewer rights. -/
theorem Rel.flags {ρ : Pl} {H : Heap} {w : World} (r : Rel ρ H w) {i : Nat} {vs : List Value} {ex tl : Bool} (hi : H[i]? = some (.cells vs ex tl)) (ex' : Bool) (he : ex' = true → ex = true) :
    Rel ρ (H.setIfInBounds i (.cells vs ex' false)) w := by
  have hiL := get_lt hi
  have key : ∀ q y, (H.setIfInBounds i (.cells vs ex' false))[q]? = some y → (q = i ∧ y = .cells vs ex' false) ∨ (q ≠ i ∧ H[q]? = some y) := by
    intro q y hy
    by_cases e : i = q
    · subst e; rw [Array.getElem?_setIfInBounds_self_of_lt hiL] at hy; cases hy; exact .inl ⟨rfl, rfl⟩
    · rw [Array.getElem?_setIfInBounds_ne e] at hy; exact .inr ⟨Ne.symm e, hy⟩
  refine ⟨fun j c t F hj h => r.lt j c t F (by simpa using hj) h, fun j c t F y h hy => ?_, fun j k c t t' F F' y z hjk hj hk hy hz => ?_⟩
  · rcases key j y hy with ⟨rfl, rfl⟩ | ⟨e, hy'⟩
    · obtain ⟨carr, ty, fz, hb, hE, hl, hc, hex, htl⟩ := r.blk j c t F _ h hi
      exact ⟨carr, ty, fz, hb, hE, hl, hc, fun h => hex (he h), fun h => by cases h⟩
    · exact r.blk j c t F y h hy'
  · rcases key j y hy with ⟨rfl, rfl⟩ | ⟨e, hy'⟩
    · rcases key k z hz with ⟨rfl, rfl⟩ | ⟨f, hz'⟩
      · exact absurd rfl hjk
      · have := r.sep j k c t t' F F' _ z hjk hj hk hi hz'
        cases z <;> simp only [Sep] at this ⊢
        exact ⟨fun h => this.1 (he h), fun h => by cases h⟩
    · rcases key k z hz with ⟨rfl, rfl⟩ | ⟨f, hz'⟩
      · have := r.sep j k c t t' F F' y _ hjk hj hk hy' hi
        cases y <;> simp only [Sep] at this ⊢
        exact ⟨this.1, fun h => ⟨(this.2 h).1, trivial⟩⟩
      · exact r.sep j k c t t' F F' y z hjk hj hk hy' hz'

theorem Grow.flags {N : Nat} {ρ : Pl} {H : Heap} {w : World} (i : Nat) (x : Blk) : Grow N ρ ρ H (H.setIfInBounds i x) w w where
  hsize := by simp
  ext _ _ h := h
  new i p h h' := by rw [h] at h'; cases h'
  fresh i b s E h h' := by rw [h] at h'; cases h'
  os := rfl
  tape := rfl
  output := rfl
  size := Nat.le_refl _
  keep _ _ _ := rfl

end Go.Proofs.Ytcapjjmikapmfaa.M
