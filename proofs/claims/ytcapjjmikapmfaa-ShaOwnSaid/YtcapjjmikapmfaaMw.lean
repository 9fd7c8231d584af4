/- Arrays and structs over M's heap: rules for the walk. -/
import Derived.Test.YtcapjjmikapmfaaMz
set_option linter.unusedVariables false
set_option linter.unusedSimpArgs false
namespace Go.Proofs.Ytcapjjmikapmfaa.M
open Go Go.Proofs

/-! ### Addresses -/
section
variable {P : Program} {t e : TypeId} {len b o : Nat} {k : Int}
theorem ia_arr (ht : P.underlying t = some (.array len e)) (hz : szOf P e = some 1) (h0 : 0 ≤ k) (h1 : k < len) : indexAddrA P t (.pointer (some ⟨b, o, none⟩)) (.int .i64 k) = some (.pointer (some ⟨b, o + k.toNat, none⟩)) := by
  simp only [indexAddrA, ht, intA, hz]
  rw [if_pos ⟨h0, h1⟩, Nat.mul_one]
end
@[go_sem] theorem ia_107 {b o : Nat} {k : Int} (h0 : 0 ≤ k) (h1 : k < 8) : indexAddrA Try.prog 107 (.pointer (some ⟨b, o, none⟩)) (.int .i64 k) = some (.pointer (some ⟨b, o + k.toNat, none⟩)) := ia_arr Try.underlying107 sz_22 h0 h1
@[go_sem] theorem ia_106 {b o : Nat} {k : Int} (h0 : 0 ≤ k) (h1 : k < 8) : indexAddrA Try.prog 106 (.pointer (some ⟨b, o, none⟩)) (.int .i64 k) = some (.pointer (some ⟨b, o + k.toNat, none⟩)) := ia_arr Try.underlying106 sz_22 h0 h1
@[go_sem] theorem ia_104 {b o : Nat} {k : Int} (h0 : 0 ≤ k) (h1 : k < 64) : indexAddrA Try.prog 104 (.pointer (some ⟨b, o, none⟩)) (.int .i64 k) = some (.pointer (some ⟨b, o + k.toNat, none⟩)) := ia_arr Try.underlying104 sz_22 h0 h1
@[go_sem] theorem ia_103 {b o : Nat} {k : Int} (h0 : 0 ≤ k) (h1 : k < 16) : indexAddrA Try.prog 103 (.pointer (some ⟨b, o, none⟩)) (.int .i64 k) = some (.pointer (some ⟨b, o + k.toNat, none⟩)) := ia_arr Try.underlying103 sz_22 h0 h1

theorem ix_arr {P : Program} {t e : TypeId} {len : Nat} (ht : P.underlying t = some (.array len e)) (hz : szOf P e = some 1) (hk : kindOf P e = some none) {cs : Array Value} {k : Int} {x : Value} (h0 : 0 ≤ k) (h1 : k < len) (hx : cs[k.toNat]? = some x) : indexA P t (.agg cs) (.int .i64 k) = some x := by
  simp only [indexA, ht, intA, hz]
  rw [if_pos ⟨h0, h1⟩, Nat.mul_one]
  simp only [partA, hk, hx]

/-! ### Reading and writing cells -/
theorem load_cell {P : Program} {t : TypeId} {H : Heap} {i o : Nat} {vs : List Value} {ex tl : Bool} {x : Value} (hi : H[i]? = some (.cells vs ex tl)) (hk : kindOf P t = some none) (hx : vs[o]? = some x) : ∀ K, loadK P t (.pointer (some ⟨i, o, none⟩)) H K = K x H := by
  intro K
  simp only [loadK, hi, hk, ldv, hx, optK]
theorem load_row {P : Program} {t : TypeId} {H : Heap} {i o n : Nat} {vs : List Value} {ex tl : Bool} (hi : H[i]? = some (.cells vs ex tl)) (hk : kindOf P t = some (some n)) (hn : o + n ≤ vs.length) : ∀ K, loadK P t (.pointer (some ⟨i, o, none⟩)) H K = K (.agg ((vs.drop o).take n).toArray) H := by
  intro K
  simp only [loadK, hi, hk, ldv, if_pos hn, optK]
theorem load_u32 {H : Heap} {i o : Nat} {ws : List (BitVec 32)} {ex tl : Bool} {x : BitVec 32} (hi : H[i]? = some (.cells (ws.map u32) ex tl)) (hx : ws[o]? = some x) : ∀ K, loadK Try.prog 22 (.pointer (some ⟨i, o, none⟩)) H K = K (u32 x) H :=
  load_cell hi kind_22 (by simp [hx])

theorem store_cell {P : Program} {N : Nat} {t : TypeId} {H : Heap} {i o : Nat} {vs : List Value} {tl : Bool} {x : Value} (hi : H[i]? = some (.cells vs true tl)) (hz : szOf P t = some 1) (hs : stc 1 x = some [x]) (hN : N ≤ i) (ho : o < vs.length) {K : Value → Heap → Prop}
    (hK : ∀ H', H'.size = H.size → (∀ j, j ≠ i → H'[j]? = H[j]?) → H'[i]? = some (.cells (vs.set o x) true tl) → K undef H') : storeK P N t (.pointer (some ⟨i, o, none⟩)) x H K := by
  have hil := get_lt hi
  simp only [storeK, hi, hz, hs, List.length_cons, List.length_nil]
  refine ⟨hN, by omega, hK _ (by simp) (fun j hj => ?_) ?_⟩
  · rw [Array.getElem?_setIfInBounds_ne (fun hij => hj hij.symm)]
  · rw [wr_one _ _ _ ho, Array.getElem?_setIfInBounds, if_pos rfl, if_pos hil]
theorem store_u32 {N : Nat} {H : Heap} {i o : Nat} {ws : List (BitVec 32)} {tl : Bool} {x : BitVec 32} (hi : H[i]? = some (.cells (ws.map u32) true tl)) (hN : N ≤ i) (ho : o < ws.length) {K : Value → Heap → Prop}
    (hK : ∀ H', H'.size = H.size → (∀ j, j ≠ i → H'[j]? = H[j]?) → H'[i]? = some (.cells ((ws.set o x).map u32) true tl) → K undef H') : storeK Try.prog N 22 (.pointer (some ⟨i, o, none⟩)) (u32 x) H K :=
  store_cell hi sz_22 rfl hN (by simpa using ho) fun H' h1 h2 h3 => hK H' h1 h2 (by rw [List.map_set]; exact h3)

theorem all_u32 (xs : List (BitVec 32)) : (xs.map u32).all cellOk = true := by simp [List.all_eq_true, cellOk_u32]
theorem stc_agg {n : Nat} {cs : List Value} (hn : cs.length = n) (hok : cs.all cellOk = true) : stc n (.agg cs.toArray) = some cs := by
  unfold stc
  have h1 : (Value.agg cs.toArray).cells = cs.toArray := rfl
  have h2 : isU (.agg cs.toArray) = false := rfl
  rw [h1, h2, if_pos ⟨by simpa using hn, by simpa using hok, rfl⟩]

/-- A whole row is stored. -/
theorem store_row {P : Program} {N : Nat} {t : TypeId} {n : Nat} {H : Heap} {i : Nat} {vs cs : List Value} {tl : Bool} (hi : H[i]? = some (.cells vs true tl)) (hz : szOf P t = some n) (hn : cs.length = n) (hv : vs.length = n) (hok : cs.all cellOk = true) (hN : N ≤ i) {K : Value → Heap → Prop}
    (hK : ∀ H', H'.size = H.size → (∀ j, j ≠ i → H'[j]? = H[j]?) → H'[i]? = some (.cells cs true tl) → K undef H') : storeK P N t (.pointer (some ⟨i, 0, none⟩)) (.agg cs.toArray) H K := by
  have hil := get_lt hi
  simp only [storeK, hi, hz, stc_agg hn hok]
  refine ⟨hN, by omega, hK _ (by simp) (fun j hj => ?_) ?_⟩
  · rw [Array.getElem?_setIfInBounds_ne (fun hij => hj hij.symm)]
  · have : wr vs 0 cs = cs := by
      unfold wr
      rw [List.take_zero, List.nil_append, List.drop_eq_nil_of_le (by omega), List.append_nil]
    rw [this, Array.getElem?_setIfInBounds, if_pos rfl, if_pos hil]

/-- A block for a row of words. -/
theorem alloc_row {P : Program} {t : TypeId} {z : List Value} (hz : zc P t = some z) {H : Heap} {K : Value → Heap → Prop} (hK : K (.pointer (some ⟨H.size, 0, none⟩)) (H.push (.cells z true false))) : allocK P t H K := by
  unfold allocK
  rw [hz]
  exact hK

theorem rep_u32 (n : Nat) : List.replicate n (u32 0) = (List.replicate n 0#32).map u32 := by simp

/-- A row that is filled from the front. -/
theorem fill_set {α : Type} (l : List α) (z x : α) (n : Nat) (h : l.length < n) : (l ++ List.replicate (n - l.length) z).set l.length x = (l ++ [x]) ++ List.replicate (n - (l.length + 1)) z := by
  obtain ⟨m, hm⟩ : ∃ m, n - l.length = m + 1 := ⟨n - l.length - 1, by omega⟩
  have hm2 : n - (l.length + 1) = m := by omega
  rw [hm, hm2, List.set_append_right _ _ (Nat.le_refl _), Nat.sub_self, List.replicate_succ, List.set_cons_zero]
  simp
theorem fill_get {α : Type} (l m : List α) (k : Nat) (h : k < l.length) : (l ++ m)[k]? = l[k]? := List.getElem?_append_left h

theorem getD_some {α : Type} {l : List α} {k : Nat} {d : α} (h : k < l.length) : l[k]? = some (l.getD k d) := by
  rw [List.getD_eq_getElem?_getD, List.getElem?_eq_getElem h]; rfl

/-! ### New blocks -/
@[go_sem] theorem alloc_3 (H : Heap) (K : Value → Heap → Prop) : allocK Try.prog 3 H K = K (.pointer (some ⟨H.size, 0, none⟩)) (H.push (.cells [.int .i64 0] true false)) := by unfold allocK; rw [zc_3]
@[go_sem] theorem alloc_4 (H : Heap) (K : Value → Heap → Prop) : allocK Try.prog 4 H K = K (.pointer (some ⟨H.size, 0, none⟩)) (H.push (.cells [.bool false] true false)) := by unfold allocK; rw [zc_4]
@[go_sem] theorem alloc_5 (H : Heap) (K : Value → Heap → Prop) : allocK Try.prog 5 H K = K (.pointer (some ⟨H.size, 0, none⟩)) (H.push (.cells [u8 0] true false)) := by unfold allocK; rw [zc_5]
@[go_sem] theorem alloc_22 (H : Heap) (K : Value → Heap → Prop) : allocK Try.prog 22 H K = K (.pointer (some ⟨H.size, 0, none⟩)) (H.push (.cells [u32 0] true false)) := by unfold allocK; rw [zc_22]
@[go_sem] theorem alloc_51 (H : Heap) (K : Value → Heap → Prop) : allocK Try.prog 51 H K = K (.pointer (some ⟨H.size, 0, none⟩)) (H.push (.cells [u64 0] true false)) := by unfold allocK; rw [zc_51]
@[go_sem] theorem alloc_47 (H : Heap) (K : Value → Heap → Prop) : allocK Try.prog 47 H K = K (.pointer (some ⟨H.size, 0, none⟩)) (H.push (.cells [.slice none 0 0] true false)) := by unfold allocK; rw [zc_47]
@[go_sem] theorem alloc_79 (H : Heap) (K : Value → Heap → Prop) : allocK Try.prog 79 H K = K (.pointer (some ⟨H.size, 0, none⟩)) (H.push (.cells [.slice none 0 0] true false)) := by unfold allocK; rw [zc_79]
@[go_sem] theorem alloc_48 (H : Heap) (K : Value → Heap → Prop) : allocK Try.prog 48 H K = K (.pointer (some ⟨H.size, 0, none⟩)) (H.push (.cells [.int .i64 0] true false)) := by unfold allocK; rw [zc_48]
@[go_sem] theorem alloc_103 (H : Heap) (K : Value → Heap → Prop) : allocK Try.prog 103 H K = K (.pointer (some ⟨H.size, 0, none⟩)) (H.push (.cells (List.replicate 16 (u32 0)) true false)) := by unfold allocK; rw [zc_103]
@[go_sem] theorem alloc_104 (H : Heap) (K : Value → Heap → Prop) : allocK Try.prog 104 H K = K (.pointer (some ⟨H.size, 0, none⟩)) (H.push (.cells (List.replicate 64 (u32 0)) true false)) := by unfold allocK; rw [zc_104]
@[go_sem] theorem alloc_106 (H : Heap) (K : Value → Heap → Prop) : allocK Try.prog 106 H K = K (.pointer (some ⟨H.size, 0, none⟩)) (H.push (.cells (List.replicate 8 (u32 0)) true false)) := by unfold allocK; rw [zc_106]
@[go_sem] theorem alloc_107 (H : Heap) (K : Value → Heap → Prop) : allocK Try.prog 107 H K = K (.pointer (some ⟨H.size, 0, none⟩)) (H.push (.cells (List.replicate 8 (u32 0)) true false)) := by unfold allocK; rw [zc_107]
@[go_sem] theorem alloc_112 (H : Heap) (K : Value → Heap → Prop) : allocK Try.prog 112 H K = K (.pointer (some ⟨H.size, 0, none⟩)) (H.push (.cells (List.replicate 2 (u64 0)) true false)) := by unfold allocK; rw [zc_112]
@[go_sem] theorem alloc_113 (H : Heap) (K : Value → Heap → Prop) : allocK Try.prog 113 H K = K (.pointer (some ⟨H.size, 0, none⟩)) (H.push (.cells (List.replicate 3 (u64 0)) true false)) := by unfold allocK; rw [zc_113]
@[go_sem] theorem alloc_114 (H : Heap) (K : Value → Heap → Prop) : allocK Try.prog 114 H K = K (.pointer (some ⟨H.size, 0, none⟩)) (H.push (.cells (List.replicate 3 (u64 0)) true false)) := by unfold allocK; rw [zc_114]
@[go_sem] theorem alloc_116 (H : Heap) (K : Value → Heap → Prop) : allocK Try.prog 116 H K = K (.pointer (some ⟨H.size, 0, none⟩)) (H.push (.cells (List.replicate 4 (u64 0)) true false)) := by unfold allocK; rw [zc_116]
@[go_sem] theorem alloc_120 (H : Heap) (K : Value → Heap → Prop) : allocK Try.prog 120 H K = K (.pointer (some ⟨H.size, 0, none⟩)) (H.push (.cells (List.replicate 17 (u64 0)) true false)) := by unfold allocK; rw [zc_120]
@[go_sem] theorem alloc_84 (H : Heap) (K : Value → Heap → Prop) : allocK Try.prog 84 H K = K (.pointer (some ⟨H.size, 0, none⟩)) (H.push (.cells (List.replicate 4 (.int .i64 0)) true false)) := by unfold allocK; rw [zc_84]
@[go_sem] theorem alloc_85 (H : Heap) (K : Value → Heap → Prop) : allocK Try.prog 85 H K = K (.pointer (some ⟨H.size, 0, none⟩)) (H.push (.cells (List.replicate 3 (.int .i64 0)) true false)) := by unfold allocK; rw [zc_85]
@[go_sem] theorem alloc_86 (H : Heap) (K : Value → Heap → Prop) : allocK Try.prog 86 H K = K (.pointer (some ⟨H.size, 0, none⟩)) (H.push (.cells (List.replicate 18 (.int .i64 0)) true false)) := by unfold allocK; rw [zc_86]
@[go_sem] theorem alloc_52 (H : Heap) (K : Value → Heap → Prop) : allocK Try.prog 52 H K = K (.pointer (some ⟨H.size, 0, none⟩)) (H.push (.cells (List.replicate 2 (.slice none 0 0)) true false)) := by unfold allocK; rw [zc_52]
@[go_sem] theorem alloc_36 (H : Heap) (K : Value → Heap → Prop) : allocK Try.prog 36 H K = K (.pointer (some ⟨H.size, 0, none⟩)) (H.push (.cells [.bool false, .int .i64 0, .int .i64 0] true false)) := by unfold allocK; rw [zc_36]

end Go.Proofs.Ytcapjjmikapmfaa.M
