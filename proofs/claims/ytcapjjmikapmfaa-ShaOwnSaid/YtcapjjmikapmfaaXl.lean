/- Bytes of literals. -/
import Derived.Test.YtcapjjmikapmfaaMw
set_option linter.unusedVariables false
set_option linter.unusedSimpArgs false
namespace Go.Proofs.Ytcapjjmikapmfaa.M
open Go Go.Proofs

theorem push_set (H : Heap) (b c : Blk) : (H.push b).setIfInBounds H.size c = H.push c := by
  apply Array.ext_getElem?
  intro j
  rw [Array.getElem?_setIfInBounds]
  by_cases h : H.size = j
  · subst h; simp
  · rw [if_neg h, Array.getElem?_push, Array.getElem?_push, if_neg (Ne.symm h), if_neg (Ne.symm h)]

/-- Bytes of a literal. -/
theorem conv_lit {N : Nat} {H : Heap} (bs : List (BitVec 8)) (hb : bs ≠ []) (hN : N ≤ H.size) {K : Value → Heap → Prop} (hK : ∀ H', H' = H.push (.cells (bs.map u8) true false) → Sl H' (.slice (some ⟨H.size, 0, some 1⟩) bs.length bs.length) bs → K (.slice (some ⟨H.size, 0, some 1⟩) bs.length bs.length) H') :
    convTo (some (.slice 5)) (some (.slice 5)) (.slice (some ⟨H.size, 0, some 1⟩) bs.length bs.length) (H.push (.cells (bs.map u8) true true)) K (restK Try.prog N 47 47 (.slice (some ⟨H.size, 0, some 1⟩) bs.length bs.length) (H.push (.cells (bs.map u8) true true)) K) := by
  have hpos := List.length_pos_iff.2 hb
  refine ⟨_, _, .row 5 (bs.map u8) true H.size 0 bs.length bs.length Try.underlying47 rfl Try.underlying5 rfl hpos hN get_push_new, ?_⟩
  refine hK _ (push_set _ _ _) ?_
  rw [push_set]
  exact .inr ⟨H.size, 0, bs.length, by simp, by simp, fun _ => ⟨bs.map u8, true, false, get_push_new, by simp, fun k x hk => by simpa using hk⟩⟩

@[go_sem] theorem buildSlice_abc (H : Heap) (K : Value → Heap → Prop) : buildSliceK Try.prog 47 3 [(0, u8 97#8), (1, u8 98#8), (2, u8 99#8)] H K =
    K (.slice (some ⟨H.size, 0, some 1⟩) 3 3) (H.push (.cells ([97#8, 98#8, 99#8].map u8) true true)) := by
  have : buildSliceA Try.prog 47 3 [(0, u8 97#8), (1, u8 98#8), (2, u8 99#8)] = some ([97#8, 98#8, 99#8].map u8, 1) := by kernel_rfl
  simp only [buildSliceK, this]


end Go.Proofs.Ytcapjjmikapmfaa.M
