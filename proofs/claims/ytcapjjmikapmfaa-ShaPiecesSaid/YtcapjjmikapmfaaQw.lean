/- Where a law's call with a row of rows of bytes starts. -/
import Derived.Test.YtcapjjmikapmfaaQs
import Derived.Test.YtcapjjmikapmfaaSy
import Derived.SizedLaws
set_option linter.unusedVariables false
set_option linter.unusedSimpArgs false
namespace Go.Proofs.Ytcapjjmikapmfaa.M
open Go Go.Proofs Go.ChangeShapes Go.WideShapes Go.Deep

structure IsRows (W : World) (a : Option Addr) (len cap : Nat) (A : Nat → Option Addr) (L C : Nat → Nat) (Z : Nat → List Int) : Prop where
  nil : a = none → len = 0 ∧ cap = 0
  le : len ≤ cap
  cell : ∀ x, a = some x → ∀ r, r < cap → W.cell? (x.add r) = some (.slice (A r) (L r) (C r))
  row : ∀ r, r < cap → L r ≤ C r ∧ (Z r).length = C r ∧ (∀ n ∈ Z r, (Lit.int .u8 n).wf = true) ∧ (A r = none → C r = 0) ∧ ∀ a', A r = some a' → ∀ c, c < C r → W.cell? (a'.add c) = some (.int .u8 ((Z r).getD c 0))
  size : ∀ r, r < len → L r ≤ 140737488351232

theorem mem_weightsAll {H : Type} {P : Program} {e : TypeId} {d : DataW H} {n : Nat} (hn : n ∈ d.weights P e) : ∀ {l : List (DataW H)}, d ∈ l → n ∈ DataW.weightsAll P e l
  | d' :: l, hd => by
    simp only [DataW.weightsAll, List.mem_append]
    rcases List.mem_cons.1 hd with rfl | h
    · exact .inl hn
    · exact .inr (mem_weightsAll hn h)

theorem open_rows {H : Type} {enc : TypeId × Value → H} {W : World} {base : Nat} {held : Bool} {a : Option Addr} {len cap : Nat} {d : DataW H} {ps : List MemPlace} {ts : List TypeId} {ds : List (DataW H)} {j : Nat}
    (hsz : (DataW.weightsEach Try.prog ts ds).all (· ≤ reachBytes) = true) (ht : ts[j]? = some 79) (hd : ds[j]? = some d)
    (h : DataW.Trod enc Try.prog W base (fun _ => true) held 79 (.slice a len cap) d ps) : ∃ A L C Z, IsRows W a len cap A L C Z := by
  obtain ⟨fuel, hf⟩ := h
  rcases open_int_rows Try.underlying79 Try.underlying47 Try.underlying5 (by kernel_rfl) (by kernel_rfl) hf with ⟨hcs, _⟩ | ⟨x, l, c, A, L, C, Z, hcs, hb, hl, hm, hx, hr⟩
  · simp [Value.cells] at hcs
    obtain ⟨rfl, rfl, rfl⟩ := hcs
    exact ⟨fun _ => none, fun _ => 0, fun _ => 0, fun _ => [], fun _ => ⟨rfl, rfl⟩, Nat.le_refl _, (fun x hh => by cases hh), (fun r hh => absurd hh (by omega)), (fun r hh => absurd hh (by omega))⟩
  · simp [Value.cells] at hcs
    obtain ⟨rfl, rfl, rfl⟩ := hcs
    obtain ⟨hx, _⟩ := Prod.mk.inj hx
    subst hx
    refine ⟨A, L, C, Z, (fun hh => by cases hh), hl, fun x' hx' r hrr => ?_, fun r hrr => ?_, fun r hrr => ?_⟩
    · cases hx'; exact (hr r hrr).1
    · obtain ⟨g1, g2, g3, g4, g5, g6, g7⟩ := hr r hrr
      exact ⟨g2, g4, g5, g6, fun a' ha' => (g7 a' ha').2⟩
    · obtain ⟨g1, g2, g3, g4, g5, g6, g7⟩ := hr r (by omega)
      cases hA : A r with
      | none => have := g6 hA; omega
      | some x' =>
        have hmem : ((lits (H := H) .u8 ((Z r).take (L r))).length + (lits (H := H) .u8 ((Z r).drop (L r))).length) * Try.prog.bytesOf 5 ∈ DataW.weightsEach Try.prog ts ds := by
          refine DataW.weights_mem_each ht hd _ ?_
          simp only [DataW.weights, Try.underlying79]
          refine List.mem_cons_of_mem _ (List.mem_append_left _ (mem_weightsAll (d := intRow .u8 (A r) (L r) (Z r)) ?_ (List.mem_map.2 ⟨r, List.mem_range.2 hrr, rfl⟩)))
          rw [hA]
          simp only [intRow, DataW.weights, Try.underlying47]
          exact List.mem_cons_self
        have h1 := List.all_eq_true.1 hsz _ hmem
        have h2 : Try.prog.bytesOf 5 = 1 := by kernel_rfl
        have h3 : reachBytes = 140737488351232 := by kernel_rfl
        have h4 : (lits (H := H) .u8 ((Z r).take (L r))).length + (lits (H := H) .u8 ((Z r).drop (L r))).length = (Z r).length := by
          simp [lits]; omega
        rw [h2, h4, h3] at h1
        simp at h1
        omega

/-- The windows. -/
def rowWin (W : World) (A : Nat → Option Addr) (L C : Nat → Nat) (Z : Nat → List Int) (r : Nat) : WinIn := ⟨placeOf W (A r) (C r), (((Z r).take (L r)).map (BitVec.ofInt 8)).map u8⟩
def rowsWin (W : World) (a : Option Addr) (len cap : Nat) (A : Nat → Option Addr) (L C : Nat → Nat) (Z : Nat → List Int) : List WinIn :=
  ⟨placeOf W a cap, (List.range len).map fun r => valOf (A r) (L r) 1 (r + 1)⟩ :: (List.range len).map (rowWin W A L C Z)
section
variable {W : World} {a : Option Addr} {len cap : Nat} {A : Nat → Option Addr} {L C : Nat → Nat} {Z : Nat → List Int} (h : IsRows W a len cap A L C Z)
theorem rowsWin_get {r : Nat} (hr : r < len) : (rowsWin W a len cap A L C Z)[r + 1]? = some (rowWin W A L C Z r) := by
  simp [rowsWin, hr]
include h
theorem IsRows.rowval {ρ : Pl} {r i : Nat} (hr : r < cap) (hp : ρ i = placeOf W (A r) (C r)) : VR ρ (valOf (A r) (L r) 1 i) (.slice (A r) (L r) (C r)) := by
  obtain ⟨g1, g2, g3, g4, g5⟩ := h.row r hr
  exact slice_val (V := fun c => .int .u8 ((Z r).getD c 0)) (by omega) hp (fun hA => by have := g4 hA; omega) g1 (fun x hx i hi => g5 x hx i (by omega))
theorem IsRows.win : ∀ w ∈ rowsWin W a len cap A L C Z, IsWin W (winP (rowsWin W a len cap A L C Z)) w := by
  intro w hw b s E hp
  rcases List.mem_cons.1 hw with rfl | hw
  · simp only at hp ⊢
    cases a with
    | none => simp [placeOf] at hp
    | some x =>
      have hle := h.le
      have hc : 0 < cap := by
        rcases Nat.eq_zero_or_pos cap with h0 | h0
        · simp [placeOf, h0] at hp
        · exact h0
      obtain ⟨carr, ty, fz, hb, hE, hx, hsE, hcell⟩ := placeOf_row (h.cell x rfl) hc hc hp
      refine ⟨carr, ty, fz, hb, hE, by simp; omega, fun k v hv => ?_⟩
      simp only [List.getElem?_map, Option.map_eq_some_iff] at hv
      obtain ⟨k', hk', rfl⟩ := hv
      obtain ⟨hk1, hk2⟩ := List.getElem?_eq_some_iff.1 hk'
      simp at hk1 hk2
      subst hk2
      refine ⟨_, hcell k (by omega), h.rowval (by omega) ?_⟩
      simp only [winP, rowsWin_get hk1, Option.bind_some, rowWin]
  · obtain ⟨r, hr, rfl⟩ := List.mem_map.1 hw
    have hr := List.mem_range.1 hr
    have hle := h.le
    obtain ⟨g1, g2, g3, g4, g5⟩ := h.row r (by omega)
    simp only [rowWin] at hp ⊢
    cases hA : A r with
    | none => simp [placeOf, hA] at hp
    | some x =>
      rw [hA] at hp
      have hc : 0 < C r := by
        rcases Nat.eq_zero_or_pos (C r) with h0 | h0
        · simp [placeOf, h0] at hp
        · exact h0
      obtain ⟨carr, ty, fz, hb, hE, hx, hsE, hcell⟩ := placeOf_row (V := fun c => .int .u8 ((Z r).getD c 0)) (fun i hi => g5 x hA i hi) hc hc hp
      refine ⟨carr, ty, fz, hb, hE, by simp; omega, fun k v hv => ?_⟩
      simp only [List.map_map, List.getElem?_map, Option.map_eq_some_iff] at hv
      obtain ⟨n, hn, rfl⟩ := hv
      have hk : k < L r ∧ (Z r)[k]? = some n := by
        rw [List.getElem?_take] at hn
        split at hn
        · exact ⟨by assumption, hn⟩
        · cases hn
      refine ⟨_, hcell k (by omega), ?_⟩
      have hgd : (Z r).getD k 0 = n := by rw [List.getD_eq_getElem?_getD, hk.2]; rfl
      rw [hgd, wf_u8 (g3 n (List.mem_of_getElem? hk.2))]
      exact .int _ _
theorem IsRows.val : VR (winP (rowsWin W a len cap A L C Z)) (valOf a len 1 0) (.slice a len cap) :=
  slice_val (V := fun r => .slice (A r) (L r) (C r)) (by omega) rfl h.nil h.le (fun x hx i hi => h.cell x hx i (by omega))
theorem IsRows.at_ : RowsAt (winH (rowsWin W a len cap A L C Z)) (valOf a len 1 0) ((List.range len).map fun r => ((Z r).take (L r)).map (BitVec.ofInt 8)) := by
  cases a with
  | none => exact .inl ⟨rfl, by rw [(h.nil rfl).1]; rfl⟩
  | some x =>
    have hle := h.le
    refine .inr ⟨0, len, _, false, false, by simp [valOf], by simp, fun _ => winH_get (w := ⟨placeOf W (some x) cap, (List.range len).map fun r => valOf (A r) (L r) 1 (r + 1)⟩) rfl, fun k hk => ?_⟩
    simp at hk
    obtain ⟨g1, g2, g3, g4, g5⟩ := h.row k (by omega)
    have eg : ((List.range len).map fun r => ((Z r).take (L r)).map (BitVec.ofInt 8)).getD k [] = ((Z k).take (L k)).map (BitVec.ofInt 8) := by
      simp [List.getD_eq_getElem?_getD, hk]
    have el : (((Z k).take (L k)).map (BitVec.ofInt 8)).length = L k := by simp; omega
    rw [eg]
    refine ⟨valOf (A k) (L k) 1 (k + 1), by simp [hk], ?_, by rw [el]; exact h.size k hk⟩
    cases hA : A k with
    | none =>
      have := g4 hA
      have h0 : L k = 0 := by omega
      exact .inl ⟨rfl, by rw [h0]; rfl⟩
    | some x' =>
      refine .inr ⟨k + 1, 0, L k, by rw [List.length_map, el]; rfl, by rw [List.length_map, el]; exact Nat.le_refl _, fun _ => ⟨_, false, false, winH_get (rowsWin_get hk), ?_, fun q y hq => ?_⟩⟩
      · simp [rowWin]
      · simpa [rowWin] using hq
end
end Go.Proofs.Ytcapjjmikapmfaa.M
