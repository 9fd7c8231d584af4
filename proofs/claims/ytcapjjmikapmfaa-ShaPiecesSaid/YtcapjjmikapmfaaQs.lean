/- Where a law's call starts, for arguments of any shape: windows. -/
import Derived.Test.YtcapjjmikapmfaaMt
import Derived.Deep.Slices
import Derived.Deep.Matrix
import Derived.Deep.Strs
set_option linter.unusedVariables false
set_option linter.unusedSimpArgs false
namespace Go.Proofs.Ytcapjjmikapmfaa.M
open Go Go.Proofs Go.ChangeShapes Go.WideShapes Go.Deep

structure WinIn where
  place : Option (Nat × Nat × Nat)
  cells : List Value
def IsWin (W : World) (ρ : Pl) (w : WinIn) : Prop :=
  ∀ b s E, w.place = some (b, s, E) → ∃ carr ty fz, W.heap[b]? = some (.cells carr ty fz) ∧ carr.size = E ∧ s + w.cells.length ≤ E ∧ ∀ k v, w.cells[k]? = some v → ∃ v', carr[s + k]? = some v' ∧ VR ρ v v'
def winH (ws : List WinIn) : Heap := (ws.map fun w => Blk.cells w.cells false false).toArray
def winP (ws : List WinIn) : Pl := fun i => (ws[i]?).bind (·.place)

theorem win_rel {W : World} {ws : List WinIn} (h : ∀ w ∈ ws, IsWin W (winP ws) w) : Rel (winP ws) (winH ws) W := by
  have hget : ∀ {i p}, winP ws i = some p → ∃ r, ws[i]? = some r ∧ r ∈ ws ∧ r.place = some p := by
    intro i p hp
    simp only [winP, Option.bind_eq_some_iff] at hp
    obtain ⟨r, hr, hp⟩ := hp
    exact ⟨r, hr, List.mem_of_getElem? hr, hp⟩
  refine ⟨fun i b s E _ hp => ?_, fun i b s E x hp hx => ?_, fun i j b s s' E E' x y _ _ _ hx hy => ?_⟩
  · obtain ⟨r, _, hm, hp⟩ := hget hp
    obtain ⟨carr, ty, fz, hb, _⟩ := h r hm _ _ _ hp
    exact get_lt hb
  · obtain ⟨r, hr, hm, hp⟩ := hget hp
    obtain ⟨carr, ty, fz, hb, hE, hlc, hcell⟩ := h r hm _ _ _ hp
    have hx' : x = .cells r.cells false false := by
      simp only [winH, List.getElem?_toArray, List.getElem?_map, hr, Option.map_some, Option.some.injEq] at hx
      exact hx.symm
    subst hx'
    exact ⟨carr, ty, fz, hb, hE, hlc, hcell, fun hh => absurd hh (by simp), fun hh => absurd hh (by simp)⟩
  · have cells : ∀ {i : Nat} {x : Blk}, (winH ws)[i]? = some x → ∃ vs, x = .cells vs false false := by
      intro i x hx
      simp only [winH, List.getElem?_toArray, List.getElem?_map, Option.map_eq_some_iff] at hx
      obtain ⟨r, _, rfl⟩ := hx
      exact ⟨_, rfl⟩
    obtain ⟨vs, rfl⟩ := cells hx
    obtain ⟨vs', rfl⟩ := cells hy
    exact ⟨fun hh => absurd hh (by simp), fun hh => absurd hh (by simp)⟩
theorem win_free {ws : List WinIn} : ∀ i, (winH ws).size ≤ i → winP ws i = none := by
  intro i hi
  simp only [winH, List.size_toArray, List.length_map] at hi
  simp [winP, List.getElem?_eq_none hi]
theorem winH_get {ws : List WinIn} {i : Nat} {w : WinIn} (h : ws[i]? = some w) : (winH ws)[i]? = some (.cells w.cells false false) := by simp [winH, h]

/-- Where a slice's cells lie. -/
def placeOf (W : World) (a : Option Addr) (cap : Nat) : Option (Nat × Nat × Nat) :=
  match a with
  | none => none
  | some x => if cap = 0 then none else match W.heap[x.block]? with
    | some (.cells carr _ _) => some (x.block, x.off, carr.size)
    | _ => none

/-- What lies in a row of cells. -/
theorem row_cells {W : World} {x : Addr} {n : Nat} {V : Nat → Value} (h : ∀ i, i < n → W.cell? (x.add i) = some (V i)) (hn : 0 < n) :
    ∃ carr ty fz, W.heap[x.block]? = some (.cells carr ty fz) ∧ x = ⟨x.block, x.off, none⟩ ∧ x.off + n ≤ carr.size ∧ ∀ i, i < n → carr[x.off + i]? = some (V i) := by
  have h0 := h 0 hn
  rw [add_zero'] at h0
  have hb : ∃ carr ty fz, W.heap[x.block]? = some (.cells carr ty fz) := by
    unfold World.cell? at h0
    split at h0
    · rename_i c ty fz hb; exact ⟨c, ty, fz, hb⟩
    · cases h0
  obtain ⟨carr, ty, fz, hb⟩ := hb
  have hsp : x.spot = none := by
    unfold World.cell? at h0
    rw [hb] at h0
    simp only at h0
    split at h0
    · cases h0
    · rename_i h1; simpa using h1
  have hx : x = ⟨x.block, x.off, none⟩ := by cases x; simp_all
  have hcell : ∀ k, k < n → carr[x.off + k]? = some (V k) := by
    intro k hk
    have := h k hk
    rw [hx, add_plain] at this
    rw [cell_at hb] at this
    exact this
  refine ⟨carr, ty, fz, hb, hx, ?_, hcell⟩
  have := get_lt (hcell (n - 1) (by omega))
  omega

theorem placeOf_row {W : World} {x : Addr} {cap n : Nat} {V : Nat → Value} (h : ∀ i, i < n → W.cell? (x.add i) = some (V i)) (hn : 0 < n) (hc : 0 < cap) {b s E : Nat} (hp : placeOf W (some x) cap = some (b, s, E)) :
    ∃ carr ty fz, W.heap[b]? = some (.cells carr ty fz) ∧ carr.size = E ∧ x = ⟨b, s, none⟩ ∧ s + n ≤ E ∧ ∀ i, i < n → carr[s + i]? = some (V i) := by
  obtain ⟨carr, ty, fz, hb, hx, hle, hcell⟩ := row_cells h hn
  simp only [placeOf, if_neg (show ¬ cap = 0 by omega), hb, Option.some.injEq, Prod.mk.injEq] at hp
  obtain ⟨rfl, rfl, rfl⟩ := hp
  exact ⟨carr, ty, fz, hb, rfl, hx, hle, hcell⟩

/-- The slice value itself. -/
def valOf (a : Option Addr) (len z i : Nat) : Value := match a with | none => .slice none 0 0 | some _ => .slice (some ⟨i, 0, some z⟩) len len
theorem slice_val {W : World} {ρ : Pl} {i : Nat} {a : Option Addr} {len cap z : Nat} {V : Nat → Value} (hz : 0 < z) (hp : ρ i = placeOf W a cap) (hn : a = none → len = 0 ∧ cap = 0) (hl : len ≤ cap)
    (h : ∀ x, a = some x → ∀ i, i < cap * z → W.cell? (x.add i) = some (V i)) : VR ρ (valOf a len z i) (.slice a len cap) := by
  cases a with
  | none => obtain ⟨rfl, rfl⟩ := hn rfl; exact .nilSlice
  | some x =>
    by_cases h0 : cap = 0
    · have : len = 0 := by omega
      subst this; subst h0
      exact .slice0 _ _
    · have hpos : 0 < cap * z := Nat.mul_pos (by omega) hz
      obtain ⟨carr, ty, fz, hb, hx, hle, hcell⟩ := row_cells (h x rfl) hpos
      have hpl : placeOf W (some x) cap = some (x.block, x.off, carr.size) := by simp [placeOf, h0, hb]
      have hend : x.off + 0 + cap * z ≤ carr.size := by omega
      unfold valOf
      rw [hx]
      exact .slice (hp.trans hpl) (Nat.le_refl _) hl hend

end Go.Proofs.Ytcapjjmikapmfaa.M
