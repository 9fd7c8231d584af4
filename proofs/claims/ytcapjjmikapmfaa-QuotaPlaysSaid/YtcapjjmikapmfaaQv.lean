/- Where a quota law's call starts. -/
import Derived.Test.YtcapjjmikapmfaaQs
import Derived.Test.YtcapjjmikapmfaaQb
set_option linter.unusedVariables false
set_option linter.unusedSimpArgs false
namespace Go.Proofs.Ytcapjjmikapmfaa.M
open Go Go.Proofs Go.ChangeShapes Go.WideShapes Go.Deep

theorem flat_len : ∀ cs : List CallT, (cs.flatMap callC).length = cs.length * 3
  | [] => rfl
  | c :: cs => by rw [List.flatMap_cons, List.length_append, flat_len cs]; simp [callC]; omega
theorem flat_drop : ∀ (cs : List CallT) (k : Nat) (c : CallT), cs[k]? = some c → ((cs.flatMap callC).drop (k * 3)).take 3 = callC c
  | [], k, c, h => by simp at h
  | d :: cs, 0, c, h => by
    simp at h
    subst h
    simp [callC]
  | d :: cs, k + 1, c, h => by
    have e : (k + 1) * 3 = 3 + k * 3 := by omega
    rw [List.flatMap_cons, e, ← List.drop_drop]
    have : (callC d ++ cs.flatMap callC).drop 3 = cs.flatMap callC := rfl
    rw [this]
    exact flat_drop cs k c (by simpa using h)
theorem flat_get (cs : List CallT) (k : Nat) (c : CallT) (h : cs[k]? = some c) (r : Nat) (hr : r < 3) : (cs.flatMap callC)[k * 3 + r]? = (callC c)[r]? := by
  have h2 : (((cs.flatMap callC).drop (k * 3)).take 3)[r]? = (callC c)[r]? := by rw [flat_drop cs k c h]
  rw [← h2, List.getElem?_take, if_pos hr, List.getElem?_drop]

def IsCalls (W : World) (a : Option Addr) (len cap : Nat) (cs : List CallT) : Prop :=
  (a = none → len = 0 ∧ cap = 0) ∧ len ≤ cap ∧ cs.length = cap ∧
    ∀ x, a = some x → ∀ k c, cs[k]? = some c → W.cell? (x.add (k * 3)) = some (.bool c.1) ∧ W.cell? (x.add (k * 3 + 1)) = some (.int .i64 c.2.1) ∧ W.cell? (x.add (k * 3 + 2)) = some (.int .i64 c.2.2)

section
variable {H : Type} {enc : TypeId × Value → H} {w : World} {base : Nat} {held : Bool}
set_option maxRecDepth 20000 in
theorem open_calls {fuel : Nat} {a : Option Addr} {len cap : Nat} {x : DataW H × List MemPlace} (h : DataW.trod enc Try.prog w base (fun _ => true) held fuel 30 [.slice a len cap] = some x) : ∃ cs, IsCalls w a len cap cs := by
  rcases open_slice Try.underlying30 h with ⟨h0, _⟩ | ⟨x, len', cap', m, n, D, Pl, hcs, hb, hl, hm, hmm, _, hx⟩
  · simp only [List.cons.injEq, Value.slice.injEq, and_true] at h0
    obtain ⟨rfl, rfl, rfl⟩ := h0
    exact ⟨[], (fun _ => ⟨rfl, rfl⟩), Nat.le_refl _, rfl, (fun x hh => by cases hh)⟩
  · simp only [List.cons.injEq, Value.slice.injEq, and_true] at hcs
    obtain ⟨rfl, rfl, rfl⟩ := hcs
    simp only [if_true] at hmm
    subst hmm
    have c3 : Try.prog.cellsOf 36 = 3 := by kernel_rfl
    have c4 : Try.prog.cellsOf 4 = 1 := by kernel_rfl
    have ci : Try.prog.cellsOf 3 = 1 := by kernel_rfl
    rw [c3] at hx
    have each : ∀ r, r < m → ∃ q : CallT, w.cell? (x.add (r * 3)) = some (.bool q.1) ∧ w.cell? (x.add (r * 3 + 1)) = some (.int .i64 q.2.1) ∧ w.cell? (x.add (r * 3 + 2)) = some (.int .i64 q.2.2) := by
      intro r hr
      obtain ⟨cs', h1, h2⟩ := hx r hr
      obtain ⟨_, hlen, hcell⟩ := World.cells?_some h1
      obtain ⟨y0, y1, y2, n', _, _, t0, t1, t2⟩ := trod_struct3 Try.underlying36 h2
      match cs', hlen with
      | [v0, v1, v2], _ =>
        simp only [c4, ci] at t0 t1 t2
        obtain ⟨b, e0, _⟩ := DataW.trod_bool Try.underlying4 t0
        obtain ⟨i1, e1, _⟩ := DataW.trod_int Try.underlying3 t1
        obtain ⟨i2, e2, _⟩ := DataW.trod_int Try.underlying3 t2
        simp at e0 e1 e2
        subst e0 e1 e2
        have g0 := hcell 0 (by omega)
        have g1 := hcell 1 (by omega)
        have g2 := hcell 2 (by omega)
        rw [add_add] at g0 g1 g2
        exact ⟨(b, i1, i2), g0, g1, g2⟩
    obtain ⟨F, hF⟩ := choose_lt each
    refine ⟨(List.range m).map F, (fun hh => by cases hh), hl, by simp, fun x' hx' k c hc => ?_⟩
    cases hx'
    simp only [List.getElem?_map, Option.map_eq_some_iff] at hc
    obtain ⟨k', hk', rfl⟩ := hc
    have hkm := List.getElem?_eq_some_iff.1 hk'
    obtain ⟨hk1, hk2⟩ := hkm
    simp at hk1 hk2
    subst hk2
    exact hF k hk1
end

def callsWin (W : World) (a : Option Addr) (len cap : Nat) (cs : List CallT) : WinIn := ⟨placeOf W a cap, (cs.take len).flatMap callC⟩
section
variable {W : World} {a : Option Addr} {len cap : Nat} {cs : List CallT} (h : IsCalls W a len cap cs)
include h
theorem IsCalls.cell : ∀ x, a = some x → ∀ i, i < cap * 3 → W.cell? (x.add i) = some (((cs.flatMap callC)[i]?).getD undef) := by
  intro x hx i hi
  obtain ⟨h1, h2, h3, h4⟩ := h
  have hk : i / 3 < cs.length := by omega
  have hg : cs[i / 3]? = some cs[i / 3] := List.getElem?_eq_getElem hk
  obtain ⟨g0, g1, g2⟩ := h4 x hx _ _ hg
  have hf := flat_get cs (i / 3) _ hg (i % 3) (by omega)
  have hi3 : i / 3 * 3 + i % 3 = i := by omega
  rw [hi3] at hf
  rw [hf]
  have : i % 3 = 0 ∨ i % 3 = 1 ∨ i % 3 = 2 := by omega
  rcases this with hr | hr | hr
  · rw [hr]; have : i = i / 3 * 3 := by omega
    rw [← this] at g0; rw [g0]; rfl
  · rw [hr]; have : i = i / 3 * 3 + 1 := by omega
    rw [← this] at g1; rw [g1]; rfl
  · rw [hr]; have : i = i / 3 * 3 + 2 := by omega
    rw [← this] at g2; rw [g2]; rfl
theorem IsCalls.win {ρ : Pl} : IsWin W ρ (callsWin W a len cap cs) := by
  intro b s E hp
  simp only [callsWin] at hp ⊢
  cases a with
  | none => simp [placeOf] at hp
  | some x =>
    have h2 := h.2.1
    have h3 := h.2.2.1
    have hc : 0 < cap := by
      rcases Nat.eq_zero_or_pos cap with h0 | h0
      · simp [placeOf, h0] at hp
      · exact h0
    obtain ⟨carr, ty, fz, hb, hE, hx, hle, hcell⟩ := placeOf_row (h.cell x rfl) (by omega) hc hp
    refine ⟨carr, ty, fz, hb, hE, ?_, fun k v hv => ?_⟩
    · rw [flat_len, List.length_take]; omega
    · have hk : k < ((cs.take len).flatMap callC).length := (List.getElem?_eq_some_iff.1 hv).1
      have hk3 := hk
      rw [flat_len, List.length_take] at hk3
      have he : (cs.flatMap callC)[k]? = some v := by
        have : cs.flatMap callC = (cs.take len).flatMap callC ++ (cs.drop len).flatMap callC := by rw [← List.flatMap_append, List.take_append_drop]
        rw [this, List.getElem?_append_left hk, hv]
      refine ⟨v, by rw [hcell k (by omega), he]; rfl, ?_⟩
      have hm := List.mem_of_getElem? hv
      simp only [List.mem_flatMap, callC, List.mem_cons, List.not_mem_nil, or_false] at hm
      obtain ⟨c, _, rfl | rfl | rfl⟩ := hm
      · exact .bool _
      · exact .int _ _
      · exact .int _ _
theorem IsCalls.val {ρ : Pl} {i : Nat} (hp : ρ i = placeOf W a cap) : VR ρ (valOf a len 3 i) (.slice a len cap) :=
  slice_val (by omega) hp h.1 h.2.1 h.cell
theorem IsCalls.at_ {ws : List WinIn} {i : Nat} (hw : ws[i]? = some (callsWin W a len cap cs)) : CallsAt (winH ws) (valOf a len 3 i) (cs.take len) := by
  cases a with
  | none => exact .inl ⟨rfl, by rw [(h.1 rfl).1]; rfl⟩
  | some x =>
    have h2 := h.2.1
    have h3 := h.2.2.1
    have hl : (cs.take len).length = len := by rw [List.length_take]; omega
    refine .inr ⟨i, len, _, false, false, by rw [hl]; rfl, by omega, fun _ => ⟨winH_get hw, ?_, fun k hk => ?_⟩⟩
    · simp only [callsWin]; rw [flat_len]; exact Nat.le_refl _
    · simp only [callsWin]
      rw [flat_drop _ k ((cs.take len).getD k (false, 0, 0))]
      rw [List.getD_eq_getElem?_getD, List.getElem?_eq_getElem hk]; rfl
end
theorem call_val {ρ : Pl} (b : Bool) (x y : Int) : VR ρ (.agg #[.bool b, .int .i64 x, .int .i64 y]) (.agg #[.bool b, .int .i64 x, .int .i64 y]) := by
  refine .agg rfl fun j u v hu hv => ?_
  match j with
  | 0 => simp at hu hv; subst hu hv; exact .bool _
  | 1 => simp at hu hv; subst hu hv; exact .int _ _
  | 2 => simp at hu hv; subst hu hv; exact .int _ _
  | j + 3 => simp at hu
end Go.Proofs.Ytcapjjmikapmfaa.M
