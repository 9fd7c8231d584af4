/- Each operation of M, held against the model's: those that look at no memory. -/
import Derived.Test.YtcapjjmikapmfaaMc
import Derived.Laws.Entries
import Derived.Laws.Small
set_option linter.unusedVariables false
set_option linter.unusedSimpArgs false
namespace Go.Proofs.Ytcapjjmikapmfaa.M
open Go

theorem run_underlying' {P : Program} {t : TypeId} {d : TypeDesc} (h : P.underlying t = some d) (w : World) : (underlying t).run P w = .ok d w := by
  simp [underlying, h]

theorem run_sizeOf' {P : Program} {t : TypeId} {z : Nat} (h : szOf P t = some z) (w : World) : (sizeOf t).run P w = .ok z w := by
  unfold szOf at h
  cases e : P.info? t with
  | none => simp [e] at h
  | some i => simp [e] at h; simp [sizeOf, typeInfo, e, h]

theorem run_isAgg' {P : Program} {t : TypeId} {k : Option Nat} (h : kindOf P t = some k) (w : World) : (isAgg t).run P w = .ok k.isSome w := by
  unfold kindOf at h
  cases e : P.underlying t with
  | none => simp [e] at h
  | some d =>
    simp only [e] at h
    have hu := run_underlying' e w
    cases d <;> simp at h <;> simp [isAgg, hu] <;> first | (subst h; rfl) | (obtain ⟨z, _, rfl⟩ := h; rfl)

theorem szOf_of_kind {P : Program} {t : TypeId} {n : Nat} (h : kindOf P t = some (some n)) : szOf P t = some n := by
  unfold kindOf at h
  split at h <;> simp at h <;> exact h

theorem run_eqIn_ptr {P : Program} {t e : TypeId} (hu : P.underlying t = some (.pointer e)) (d : Nat) (a : Option Addr) (w : World) : (Op.equalIn (d + 1) t (.pointer a) (.pointer none)).run P w = .ok a.isNone w := by
  cases a <;> simp [Op.equalIn, run_underlying' hu]
theorem run_eqIn_slice {P : Program} {t e : TypeId} (hu : P.underlying t = some (.slice e)) (d : Nat) (a : Option Addr) (n c m k : Nat) (w : World) : (Op.equalIn (d + 1) t (.slice a n c) (.slice none m k)).run P w = .ok a.isNone w := by
  cases a <;> simp [Op.equalIn, run_underlying' hu]
theorem run_eql_ptr {P : Program} {t e : TypeId} (hu : P.underlying t = some (.pointer e)) (a : Option Addr) (w : World) : (binOp .eql t (.pointer a) (.pointer none)).run P w = .ok (.bool a.isNone) w := by
  have := run_eqIn_ptr hu 9999 a w
  show (do pure (.bool (← Op.equal t (.pointer a) (.pointer none))) : Sem Value).run P w = _
  rw [Sem.run_bind]
  exact (congrArg (fun r => Result.andThen r _) this)
theorem run_neq_ptr {P : Program} {t e : TypeId} (hu : P.underlying t = some (.pointer e)) (a : Option Addr) (w : World) : (binOp .neq t (.pointer a) (.pointer none)).run P w = .ok (.bool !a.isNone) w := by
  have := run_eqIn_ptr hu 9999 a w
  show (do pure (.bool (!(← Op.equal t (.pointer a) (.pointer none)))) : Sem Value).run P w = _
  rw [Sem.run_bind]
  exact (congrArg (fun r => Result.andThen r _) this)
theorem run_eql_slice {P : Program} {t e : TypeId} (hu : P.underlying t = some (.slice e)) (a : Option Addr) (n c m k : Nat) (w : World) : (binOp .eql t (.slice a n c) (.slice none m k)).run P w = .ok (.bool a.isNone) w := by
  have := run_eqIn_slice hu 9999 a n c m k w
  show (do pure (.bool (← Op.equal t (.slice a n c) (.slice none m k))) : Sem Value).run P w = _
  rw [Sem.run_bind]
  exact (congrArg (fun r => Result.andThen r _) this)
theorem run_neq_slice {P : Program} {t e : TypeId} (hu : P.underlying t = some (.slice e)) (a : Option Addr) (n c m k : Nat) (w : World) : (binOp .neq t (.slice a n c) (.slice none m k)).run P w = .ok (.bool !a.isNone) w := by
  have := run_eqIn_slice hu 9999 a n c m k w
  show (do pure (.bool (!(← Op.equal t (.slice a n c) (.slice none m k)))) : Sem Value).run P w = _
  rw [Sem.run_bind]
  exact (congrArg (fun r => Result.andThen r _) this)

theorem binA_sound {P : Program} {ρ : Pl} {op : BinOp} {t : TypeId} {x y x' y' v : Value} (h : binA P op t x y = some v) (hx : VR ρ x x') (hy : VR ρ y y') (X Y : Operand) (w : World) :
    scal v = true ∧ (do eqGuard op t X Y x' y'; binOp op t x' y' : Sem Value).run P w = .ok v w := by
  unfold binA at h
  split at h
  · cases hx; cases hy
    rename_i k a k' b
    cases op <;> simp only [reduceCtorEq, ite_eq_left_iff, ite_eq_right_iff] at h
    case shl =>
      split at h
      · cases h
      · rename_i hb
        cases h
        exact ⟨rfl, by simp [eqGuard, binOp, Op.shift, hb]⟩
    case shr =>
      split at h
      · cases h
      · rename_i hb
        cases h
        exact ⟨rfl, by simp [eqGuard, binOp, Op.shift, hb]⟩
    all_goals
      split at h
      · cases h
      · rename_i hk
        simp only [ne_eq, Decidable.not_not] at hk
        subst hk
        first
          | (cases h; exact ⟨rfl, by simp [eqGuard, binOp, Op.intArith, Op.intBits, Op.intCmp]⟩)
          | (split at h
             · cases h
             · rename_i hb
               cases h
               exact ⟨rfl, by simp [eqGuard, binOp, Op.intDiv, hb]⟩)
  · cases hx; cases hy
    rename_i a b
    cases op <;> simp only [reduceCtorEq] at h
    case add =>
      split at h
      · cases h
      · rename_i hb
        cases h
        exact ⟨rfl, by simp [eqGuard, binOp, Op.stringOp]; simpa using hb⟩
    all_goals
      cases h
      exact ⟨rfl, by simp [eqGuard, binOp, Op.stringOp]⟩
  · cases hx; cases hy
    rename_i a b
    split at h <;> first
      | (rename_i hu; cases h; exact ⟨rfl, by simp [eqGuard, run_eql_bool w t a b hu, run_neq_bool w t a b hu]⟩)
      | cases h
  · cases hy
    rename_i a
    have he : ∀ a', VR ρ (.pointer a) (.pointer a') → a'.isNone = a.isNone := by
      intro a' ha; cases ha <;> rfl
    have hp : ∃ a', x' = .pointer a' := by cases hx <;> exact ⟨_, rfl⟩
    obtain ⟨a', rfl⟩ := hp
    have hn := he _ hx
    split at h
    · rename_i e hu
      cases h
      exact ⟨rfl, by simp [eqGuard, run_eql_ptr hu, hn]⟩
    · rename_i e hu
      cases h
      exact ⟨rfl, by simp [eqGuard, run_neq_ptr hu, hn]⟩
    · cases h
  · cases hy
    rename_i a n c
    have hp : ∃ a' n' c', x' = .slice a' n' c' ∧ a'.isNone = a.isNone := by cases hx <;> exact ⟨_, _, _, rfl, rfl⟩
    obtain ⟨a', n', c', rfl, hn⟩ := hp
    split at h
    · rename_i e hu
      cases h
      exact ⟨rfl, by simp [eqGuard, run_eql_slice hu, hn]⟩
    · rename_i e hu
      cases h
      exact ⟨rfl, by simp [eqGuard, run_neq_slice hu, hn]⟩
    · cases h
  · cases h

theorem unA_sound {P : Program} {ρ : Pl} {op : UnOp} {x x' v : Value} (h : unA op x = some v) (hx : VR ρ x x') (w : World) :
    scal v = true ∧ (Op.unary op x').run P w = .ok v w := by
  unfold unA at h
  split at h <;> first
    | (cases hx; cases h; exact ⟨rfl, by simp [Op.unary, Op.intArith, Op.intBits]⟩)
    | cases h

theorem intA_eq {x : Value} {n : Int} (h : intA x = some n) : ∃ k, x = .int k n := by
  unfold intA at h
  split at h
  · cases h; exact ⟨_, rfl⟩
  · cases h

def VO (ρ : Pl) (x y : Option Value) : Prop :=
  match x, y with
  | some a, some b => VR ρ a b
  | none, none => True
  | _, _ => False

theorem VO.map {ρ : Pl} {n : Nat} {a : AAct} {ts : Array Value} (f : FR ρ n a ts) (x : Option Operand) : VO ρ (x.map (ev a)) (x.map (evC ts)) := by
  cases x with
  | none => trivial
  | some x => exact f.ev x

/-- A bound of a slice expression, as the model reads it. -/
theorem boundA_some {P : Program} {ρ : Pl} {x x' : Value} {i y y' d : Nat} (hx : VR ρ x x') (h : boundA (some x) y d = some i) (hy : y ≤ y') :
    i ≤ y ∧ ∀ (code : BoundsCode) (w : World), (Instr.sliceBound x' y' code).run P w = .ok i w := by
  unfold boundA at h
  simp only at h
  split at h
  · rename_i k hk
    split at h
    · rename_i hb
      cases h
      obtain ⟨kd, rfl⟩ := intA_eq hk
      cases hx
      have : 0 ≤ k ∧ k ≤ (y' : Int) := ⟨hb.1, by omega⟩
      exact ⟨by omega, fun code w => by simp [Instr.sliceBound, asIntOf, this]⟩
    · cases h
  · cases h

/-- The bounds, where the model's capacity is at least M's. -/
theorem bounds_sound {P : Program} {ρ : Pl} {len cap cap' : Nat} {lo hi mx lo' hi' mx' : Option Value} {l h m : Nat} (hb : boundsA len cap lo hi mx = some (l, h, m)) (hc : cap ≤ cap')
    (h1 : VO ρ lo lo') (h2 : VO ρ hi hi') (h3 : VO ρ mx mx') (b : Bool) (hlen : len ≤ cap) (w : World) :
    ∃ m', (Instr.sliceBounds b len cap' lo' hi' mx').run P w = .ok (l, h, m') w ∧ m ≤ m' ∧ l ≤ h ∧ h ≤ m ∧ (mx.isSome = true → m' = m ∧ m ≤ cap) ∧ (mx = none → m = cap ∧ m' = cap') ∧ m' ≤ cap' := by
  unfold boundsA at hb
  split at hb
  · cases hb
  · rename_i m1 hm1
    split at hb
    · cases hb
    · rename_i q1 hq1
      split at hb
      · cases hb
      · rename_i l1 hl1
        cases hb
        cases mx with
        | none =>
          cases mx' with
          | some _ => exact h3.elim
          | none =>
          simp [boundA] at hm1
          subst hm1
          cases hi with
          | none =>
            cases hi' with
            | some _ => exact h2.elim
            | none =>
            simp [boundA] at hq1
            subst hq1
            cases lo with
            | none =>
              cases lo' with
              | some _ => exact h1.elim
              | none =>
              simp [boundA] at hl1; subst hl1
              exact ⟨cap', by simp [Instr.sliceBounds], hc, Nat.zero_le _, hlen, by simp, by simp, Nat.le_refl _⟩
            | some v =>
              cases lo' with
              | none => exact h1.elim
              | some v' =>
              obtain ⟨ha, hr⟩ := boundA_some (P := P) h1 hl1 (Nat.le_refl _)
              exact ⟨cap', by simp [Instr.sliceBounds, hr], hc, ha, hlen, by simp, by simp, Nat.le_refl _⟩
          | some u =>
            cases hi' with
            | none => exact h2.elim
            | some u' =>
            have hq1' : boundA (some u) cap len = some h := by simpa using hq1
            obtain ⟨hqa, hqr⟩ := boundA_some (P := P) h2 hq1' hc
            cases lo with
            | none =>
              cases lo' with
              | some _ => exact h1.elim
              | none =>
              simp [boundA] at hl1; subst hl1
              exact ⟨cap', by simp [Instr.sliceBounds, hqr], hc, Nat.zero_le _, hqa, by simp, by simp, Nat.le_refl _⟩
            | some v =>
              cases lo' with
              | none => exact h1.elim
              | some v' =>
              obtain ⟨ha, hr⟩ := boundA_some (P := P) h1 hl1 (Nat.le_refl _)
              exact ⟨cap', by simp [Instr.sliceBounds, hqr, hr], hc, ha, hqa, by simp, by simp, Nat.le_refl _⟩
        | some z =>
          cases mx' with
          | none => exact h3.elim
          | some z' =>
          obtain ⟨hpa, hpr⟩ := boundA_some (P := P) h3 hm1 hc
          cases hi with
          | none => simp at hq1
          | some u =>
            cases hi' with
            | none => exact h2.elim
            | some u' =>
            have hq1' : boundA (some u) m len = some h := by simpa using hq1
            obtain ⟨hqa, hqr⟩ := boundA_some (P := P) h2 hq1' (Nat.le_refl _)
            cases lo with
            | none =>
              cases lo' with
              | some _ => exact h1.elim
              | none =>
              simp [boundA] at hl1; subst hl1
              exact ⟨m, by simp [Instr.sliceBounds, hpr, hqr], Nat.le_refl _, Nat.zero_le _, hqa, fun _ => ⟨rfl, hpa⟩, by simp, by omega⟩
            | some v =>
              cases lo' with
              | none => exact h1.elim
              | some v' =>
              obtain ⟨ha, hr⟩ := boundA_some (P := P) h1 hl1 (Nat.le_refl _)
              exact ⟨m, by simp [Instr.sliceBounds, hpr, hqr, hr], Nat.le_refl _, ha, hqa, fun _ => ⟨rfl, hpa⟩, by simp, by omega⟩

/-- A slice's shape. -/
theorem VR.slice_inv {ρ : Pl} {i o z len cap : Nat} {x' : Value} (h : VR ρ (.slice (some ⟨i, o, some z⟩) len cap) x') :
    (∃ b s E c', ρ i = some (b, s, E) ∧ x' = .slice (some ⟨b, s + o, none⟩) len c' ∧ len ≤ cap ∧ cap ≤ c' ∧ s + o + c' * z ≤ E) ∨ (len = 0 ∧ cap = 0 ∧ ∃ a', x' = .slice (some a') 0 0) := by
  cases h with
  | slice e h1 h2 h3 => exact .inl ⟨_, _, _, _, e, rfl, h1, h2, h3⟩
  | slice0 a a' => exact .inr ⟨rfl, rfl, a', rfl⟩

theorem sliceA_sound {P : Program} {ρ : Pl} {t : TypeId} {x x' v : Value} {lo hi mx lo' hi' mx' : Option Value} (h : sliceA P t x lo hi mx = some v) (hx : VR ρ x x')
    (h1 : VO ρ lo lo') (h2 : VO ρ hi hi') (h3 : VO ρ mx mx') (w : World) : ∃ v', VR ρ v v' ∧ (Instr.sliceAt t x' lo' hi' mx').run P w = .ok v' w := by
  unfold sliceA at h
  split at h
  · rename_i s hu
    cases hx
    split at h
    · rename_i l q m hb
      split at h
      · cases h
      · rename_i hm
        cases h
        have hmx : mx = none := by cases mx <;> simp_all
        subst hmx
        cases mx' with
        | some _ => exact h3.elim
        | none =>
        obtain ⟨m', hr, _⟩ := bounds_sound (P := P) hb (Nat.le_refl _) h1 h2 h3 false (Nat.le_refl _) w
        exact ⟨_, .string _, by simp [Instr.sliceAt, Instr.slice, run_underlying' hu, hr]⟩
    · cases h
  · rename_i e i o z0 len cap hu
    split at h
    · rename_i z l q m hz hb
      split at h
      case isFalse => cases h
      rename_i hzz
      subst hzz
      cases h
      rcases hx.slice_inv with ⟨b, s, E, c', hρ, rfl, hlc, hcc, hEE⟩ | ⟨rfl, rfl, a', rfl⟩
      · obtain ⟨m', hr, hm1, hm2, hm3, hm4, hm5, hm6⟩ := bounds_sound (P := P) hb hcc h1 h2 h3 true hlc w
        refine ⟨.slice (if m' = l then some ⟨b, s + o, none⟩ else some ((⟨b, s + o, none⟩ : Addr).add (l * z))) (q - l) (m' - l), ?_, by
          simp [Instr.sliceAt, Instr.slice, run_underlying' hu, hr, run_sizeOf' hz]⟩
        by_cases hml : m' = l
        · have e1 : q - l = 0 := by omega
          have e2 : m - l = 0 := by omega
          have e3 : m' - l = 0 := by omega
          rw [if_pos hml, e1, e2, e3]
          exact .slice0 _ _
        · rw [if_neg hml, add_plain, Nat.add_assoc]
          refine .slice hρ (by omega) (by omega) ?_
          have : l * z + (m' - l) * z = m' * z := by rw [← Nat.add_mul]; congr 1; omega
          have := Nat.mul_le_mul_right z hm6
          omega
      · obtain ⟨m', hr, hm1, hm2, hm3, hm4, hm5, hm6⟩ := bounds_sound (P := P) hb (Nat.le_refl _) h1 h2 h3 true (Nat.le_refl _) w
        have hm0 : m' = 0 := by
          cases mx with
          | none => omega
          | some zz => have := hm4 rfl; omega
        subst hm0
        have e0 : m = 0 := by omega
        have e1 : q = 0 := by omega
        have e2 : l = 0 := by omega
        subst e0; subst e1; subst e2
        refine ⟨.slice (some a') 0 0, .slice0 _ _, ?_⟩
        simp [Instr.sliceAt, Instr.slice, run_underlying' hu, hr, run_sizeOf' hz]
    · cases h
  · rename_i e hu
    split at h
    · rename_i z l q m hz hb
      cases h
      cases hx
      obtain ⟨m', hr, hm1, hm2, hm3, hm4, hm5, hm6⟩ := bounds_sound (P := P) hb (Nat.le_refl _) h1 h2 h3 true (Nat.le_refl _) w
      have hm0 : m' = 0 := by
        cases mx with
        | none => omega
        | some zz => have := hm4 rfl; omega
      subst hm0
      have e0 : m = 0 := by omega
      have e1 : q = 0 := by omega
      have e2 : l = 0 := by omega
      subst e0; subst e1; subst e2
      refine ⟨.slice none 0 0, .nilSlice, ?_⟩
      simp [Instr.sliceAt, Instr.slice, run_underlying' hu, hr, run_sizeOf' hz]
    · cases h
  · cases h

theorem indexAddrA_sound {P : Program} {ρ : Pl} {t : TypeId} {x x' i i' v : Value} (h : indexAddrA P t x i = some v) (hx : VR ρ x x') (hi : VR ρ i i') (w : World) :
    ∃ v', VR ρ v v' ∧ (Instr.indexAt t x' i').run P w = .ok v' w := by
  unfold indexAddrA at h
  split at h
  · rename_i len e b o j hu hj
    split at h
    · rename_i z hz
      split at h
      · rename_i hb
        cases h
        obtain ⟨k, rfl⟩ := intA_eq hj
        cases hi
        cases hx with
        | ptr hρ =>
        rename_i b' s
        refine ⟨_, .ptr hρ, ?_⟩
        simp [Instr.indexAt, asIntOf, run_underlying' hu, Instr.sureAddr, run_sizeOf' hz, hb, add_plain, Nat.add_assoc]
      · cases h
    · cases h
  · rename_i e b o z0 len c j hu hj
    split at h
    · rename_i z hz
      split at h
      · rename_i hb
        cases h
        obtain ⟨k, rfl⟩ := intA_eq hj
        cases hi
        rcases hx.slice_inv with ⟨b', s, E, c', hρ, rfl, hlc, hcc, hEE⟩ | ⟨rfl, rfl, a', rfl⟩
        · refine ⟨_, .ptr hρ, ?_⟩
          simp [Instr.indexAt, asIntOf, run_underlying' hu, run_sizeOf' hz, hb, add_plain, Nat.add_assoc]
        · omega
      · cases h
    · cases h
  · cases h

theorem partA_sound {P : Program} {ρ : Pl} {t : TypeId} {cs cs' : Array Value} {off : Nat} {v : Value} (h : partA P t cs off = some v) (hs : cs.size = cs'.size)
    (hc : ∀ (j : Nat) (x y : Value), cs[j]? = some x → cs'[j]? = some y → VR ρ x y) (w : World) : ∃ v', VR ρ v v' ∧ (part t cs' off).run P w = .ok v' w := by
  unfold partA at h
  split at h
  · rename_i n hk
    cases h
    refine ⟨.agg (cs'.extract off (off + n)), .agg (by simp [hs]) (fun j x y hx hy => ?_), by simp [part, run_isAgg' hk, run_sizeOf' (szOf_of_kind hk)]⟩
    rw [Array.getElem?_extract] at hx hy
    split at hx
    · rename_i hj
      rw [if_pos (by rw [← hs]; exact hj)] at hy
      exact hc _ x y hx hy
    · cases hx
  · rename_i hk
    have hlt := get_lt h
    have : cs'[off]? = some cs'[off] := Array.getElem?_eq_getElem (by omega)
    exact ⟨cs'[off], hc _ _ _ h this, by simp [part, run_isAgg' hk, this]⟩
  · cases h

theorem indexA_sound {P : Program} {ρ : Pl} {t : TypeId} {x x' i i' v : Value} (h : indexA P t x i = some v) (hx : VR ρ x x') (hi : VR ρ i i') (w : World) :
    ∃ v', VR ρ v v' ∧ (Instr.index t x' i').run P w = .ok v' w := by
  unfold indexA at h
  split at h
  · rename_i len e cs j hu hj
    split at h
    · rename_i z hz
      split at h
      · rename_i hb
        obtain ⟨k, rfl⟩ := intA_eq hj
        cases hi
        cases hx with
        | agg hs hc =>
        obtain ⟨v', h1, h2⟩ := partA_sound h hs hc w
        exact ⟨v', h1, by simp [Instr.index, asIntOf, run_underlying' hu, run_sizeOf' hz, hb, h2]⟩
      · cases h
    · cases h
  · rename_i s j hu hj
    split at h
    · rename_i h0
      split at h
      · rename_i b hb
        cases h
        obtain ⟨k, rfl⟩ := intA_eq hj
        cases hi
        cases hx
        exact ⟨_, .int _ _, by simp [Instr.index, asIntOf, run_underlying' hu, h0, hb]⟩
      · cases h
    · cases h
  · cases h

theorem fieldAddrA_sound {P : Program} {ρ : Pl} {t : TypeId} {x x' v : Value} {f : Nat} (h : fieldAddrA P t x f = some v) (hx : VR ρ x x') (w : World) :
    ∃ v', VR ρ v v' ∧ (Instr.fieldAt t x' f).run P w = .ok v' w := by
  unfold fieldAddrA at h
  split at h
  · rename_i fs b o hu
    split at h
    · rename_i fd hf
      split at h
      · rename_i z hz
        split at h
        · cases h
        · rename_i hz0
          cases h
          cases hx with
          | ptr hρ =>
          exact ⟨_, .ptr hρ, by simp [Instr.fieldAt, run_underlying' hu, hf, Instr.sureAddr, fieldPlace, run_sizeOf' hz, hz0, add_plain, Nat.add_assoc]⟩
      · cases h
    · cases h
  · cases h

theorem fieldA_sound {P : Program} {ρ : Pl} {t : TypeId} {x x' v : Value} {f : Nat} (h : fieldA P t x f = some v) (hx : VR ρ x x') (w : World) :
    ∃ v', VR ρ v v' ∧ (Instr.field t x' f).run P w = .ok v' w := by
  unfold fieldA at h
  split at h
  · rename_i fs cs hu
    split at h
    · rename_i fd hf
      cases hx with
      | agg hs hc =>
      obtain ⟨v', h1, h2⟩ := partA_sound h hs hc w
      exact ⟨v', h1, by simp [Instr.field, run_underlying' hu, hf, asAgg, h2]⟩
    · cases h
  · cases h

end Go.Proofs.Ytcapjjmikapmfaa.M
