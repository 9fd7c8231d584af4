/- Each operation of M, held against the model's: maps, lengths, calls; all of them in one theorem. -/
import Derived.Test.YtcapjjmikapmfaaMg
set_option linter.unusedVariables false
set_option linter.unusedSimpArgs false
namespace Go.Proofs.Ytcapjjmikapmfaa.M
open Go

/-! ### Blocks that are no cells -/

def isObj : Blk → Bool
  | .map _ | .loop .. => true
  | _ => false

/-- The world with another object in a block. -/
def putO (w : World) (b : Nat) (o : Obj) : World := { w with heap := w.heap.setIfInBounds b o }

theorem putO_same {w : World} {b : Nat} {o : Obj} (h : b < w.heap.size) : (putO w b o).heap[b]? = some o := by simp [putO, h]
theorem putO_other {w : World} {b c : Nat} {o : Obj} (h : c ≠ b) : (putO w b o).heap[c]? = w.heap[c]? := by
  simp only [putO]; rw [Array.getElem?_setIfInBounds_ne (Ne.symm h)]

theorem Rel.setObj {N : Nat} {ρ : Pl} {H : Heap} {w : World} (r : Rel ρ H w) {i b s E : Nat} {x : Blk} (y : Blk) (o : Obj) (hρ : ρ i = some (b, s, E)) (hN : N ≤ i) (hi : H[i]? = some x) (hx : isObj x = true) (hy : isObj y = true)
    (hb : BR ρ (putO w b o) b s E y) : Rel ρ (H.setIfInBounds i y) (putO w b o) ∧ Grow N ρ ρ H (H.setIfInBounds i y) w (putO w b o) := by
  have hiL := get_lt hi
  have hbL := r.lt i b s E hiL hρ
  have key : ∀ (q : Nat) (z : Blk), (H.setIfInBounds i y)[q]? = some z → (q = i ∧ z = y) ∨ (q ≠ i ∧ H[q]? = some z) := by
    intro q z hz
    by_cases e : i = q
    · subst e; rw [Array.getElem?_setIfInBounds_self_of_lt hiL] at hz; cases hz; exact .inl ⟨rfl, rfl⟩
    · rw [Array.getElem?_setIfInBounds_ne e] at hz; exact .inr ⟨Ne.symm e, hz⟩
  -- whatever else lies in b is dead
  have alone : ∀ (j t F : Nat) (z : Blk), j ≠ i → ρ j = some (b, t, F) → H[j]? = some z → z = .dead := by
    intro j t F z hj hr hz
    have := r.sep i j b s t E F x z (Ne.symm hj) hρ hr hi hz
    cases x <;> cases z <;> first | rfl | exact this.elim | cases hx
  refine ⟨⟨fun j c t F hj h => ?_, fun j c t F z h hz => ?_, fun j k c t t' F F' z u hjk hj hk hz hu => ?_⟩, ?_⟩
  · have := r.lt j c t F (by simpa using hj) h; simpa [putO] using this
  · rcases key j z hz with ⟨rfl, rfl⟩ | ⟨e, hz'⟩
    · rw [hρ] at h; cases h; exact hb
    · by_cases e2 : c = b
      · subst e2
        rw [alone j t F z e h hz']; trivial
      · exact (r.blk j c t F z h hz').keep (fun _ _ h => h) (putO_other e2)
  · rcases key j z hz with ⟨rfl, rfl⟩ | ⟨e, hz'⟩
    · rw [hρ] at hj; cases hj
      rcases key k u hu with ⟨rfl, rfl⟩ | ⟨f, hu'⟩
      · exact absurd rfl hjk
      · rw [alone k t' F' u f hk hu']
        cases z <;> trivial
    · rcases key k u hu with ⟨rfl, rfl⟩ | ⟨f, hu'⟩
      · rw [hρ] at hk; cases hk
        rw [alone j t F z e hj hz']
        trivial
      · exact r.sep j k c t t' F F' z u hjk hj hk hz' hu'
  · exact {
      hsize := by simp
      ext := fun _ _ h => h
      new := fun j p h h' => by rw [h] at h'; cases h'
      fresh := fun j c t F h h' => by rw [h] at h'; cases h'
      os := rfl
      tape := rfl
      output := rfl
      size := by simp [putO]
      keep := fun c hc hh => putO_other (fun e => by subst e; have := hh i s E hiL hρ; omega) }

/-! ### Maps -/

theorem sameNow_eq {P : Program} {kt : TypeId} {kind : TypeDesc} {k k' : Value} {b : Bool} (hk : keyTy P kt k = true) (hu : P.underlying kt = some kind) (h : keyEq k k' = some b) : Instr.sameNow kind k k' = some b := by
  unfold keyEq at h
  split at h
  · split at h
    · rename_i e
      subst e
      cases h
      simp only [keyTy, hu] at hk
      cases kind <;> simp at hk
      simp [Instr.sameNow]
    · cases h
  · cases h
    simp only [keyTy, hu] at hk
    cases kind <;> simp at hk
    simp [Instr.sameNow]
  · cases h

def ER (ρ : Pl) (es : List (Value × Value)) (ces : List MapEntry) : Prop :=
  es.length = ces.length ∧ ∀ (j : Nat) (e : Value × Value) (c : MapEntry), es[j]? = some e → ces[j]? = some c → VR ρ e.1 c.key ∧ scal e.1 = true ∧ VR ρ e.2 c.val

/-- Two answers of a search, alike. -/
def QR (ρ : Pl) (q q' : Option (Nat × Value)) : Prop :=
  match q, q' with
  | none, none => True
  | some (j, v), some (j', v') => j = j' ∧ VR ρ v v'
  | _, _ => False

theorem ba_beq (a b : ByteArray) : (a == b) = true ↔ a = b := by
  cases a; cases b
  constructor
  · intro h
    have : (_ : Array UInt8) == _ := h
    simp at this
    rw [this]
  · intro h; cases h
    show ((_ : Array UInt8) == _) = true
    simp

theorem find_sound {P : Program} {ρ : Pl} {kt : TypeId} {kind : TypeDesc} {k : Value} (hk : keyTy P kt k = true) (hu : P.underlying kt = some kind) : ∀ (es : List (Value × Value)) (ces : List MapEntry) (i : Nat) (r : Option (Nat × Value)), ER ρ es ces → findA k es i = some r →
    ∃ r', Instr.findNow kind k ces i = some r' ∧ QR ρ r r'
  | [], [], i, r, _, h => by simp [findA] at h; subst h; exact ⟨none, rfl, trivial⟩
  | [], _ :: _, _, _, h, _ => by have := h.1; simp at this
  | _ :: _, [], _, _, h, _ => by have := h.1; simp at this
  | (k', v) :: es, c :: ces, i, r, he, h => by
    obtain ⟨h1, h2, h3⟩ := he.2 0 (k', v) c rfl rfl
    have hck : c.key = k' := VR.scal_eq h2 h1
    unfold findA at h
    split at h
    · rename_i hb
      cases h
      refine ⟨some (i, c.val), ?_, rfl, h3⟩
      simp only [Instr.findNow, hck, sameNow_eq hk hu hb]
    · rename_i hb
      obtain ⟨r', h4, h5⟩ := find_sound hk hu es ces (i + 1) r ⟨by have := he.1; simpa using this, fun j a b ha hb => he.2 (j + 1) a b (by simpa using ha) (by simpa using hb)⟩ h
      refine ⟨r', ?_, h5⟩
      simp only [Instr.findNow, hck, sameNow_eq hk hu hb, h4]
    · cases h

theorem keyTy_scal {P : Program} {kt : TypeId} {k : Value} (h : keyTy P kt k = true) : scal k = true := by
  unfold keyTy at h
  split at h <;> first | rfl | cases h

theorem checkKey_run {P : Program} {kt : TypeId} {kind : TypeDesc} {k : Value} (hk : keyTy P kt k = true) (hu : P.underlying kt = some kind) (b : Bool) (n : Nat) (w : World) : (Instr.checkKey b (n + 1) kt k).run P w = .ok () w := by
  unfold keyTy at hk
  split at hk
  · rw [hu] at hk
    cases kind <;> simp at hk
    simp [Instr.checkKey, run_underlying' hu]
  · rw [hu] at hk
    cases kind <;> simp at hk
    simp [Instr.checkKey, run_underlying' hu]
  · cases hk

theorem keyTy_kind {P : Program} {kt : TypeId} {k : Value} (h : keyTy P kt k = true) : ∃ kind, P.underlying kt = some kind := by
  unfold keyTy at h
  split at h
  · split at h
    · exact ⟨_, by assumption⟩
    · cases h
  · split at h
    · exact ⟨_, by assumption⟩
    · cases h
  · cases h

theorem entries_sound {P : Program} {ρ : Pl} {H : Heap} {w : World} (r : Rel ρ H w) {x x' : Value} {es : List (Value × Value)} (h : entriesA H x = some es) (hx : VR ρ x x') :
    (x' = .map none ∧ es = []) ∨ ∃ b ces clk, x' = .map (some b) ∧ w.heap[b]? = some (.map ces clk) ∧ ER ρ es ces.toList := by
  unfold entriesA at h
  split at h
  · cases h; cases hx; exact .inl ⟨rfl, rfl⟩
  · split at h
    · rename_i i es' hi
      cases h
      cases hx with
      | map hρ =>
      obtain ⟨ces, clk, h1, h2, h3⟩ := r.blk _ _ _ _ _ hρ hi
      exact .inr ⟨_, ces, clk, rfl, h1, by simpa using h2, fun j e c he hc => h3 j e c he (by simpa using hc)⟩
    · cases h
  · cases h

theorem run_getMap {P : Program} {w : World} {b : Nat} {ces : Array MapEntry} {clk : Nat} (h : w.heap[b]? = some (.map ces clk)) : (getObj b).run P w = .ok (.map ces clk) w := by
  simp [getObj, Sem.run, h]

theorem zeroV_run {P : Program} {ρ : Pl} {t : TypeId} {z : Value} (h : zeroV P t = some z) (w : World) : (zeroValue t).run P w = .ok z w ∧ VR ρ z z := by
  unfold zeroV at h
  split at h
  · rename_i z' hz
    obtain ⟨i, hi, hz'⟩ := Option.bind_eq_some_iff.1 hz
    split at h
    · rename_i hs
      cases h
      exact ⟨by simp [zeroValue, typeInfo, hi, hz'], VR.scal hs⟩
    · split at h
      · rename_i cs _
        split at h
        · rename_i hs
          cases h
          refine ⟨by simp [zeroValue, typeInfo, hi, hz'], .agg rfl (fun j x y hx hy => ?_)⟩
          rw [hx] at hy; cases hy
          exact VR.scal (List.all_eq_true.1 hs _ (by simpa using Array.mem_of_getElem? hx))
        · cases h
      · cases h
  · cases h

theorem lookup_sound {P : Program} {ρ : Pl} {H : Heap} {w : World} (r : Rel ρ H w) {t kt e : TypeId} {m m' k k' z : Value} {es : List (Value × Value)} {q : Option (Nat × Value)} (ok : Bool) (hu : P.underlying t = some (.map kt e)) (he : entriesA H m = some es) (hm : VR ρ m m')
    (hk : keyTy P kt k = true) (hkk : VR ρ k k') (hz : zeroV P e = some z) (hf : findA k es 0 = some q) :
    ∃ v', VR ρ (lookV ok z q) v' ∧ (Instr.lookup t m' k' ok).run P w = .ok v' w := by
  obtain ⟨kind, hkind⟩ := keyTy_kind hk
  have hke : k' = k := VR.scal_eq (keyTy_scal hk) hkk
  subst hke
  have hzr := zeroV_run (ρ := ρ) hz w
  have hres : ∀ q' : Option (Nat × Value), QR ρ q q' →
      VR ρ (lookV ok z q) (lookV ok z q') := by
    have pair : ∀ (x y : Value) (b : Bool), VR ρ x y → VR ρ (if ok then .tuple #[x, .bool b] else x) (if ok then .tuple #[y, .bool b] else y) := by
      intro x y b h
      cases ok
      · exact h
      · refine .tuple rfl (fun j u v hu hv => ?_)
        match j with
        | 0 => simp at hu hv; subst hu; subst hv; exact h
        | 1 => simp at hu hv; subst hu; subst hv; exact .bool _
        | j + 2 => simp at hu
    intro q' h
    cases q <;> cases q' <;> first | exact h.elim | exact pair _ _ _ hzr.2 | exact pair _ _ _ h.2
  rcases entries_sound (P := P) r he hm with ⟨rfl, rfl⟩ | ⟨b, ces, clk, rfl, hb, hER⟩
  · obtain ⟨q', h1, h2⟩ := find_sound hk hkind [] [] 0 q ⟨rfl, fun j e c h => by simp at h⟩ hf
    refine ⟨_, hres q' h2, ?_⟩
    have hfk : (Instr.findKey kt k' []).run P w = .ok q' w := by simp [Instr.findKey, run_underlying' hkind, h1]
    have hck := checkKey_run hk hkind true 9999 w
    simp only [Instr.lookup, Sem.run_bind, run_underlying' hu, Result.andThen_ok, Sem.run_pure, List.isEmpty_toArray, List.isEmpty_nil, hck, hfk]
    cases q' <;> simp [hzr.1, lookV]
  · obtain ⟨q', h1, h2⟩ := find_sound hk hkind es ces.toList 0 q hER hf
    refine ⟨_, hres q' h2, ?_⟩
    have hfk : (Instr.findKey kt k' ces.toList).run P w = .ok q' w := by simp [Instr.findKey, run_underlying' hkind, h1]
    have hck := checkKey_run hk hkind ces.isEmpty 9999 w
    simp only [Instr.lookup, Sem.run_bind, run_underlying' hu, Result.andThen_ok, Sem.run_pure, run_getMap hb, hck, hfk]
    cases q' <;> simp [hzr.1, lookV]

theorem find_lt {k : Value} : ∀ (es : List (Value × Value)) (i j : Nat) (v : Value), findA k es i = some (some (j, v)) → i ≤ j ∧ ∃ e, es[j - i]? = some e ∧ keyEq k e.1 = some true ∧ e.2 = v
  | [], i, j, v, h => by simp [findA] at h
  | (k', x) :: es, i, j, v, h => by
    unfold findA at h
    split at h
    · rename_i hb
      cases h
      exact ⟨Nat.le_refl _, (k', x), by simp, hb, rfl⟩
    · obtain ⟨h1, e, h2, h3⟩ := find_lt es (i + 1) j v h
      refine ⟨by omega, e, ?_, h3⟩
      rw [show j - i = (j - (i + 1)) + 1 by omega]
      simpa using h2
    · cases h

theorem keyEq_true {k k' : Value} (h : keyEq k k' = some true) : k' = k := by
  unfold keyEq at h
  split at h
  · split at h
    · rename_i e; subst e; simp at h; rw [h]
    · cases h
  · simp only [Option.some.injEq, ba_beq] at h; rw [h]
  · cases h

theorem sameBits_refl {k : Value} {P : Program} {kt : TypeId} (h : keyTy P kt k = true) : Instr.sameBits 10000 k k = true := by
  unfold keyTy at h
  split at h
  · simp [Instr.sameBits]
  · simp only [Instr.sameBits, ba_beq]
  · cases h

theorem run_setMap {P : Program} {w : World} {b : Nat} {ces : Array MapEntry} {clk : Nat} (h : w.heap[b]? = some (.map ces clk)) (o : Obj) : (setObj b o).run P w = .ok () (putO w b o) := by
  simp [setObj, Sem.run, h, putO]

theorem update_sound {P : Program} {N : Nat} {ρ : Pl} {H : Heap} {w : World} (r : Rel ρ H w) {t kt e : TypeId} {i : Nat} {m' k k' x x' : Value} {es : List (Value × Value)} {q : Option (Nat × Value)} (hu : P.underlying t = some (.map kt e)) (hN : N ≤ i) (hi : H[i]? = some (.map es)) (hm : VR ρ (.map (some i)) m')
    (hk : keyTy P kt k = true) (hkk : VR ρ k k') (hx : VR ρ x x') (hf : findA k es 0 = some q) :
    ∃ w', (Instr.mapUpdate t m' k' x').run P w = .ok () w' ∧
      Rel ρ (H.setIfInBounds i (.map (updM es q k x))) w' ∧
      Grow N ρ ρ H (H.setIfInBounds i (.map (updM es q k x))) w w' := by
  obtain ⟨kind, hkind⟩ := keyTy_kind hk
  have hsc := keyTy_scal hk
  have hke : k' = k := VR.scal_eq hsc hkk
  subst hke
  cases hm with
  | map hρ =>
  rename_i b s E
  obtain ⟨ces, clk, hb, hlen, hent⟩ := r.blk _ _ _ _ _ hρ hi
  have hER : ER ρ es ces.toList := ⟨by simpa using hlen, fun j e c he hc => hent j e c he (by simpa using hc)⟩
  obtain ⟨q', h1, h2⟩ := find_sound hk hkind es ces.toList 0 q hER hf
  have hfk : (Instr.findKey kt k' ces.toList).run P w = .ok q' w := by simp [Instr.findKey, run_underlying' hkind, h1]
  have hck := checkKey_run hk hkind false 9999 w
  have hbL := r.lt i b s E (get_lt hi) hρ
  cases q with
  | none =>
    cases q' with
    | some _ => exact h2.elim
    | none =>
    have hset := Rel.setObj (N := N) r (.map (es ++ [(k', x)])) (.map (ces.push { key := k', val := x', born := clk }) (clk + 1)) hρ hN hi rfl rfl
      ⟨_, _, putO_same hbL, by simp [hlen], fun j e c he hc => by
        rw [List.getElem?_append] at he
        rw [Array.getElem?_push] at hc
        split at he
        · rename_i hj
          rw [if_neg (by omega)] at hc
          exact hent j e c he hc
        · rename_i hj
          have hj0 : j = ces.size := by
            have := getL_lt he
            simp at this; omega
          rw [if_pos hj0] at hc
          cases hc
          rw [hj0, hlen] at he
          simp at he
          subst he
          exact ⟨VR.scal hsc, hsc, hx⟩⟩
    refine ⟨_, ?_, hset.1, hset.2⟩
    simp only [Instr.mapUpdate, Sem.run_bind, run_underlying' hu, Result.andThen_ok, run_getMap hb, hck, hfk, run_setMap hb]
  | some p =>
    obtain ⟨j, v⟩ := p
    cases q' with
    | none => exact h2.elim
    | some p' =>
    obtain ⟨j', v'⟩ := p'
    obtain ⟨rfl, hvv⟩ := h2
    obtain ⟨_, e0, he0, hke0, _⟩ := find_lt es 0 j v hf
    rw [Nat.sub_zero] at he0
    have hkey0 := keyEq_true hke0
    have hjc : j < ces.size := by rw [← hlen]; exact getL_lt he0
    have hcj : ces[j]? = some ces[j] := Array.getElem?_eq_getElem hjc
    obtain ⟨hk1, hk2, hk3⟩ := hent j e0 _ he0 hcj
    have hck0 : ces[j].key = k' := by rw [VR.scal_eq hk2 hk1, hkey0]
    have hkts : (Instr.keyThatStays (((ces[j]?).map (·.key)).getD k') k').run P w = .ok k' w := by
      simp [Instr.keyThatStays, hjc, hck0, sameBits_refl hk]
    have hset := Rel.setObj (N := N) r (.map (es.set j (k', x))) (.map (ces.modify j fun e => { e with key := k', val := x' }) clk) hρ hN hi rfl rfl
      ⟨_, _, putO_same hbL, by simp [hlen], fun q e c he hc => by
        rw [List.getElem?_set] at he
        rw [Array.getElem?_modify] at hc
        by_cases hjq : j = q
        · subst hjq
          rw [if_pos rfl] at he hc
          rw [if_pos (getL_lt he0)] at he
          cases he
          rw [hcj] at hc
          cases hc
          exact ⟨VR.scal hsc, hsc, hx⟩
        · rw [if_neg hjq] at he hc
          exact hent q e c he hc⟩
    refine ⟨_, ?_, hset.1, hset.2⟩
    simp only [Instr.mapUpdate, Sem.run_bind, run_underlying' hu, Result.andThen_ok, run_getMap hb, hck, hfk, hkts, run_setMap hb]

theorem delete_sound {P : Program} {N : Nat} {ρ : Pl} {H : Heap} {w : World} (r : Rel ρ H w) {t t' ty kt e : TypeId} {i : Nat} {m' k k' : Value} {es : List (Value × Value)} {q : Option (Nat × Value)} (hu : P.underlying t = some (.map kt e)) (hN : N ≤ i) (hi : H[i]? = some (.map es)) (hm : VR ρ (.map (some i)) m')
    (hk : keyTy P kt k = true) (hkk : VR ρ k k') (hf : findA k es 0 = some q) :
    ∃ w', (Builtin.delete_ #[t, t'] ty #[m', k']).run P w = .ok (.tuple #[]) w' ∧
      Rel ρ (H.setIfInBounds i (.map (delM es q))) w' ∧
      Grow N ρ ρ H (H.setIfInBounds i (.map (delM es q))) w w' := by
  obtain ⟨kind, hkind⟩ := keyTy_kind hk
  have hsc := keyTy_scal hk
  have hke : k' = k := VR.scal_eq hsc hkk
  subst hke
  cases hm with
  | map hρ =>
  rename_i b s E
  obtain ⟨ces, clk, hb, hlen, hent⟩ := r.blk _ _ _ _ _ hρ hi
  have hER : ER ρ es ces.toList := ⟨by simpa using hlen, fun j e c he hc => hent j e c he (by simpa using hc)⟩
  obtain ⟨q', h1, h2⟩ := find_sound hk hkind es ces.toList 0 q hER hf
  have hfk : (Instr.findKey kt k' ces.toList).run P w = .ok q' w := by simp [Instr.findKey, run_underlying' hkind, h1]
  have hck := checkKey_run hk hkind ces.isEmpty 9999 w
  have hbL := r.lt i b s E (get_lt hi) hρ
  cases q with
  | none =>
    cases q' with
    | some _ => exact h2.elim
    | none =>
    have hset := Rel.setObj (N := N) r (.map es) (.map ces clk) hρ hN hi rfl rfl ⟨_, _, putO_same hbL, hlen, hent⟩
    refine ⟨_, ?_, hset.1, hset.2⟩
    simp only [Builtin.delete_, List.getElem?_toArray, List.getElem?_cons_zero, List.getElem?_cons_succ, Sem.run_bind, run_underlying' hu, Result.andThen_ok, run_getMap hb, hck, hfk, run_setMap hb, Sem.run_pure]
  | some p =>
    obtain ⟨j, v⟩ := p
    cases q' with
    | none => exact h2.elim
    | some p' =>
    obtain ⟨j', v'⟩ := p'
    obtain ⟨rfl, hvv⟩ := h2
    obtain ⟨_, e0, he0, hke0, _⟩ := find_lt es 0 j v hf
    rw [Nat.sub_zero] at he0
    have hjc : j < ces.size := by rw [← hlen]; exact getL_lt he0
    have hjl := getL_lt he0
    have hset := Rel.setObj (N := N) r (.map (es.eraseIdx j)) (.map (ces.eraseIdxIfInBounds j) clk) hρ hN hi rfl rfl
      ⟨_, _, putO_same hbL, by simp [Array.eraseIdxIfInBounds, hjc, List.length_eraseIdx, hjl, hlen], fun q e c he hc => by
        rw [List.getElem?_eraseIdx] at he
        rw [Array.eraseIdxIfInBounds, dif_pos hjc, Array.getElem?_eraseIdx] at hc
        split at he
        · rename_i hq; rw [if_pos hq] at hc; exact hent q e c he hc
        · rename_i hq; rw [if_neg hq] at hc; exact hent (q + 1) e c he hc⟩
    refine ⟨_, ?_, hset.1, hset.2⟩
    simp only [Builtin.delete_, List.getElem?_toArray, List.getElem?_cons_zero, List.getElem?_cons_succ, Sem.run_bind, run_underlying' hu, Result.andThen_ok, run_getMap hb, hck, hfk, run_setMap hb, Sem.run_pure]

end Go.Proofs.Ytcapjjmikapmfaa.M
