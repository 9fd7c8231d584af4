/- Each operation of M, held against the model's: literals, loads, stores, new blocks, conversions. -/
import Derived.Test.YtcapjjmikapmfaaMd
set_option linter.unusedVariables false
set_option linter.unusedSimpArgs false
namespace Go.Proofs.Ytcapjjmikapmfaa.M
open Go

def AL (ρ : Pl) (c c' : Array Value) : Prop := VL ρ c.toList c'.toList

theorem AL.set {ρ : Pl} {c c' : Array Value} (h : AL ρ c c') (i : Nat) {v v' : Value} (hv : VR ρ v v') : AL ρ (c.setIfInBounds i v) (c'.setIfInBounds i v') := by
  refine ⟨by have := h.1; simpa using this, fun j x y hx hy => ?_⟩
  have hl : c.size = c'.size := by have := h.1; simpa using this
  simp only [Array.toList_setIfInBounds, List.getElem?_set] at hx hy
  by_cases e : i = j
  · rw [if_pos e] at hx hy
    split at hx
    · split at hy
      · cases hx; cases hy; exact hv
      · cases hy
    · cases hx
  · rw [if_neg e] at hx hy
    exact h.2 j x y hx hy

theorem fold_set {ρ : Pl} (off : Nat) : ∀ (l l' : List Value) (k : Nat) (c c' : Array Value), VL ρ l l' → AL ρ c c' →
    AL ρ ((l.zipIdx k).foldl (fun cs p => cs.setIfInBounds (off + p.2) p.1) c) ((l'.zipIdx k).foldl (fun cs p => cs.setIfInBounds (off + p.2) p.1) c')
  | [], [], _, _, _, _, h => h
  | [], _ :: _, _, _, _, h, _ => by have := h.1; simp at this
  | _ :: _, [], _, _, _, h, _ => by have := h.1; simp at this
  | x :: l, y :: l', k, c, c', h, hc => by
    simp only [List.zipIdx_cons, List.foldl_cons]
    exact fold_set off l l' (k + 1) _ _ ⟨by have := h.1; simpa using this, fun j a b ha hb => h.2 (j + 1) a b (by simpa using ha) (by simpa using hb)⟩ (hc.set _ (h.2 0 x y rfl rfl))

/-- Parts of a literal, related one by one. -/
def PL (ρ : Pl) : List (Nat × Value) → List (Nat × Value) → Prop
  | [], [] => True
  | (i, v) :: l, (j, u) :: l' => i = j ∧ VR ρ v u ∧ PL ρ l l'
  | _, _ => False

theorem PL.of {ρ : Pl} {n : Nat} {a : AAct} {ts : Array Value} (f : FR ρ n a ts) : ∀ l : List (Nat × Operand), PL ρ (l.map fun p => (p.1, ev a p.2)) (l.map fun p => (p.1, evC ts p.2))
  | [] => trivial
  | p :: l => ⟨rfl, f.ev p.2, PL.of f l⟩

theorem fill_sound {ρ : Pl} (pl : Nat → Option (Nat × Nat)) : ∀ (l l' : List (Nat × Value)) (c c' r : Array Value), PL ρ l l' → l.all (fun p => !isU p.2) = true → AL ρ c c' → Instr.fill pl c l = some r →
    ∃ r', Instr.fill pl c' l' = some r' ∧ AL ρ r r'
  | [], [], c, c', r, _, _, hc, h => by
    simp only [Instr.fill, Option.some.injEq] at h
    subst h
    exact ⟨c', rfl, hc⟩
  | [], _ :: _, _, _, _, h, _, _, _ => h.elim
  | _ :: _, [], _, _, _, h, _, _, _ => h.elim
  | (i, v) :: l, (j, u) :: l', c, c', r, hp, hu, hc, h => by
    obtain ⟨rfl, hv, hl⟩ := hp
    simp only [List.all_cons, Bool.and_eq_true] at hu
    have hcells := VR.cells (by simpa using hu.1) hv
    have hsz : v.cells.size = u.cells.size := by have := hcells.1; simpa using this
    have hsc : c.size = c'.size := by have := hc.1; simpa using this
    simp only [Instr.fill] at h ⊢
    cases hpl : pl i with
    | none => simp [hpl] at h
    | some q =>
      obtain ⟨off, size⟩ := q
      simp only [hpl] at h ⊢
      split at h
      · cases h
      · rename_i hcond
        rw [hsz, hsc] at hcond
        rw [if_neg hcond]
        refine fill_sound pl l l' _ _ r hl hu.2 ?_ h
        have hfe : ∀ (a c : Array Value), a.zipIdx.foldl (fun cs p => cs.setIfInBounds (off + p.2) p.1) c = a.toList.zipIdx.foldl (fun cs p => cs.setIfInBounds (off + p.2) p.1) c := fun a c => by
          rw [← Array.foldl_toList, Array.toList_zipIdx]
        have := fold_set (ρ := ρ) off v.cells.toList u.cells.toList 0 c c' hcells hc
        rw [← hfe, ← hfe] at this
        exact this

theorem fill_size (pl : Nat → Option (Nat × Nat)) : ∀ (l : List (Nat × Value)) (c r : Array Value), Instr.fill pl c l = some r → r.size = c.size
  | [], c, r, h => by simp only [Instr.fill, Option.some.injEq] at h; rw [h]
  | (i, v) :: l, c, r, h => by
    simp only [Instr.fill] at h
    cases hpl : pl i with
    | none => simp [hpl] at h
    | some q =>
      obtain ⟨off, size⟩ := q
      simp only [hpl] at h
      split at h
      · cases h
      · have hfs : ∀ (l : List (Value × Nat)) (c : Array Value), (l.foldl (fun cs p => cs.setIfInBounds (off + p.2) p.1) c).size = c.size := by
          intro l
          induction l with
          | nil => intro c; rfl
          | cons p l ih => intro c; simp only [List.foldl_cons]; rw [ih]; simp
        have := fill_size pl l _ r h
        rw [this, ← Array.foldl_toList]
        exact hfs _ _

theorem zc_zero {P : Program} {t : TypeId} {zs : List Value} (h : zc P t = some zs) : ∃ z, (∃ i, P.info? t = some i ∧ i.zero = some z) ∧ z.cells.toList = zs ∧ zs.all scal = true := by
  unfold zc at h
  split at h
  · rename_i z hz
    split at h
    · rename_i ha
      cases h
      obtain ⟨i, hi, hz'⟩ := Option.bind_eq_some_iff.1 hz
      exact ⟨z, ⟨i, hi, hz'⟩, rfl, ha⟩
    · cases h
  · cases h

theorem run_zeroValue' {P : Program} {t : TypeId} {zs : List Value} (h : zc P t = some zs) (w : World) : ∃ z, (zeroValue t).run P w = .ok z w ∧ z.cells = zs.toArray := by
  obtain ⟨z, ⟨i, hi, hz⟩, rfl, _⟩ := zc_zero h
  exact ⟨z, by simp [zeroValue, typeInfo, hi, hz], by simp⟩

theorem zc_scal {P : Program} {t : TypeId} {zs : List Value} (h : zc P t = some zs) : zs.all scal = true := by
  obtain ⟨_, _, _, h⟩ := zc_zero h; exact h

theorem AL.scal {ρ : Pl} {l : List Value} (h : l.all M.scal = true) : AL ρ l.toArray l.toArray := by
  unfold AL; simpa using VL.scal h

theorem mapM_places {P : Program} (w : World) : ∀ (fs : List Field) (l : List (Nat × Nat)), fs.mapM (fun f => (szOf P f.type).map fun z => (f.offset, z)) = some l →
    (fs.mapM (fun f => Prod.mk f.offset <$> sizeOf f.type)).run P w = .ok l w
  | [], l, h => by simp at h; subst h; simp
  | f :: fs, l, h => by
    simp only [List.mapM_cons, Option.bind_eq_bind, Option.bind_eq_some_iff, Option.map_eq_some_iff, Option.pure_def, Option.some.injEq] at h
    obtain ⟨p, ⟨z, hz, rfl⟩, l2, hl2, rfl⟩ := h
    have ih := mapM_places w fs l2 hl2
    simp only [List.mapM_cons, Sem.run_bind]
    simp [run_sizeOf' hz, ih]

theorem buildA_sound {P : Program} {ρ : Pl} {t : TypeId} {l l' : List (Nat × Value)} {v : Value} (h : buildA P t l = some v) (hp : PL ρ l l') (w : World) :
    ∃ v', VR ρ v v' ∧ (Instr.build t l'.toArray).run P w = .ok v' w := by
  unfold buildA at h
  split at h
  · rename_i zs pl hz hpl
    split at h
    · rename_i hu
      simp only [Option.map_eq_some_iff] at h
      obtain ⟨cs, hcs, rfl⟩ := h
      obtain ⟨r', h1, h2⟩ := fill_sound pl l l' _ _ cs hp hu (AL.scal (zc_scal hz)) hcs
      obtain ⟨z, hz1, hz2⟩ := run_zeroValue' hz w
      refine ⟨.agg r', .agg (by have := h2.1; simpa using this) (fun j x y hx hy => h2.2 j x y (by simpa using hx) (by simpa using hy)), ?_⟩
      unfold placesA at hpl
      split at hpl
      · rename_i fs hfs
        split at hpl
        · rename_i pls hpls
          cases hpl
          have hm := mapM_places w _ _ hpls
          have hm2 : (fs.mapM (fun f => (do pure (f.offset, ← sizeOf f.type) : Sem (Nat × Nat)))).run P w = .ok pls.toArray w := by
            rw [Array.mapM_eq_mapM_toList]
            simp only [bind_pure_comp, Sem.run_map, hm, Result.andThen_ok]
          simp only [Instr.build, Sem.run_bind, hz1, Result.andThen_ok, run_underlying' hfs, hm2, hz2]
          simp [h1]
        · cases hpl
      · rename_i n e he
        split at hpl
        · rename_i z0 hz0
          cases hpl
          simp only [Instr.build, Sem.run_bind, hz1, Result.andThen_ok, run_underlying' he, run_sizeOf' hz0, hz2]
          simp [h1]
        · cases hpl
      · cases hpl
    · cases h
  · cases h

theorem buildSliceA_sound {P : Program} {ρ : Pl} {t : TypeId} {len : Nat} {l l' : List (Nat × Value)} {cs : List Value} {z : Nat} (h : buildSliceA P t len l = some (cs, z)) (hp : PL ρ l l') (w : World) :
    ∃ (cs' : Array Value) (e : TypeId), VL ρ cs cs'.toList ∧ cs.length = len * z ∧ (Instr.buildSlice t len l'.toArray).run P w = .ok (.slice (some ⟨w.heap.size, 0, none⟩) len len) (w.alloc (.cells cs' e)) := by
  unfold buildSliceA at h
  split at h
  · rename_i e he
    split at h
    · rename_i z0 zs hz hzs
      split at h
      · rename_i hu
        simp only [Option.map_eq_some_iff, Prod.mk.injEq] at h
        obtain ⟨r, hr, rfl, hzz⟩ := h
        have hzz2 := hzz.symm
        subst hzz2
        have hsc := zc_scal hzs
        have hinit : AL ρ ((Array.range (len * z)).map (fun i => zs.toArray[i % zs.toArray.size]!)) ((Array.range (len * z)).map (fun i => zs.toArray[i % zs.toArray.size]!)) := by
          refine ⟨rfl, fun j x y hx hy => ?_⟩
          rw [hx] at hy; cases hy
          simp only [Array.toList_map, List.getElem?_map, Option.map_eq_some_iff] at hx
          obtain ⟨q, hq, rfl⟩ := hx
          by_cases hlt : q % zs.toArray.size < zs.toArray.size
          · rw [getElem!_pos zs.toArray _ hlt]
            exact VR.scal (List.all_eq_true.1 hsc _ (by simp))
          · rw [getElem!_neg zs.toArray _ hlt]
            exact .bool _
        obtain ⟨r', h1, h2⟩ := fill_sound _ l l' _ _ r hp (by simpa using hu.2) hinit hr
        obtain ⟨zv, hz1, hz2⟩ := run_zeroValue' hzs w
        refine ⟨r', e, h2, by simpa using fill_size _ l _ r hr, ?_⟩
        have hle : ¬ (len * z > 2 ^ 24) := by omega
        simp only [Instr.buildSlice, Sem.run_bind, run_underlying' he, Result.andThen_ok, run_sizeOf' hz, if_neg hle, Sem.run_ite, hz1, hz2, List.toList_toArray]
        by_cases h0 : len * z = 0
        · rw [if_pos h0]
          have hd : ∀ g : Nat → Value, Array.map g (Array.range (len * z)) = (Array.range (len * z)).map (fun i => zs.toArray[i % zs.toArray.size]!) := fun g => by simp [h0]
          simp only [Sem.run_pure, Result.andThen_ok, hd, h1]
          simp [newRow]
        · rw [if_neg h0]
          simp only [Sem.run_pure, Result.andThen_ok, h1]
          simp [newRow]
      · cases h
    · cases h
  · cases h

/-! ### Loads and stores -/

theorem ldv_sound {P : Program} {ρ : Pl} {H : Heap} {w : World} (r : Rel ρ H w) {t : TypeId} {i o : Nat} {vs : List Value} {ex tl : Bool} {k : Option Nat} {v x' : Value} (hx : VR ρ (.pointer (some ⟨i, o, none⟩)) x')
    (hi : H[i]? = some (.cells vs ex tl)) (hk : kindOf P t = some k) (hv : ldv vs k o = some v) : ∃ v' ad, VR ρ v v' ∧ x' = .pointer (some ad) ∧ (loadVar t ad).run P w = .ok v' w := by
  cases hx with
  | ptr hρ =>
  rename_i b s E
  obtain ⟨cs, hcs, hcell⟩ := (r.blk i b s E _ hρ hi).row
  cases k with
  | none =>
    simp only [ldv] at hv
    obtain ⟨v', h1, h2⟩ := hcs.get hv
    refine ⟨v', _, h2, rfl, ?_⟩
    have := hcell o v' h1
    simp [loadVar, run_isAgg' hk, this]
  | some n =>
    simp only [ldv] at hv
    split at hv
    · rename_i hle
      cases hv
      have hlen : ((cs.drop o).take n).length = n := by have := hcs.1; simp; omega
      refine ⟨.agg ((cs.drop o).take n).toArray, _, ?_, rfl, ?_⟩
      · have := (hcs.drop o).take n
        exact .agg (by have := this.1; simpa using this) (fun j x y hx hy => this.2 j x y (by simpa using hx) (by simpa using hy))
      · have hl := run_loadCells_list (P := P) w ⟨b, s + o, none⟩ ((cs.drop o).take n) (fun j v hv => by
          rw [List.getElem?_take] at hv
          split at hv
          · rw [List.getElem?_drop] at hv
            rw [add_plain, Nat.add_assoc]
            exact hcell _ v hv
          · cases hv)
        rw [hlen] at hl
        simp [loadVar, run_isAgg' hk, run_sizeOf' (szOf_of_kind hk), hl]
    · cases hv

theorem cellOk_one {ρ : Pl} {v v' : Value} (h : cellOk v = true) (hv : VR ρ v v') : v'.oneCell' = true := by
  cases hv <;> first | rfl | cases h

theorem cellOk_all {ρ : Pl} {l l' : List Value} (h : l.all cellOk = true) (hv : VL ρ l l') : ∀ v ∈ l', v.oneCell' = true := by
  intro v hm
  obtain ⟨j, hj⟩ := List.mem_iff_getElem?.1 hm
  have hlt := getL_lt hj
  have hlt2 : j < l.length := by rw [hv.1]; exact hlt
  have : l[j]? = some l[j] := List.getElem?_eq_getElem hlt2
  exact cellOk_one (List.all_eq_true.1 h _ (List.mem_of_getElem? this)) (hv.2 j _ _ this hj)

/-- Cells that may be written. -/
theorem writable {ρ : Pl} {H : Heap} {w : World} (r : Rel ρ H w) {i b s E o : Nat} {vs : List Value} {tl : Bool} (hρ : ρ i = some (b, s, E)) (hi : H[i]? = some (.cells vs true tl)) {m : Nat} (ho : o + m ≤ vs.length) :
    (∀ j, j < m → (w.cell? ⟨b, s + o + j, none⟩).isSome = true) ∧ (∀ j, j < m → w.frozen? ⟨b, s + o + j, none⟩ = false) := by
  obtain ⟨carr, ty, fz, hb, hE, hl, hc, hex, _⟩ := r.blk i b s E _ hρ hi
  refine ⟨fun j hj => ?_, fun j hj => frozen_at hb (hex rfl _ (by omega) (by omega))⟩
  rw [cell_at hb, Array.getElem?_eq_getElem (by omega)]
  rfl

theorem store_sound {P : Program} {N : Nat} {ρ : Pl} {H : Heap} {w : World} (r : Rel ρ H w) {t : TypeId} {i o n : Nat} {vs new : List Value} {tl : Bool} {x' y y' : Value} (hx : VR ρ (.pointer (some ⟨i, o, none⟩)) x') (hy : VR ρ y y')
    (hN : N ≤ i) (hi : H[i]? = some (.cells vs true tl)) (hz : szOf P t = some n) (hs : stc n y = some new) (ho : o + new.length ≤ vs.length) :
    ∃ w', (Instr.storeAt t x' y').run P w = .ok () w' ∧ Rel ρ (H.setIfInBounds i (.cells (wr vs o new) true tl)) w' ∧ Grow N ρ ρ H (H.setIfInBounds i (.cells (wr vs o new) true tl)) w w' := by
  cases hx with
  | ptr hρ =>
  rename_i b s E
  unfold stc at hs
  split at hs
  · rename_i hc
    cases hs
    have hcells := VR.cells hc.2.2 hy
    have hsz : y'.cells.size = n := by have := hcells.1; simp at this; omega
    obtain ⟨h1, h2⟩ := writable r hρ hi ho
    have hlen : y.cells.toList.length = y'.cells.toList.length := hcells.1
    have hst := run_storeCells_cells (P := P) b (s + o) y'.cells.toList 0 w (fun j hj => by simpa using h1 j (by rw [hlen]; exact hj)) (fun j hj => by simpa using h2 j (by rw [hlen]; exact hj)) (cellOk_all hc.2.1 hcells)
    refine ⟨_, ?_, Rel.store r hρ hN hi ho hcells⟩
    simp [Instr.storeAt, Instr.sureAddr, storeVar, run_sizeOf' hz, hsz, hst]
  · cases hs

theorem AL.cells {ρ : Pl} {v v' : Value} (hu : isU v = false) (h : VR ρ v v') : AL ρ v.cells v'.cells := VR.cells hu h

/-- A new row of cells in both heaps. -/
theorem newCells_sound {N : Nat} {ρ : Pl} {H : Heap} {w : World} (r : Rel ρ H w) (hf : ρ H.size = none) (vs : List Value) (carr : Array Value) (ty : TypeId) (ex tl : Bool) (m : Nat) (hl : vs.length ≤ carr.size)
    (hv : ∀ (k : Nat) (v : Value), vs[k]? = some v → ∃ v', carr[k]? = some v' ∧ VR ρ v v') :
    let w' := ({ w with drawn := m } : World).alloc (.cells carr ty)
    Rel (upd ρ H.size (w.heap.size, 0, carr.size)) (H.push (.cells vs ex tl)) w' ∧ Grow N ρ (upd ρ H.size (w.heap.size, 0, carr.size)) H (H.push (.cells vs ex tl)) w w' := by
  have hext := upd_ext (p := (w.heap.size, 0, carr.size)) hf
  have := Rel.push (N := N) (r.drawn m) hf (.cells vs ex tl) (.cells carr ty) carr.size (BR.newCells vs carr ty ex tl hl (fun k v hk => by obtain ⟨v', a, b⟩ := hv k v hk; exact ⟨v', a, b.mono hext⟩))
  exact ⟨this.1, (Grow.drawn0 N ρ H w m).trans this.2 (fun i h1 h2 => by omega)⟩

theorem upd_same (ρ : Pl) (i : Nat) (p : Nat × Nat × Nat) : upd ρ i p i = some p := by simp [upd]

theorem AL.pre {ρ : Pl} {vs : List Value} {carr : Array Value} (h : VL ρ vs carr.toList) : vs.length ≤ carr.size ∧ ∀ (k : Nat) (v : Value), vs[k]? = some v → ∃ v', carr[k]? = some v' ∧ VR ρ v v' :=
  ⟨by have := h.1; simp at this; omega, fun k v hk => by obtain ⟨v', a, b⟩ := h.get hk; exact ⟨v', by simpa using a, b⟩⟩

theorem AL.pre' {ρ : Pl} {vs vs' rest : List Value} (h : VL ρ vs vs') : vs.length ≤ (vs' ++ rest).toArray.size ∧ ∀ (k : Nat) (v : Value), vs[k]? = some v → ∃ v', (vs' ++ rest).toArray[k]? = some v' ∧ VR ρ v v' := by
  refine ⟨by have := h.1; simp; omega, fun k v hk => ?_⟩
  obtain ⟨v', a, b⟩ := h.get hk
  refine ⟨v', ?_, b⟩
  simp [List.getElem?_append_left (getL_lt a), a]

end Go.Proofs.Ytcapjjmikapmfaa.M
