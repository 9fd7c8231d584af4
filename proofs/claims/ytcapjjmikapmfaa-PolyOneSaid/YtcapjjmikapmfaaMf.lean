/- Each operation of M, held against the model's: append, copy, make, conversions, maps. -/
import Derived.Deep.DeepAppendWide
import Derived.Test.YtcapjjmikapmfaaMe
set_option linter.unusedVariables false
set_option linter.unusedSimpArgs false
namespace Go.Proofs.Ytcapjjmikapmfaa.M
open Go

theorem lenA_sound {P : Program} {ρ : Pl} {x x' : Value} {n : Nat} (h : lenA x = some n) (hx : VR ρ x x') (w : World) : (Builtin.lenOf x').run P w = .ok n w := by
  unfold lenA at h
  split at h
  · cases h; cases hx <;> rfl
  · cases h; cases hx; rfl
  · cases h

/-- The cells that a source gives. -/
theorem srcA_sound {P : Program} {ρ : Pl} {H : Heap} {w : World} (r : Rel ρ H w) {z n m : Nat} {x x' : Value} {xs : List Value} (h : srcA H z n x = some xs) (hl : lenA x = some m) (hnm : n ≤ m) (hx : VR ρ x x') :
    ∃ xs', VL ρ xs xs' ∧ (Builtin.firstCells z n x').run P w = .ok xs'.toArray w := by
  unfold srcA at h
  split at h
  · rename_i i o z0 len cap
    simp only [lenA, Option.some.injEq] at hl
    subst hl
    split at h
    · rename_i vs ex tl hi
      split at h
      · rename_i hle
        cases h
        rcases hx.slice_inv with ⟨b, s, E, c', hρ, rfl, _⟩ | ⟨rfl, rfl, a', rfl⟩
        · obtain ⟨cs, hcs, hcell⟩ := (r.blk i b s E _ hρ hi).row
          refine ⟨(cs.drop o).take (n * z), (hcs.drop o).take _, ?_⟩
          have hlen : ((cs.drop o).take (n * z)).length = n * z := by have := hcs.1; simp; omega
          exact run_firstCells_some w z n _ _ _ _ hlen (fun j v hv => by
            rw [List.getElem?_take] at hv
            split at hv
            · rw [List.getElem?_drop] at hv
              rw [add_plain, Nat.add_assoc]
              exact hcell _ v hv
            · cases hv)
        · have hn0 : n = 0 := by omega
          subst hn0
          exact ⟨[], by simpa using VL.nil ρ, run_firstCells_some w z 0 a' 0 0 [] (by simp) (fun j v hv => by simp at hv)⟩
      · cases h
    · cases h
  · cases h
    cases hx
    exact ⟨[], VL.nil ρ, by simpa using run_firstCells_none w z n 0 0⟩
  · cases h
    cases hx
    rename_i s
    refine ⟨_, VL.scal ?_, by simp only [Builtin.firstCells, Sem.run_pure, Array.toArray_toList]⟩
    simp only [List.all_eq_true]
    intro v hv
    simp only [Array.mem_toList_iff, Array.mem_map] at hv
    obtain ⟨b, _, rfl⟩ := hv
    rfl
  · cases h

/-- The cells of a source of no length. -/
theorem src_none {P : Program} {ρ : Pl} {x x' : Value} (hl : lenA x = some 0) (hx : VR ρ x x') (z : Nat) (w : World) : (Builtin.firstCells z 0 x').run P w = .ok #[] w := by
  unfold lenA at hl
  split at hl
  · cases hl
    cases hx
    · exact run_firstCells_none w z 0 0 0
    · exact run_firstCells_some w z 0 _ _ _ [] (by simp) (fun j v hv => by simp at hv)
    · exact run_firstCells_some w z 0 _ _ _ [] (by simp) (fun j v hv => by simp at hv)
  · simp only [Option.some.injEq] at hl
    cases hx
    simp [Builtin.firstCells]
  · cases hl

theorem info_of {P : Program} {e z bt : Nat} {zs : List Value} (hz : szOf P e = some z) (hb : bytesOf P e = some bt) (hzc : zc P e = some zs) :
    ∃ i zv, P.info? e = some i ∧ i.size = z ∧ i.bytes = bt ∧ i.zero = some zv ∧ zv.cells = zs.toArray := by
  obtain ⟨zv, ⟨i, hi, hz0⟩, hzl, _⟩ := zc_zero hzc
  refine ⟨i, zv, hi, ?_, ?_, hz0, by rw [← hzl]⟩
  · simpa [szOf, hi] using hz
  · simpa [bytesOf, hi] using hb

theorem nonInt_run {α : Type} {P : Program} {t : TypeId} (h : nonInt P t) (w : World) (F : Bool → World → Result α) :
    ((Sem.run P (underlying t) w).andThen fun a w' => (Sem.run P (Pure.pure (match a with | .int _ => true | _ => false)) w').andThen F) = F false w := by
  unfold nonInt at h
  cases e : P.underlying t with
  | none => simp [e] at h
  | some d =>
    rw [e] at h
    rw [run_underlying' e]
    cases d <;> first | rfl | exact h.elim

/-- append, where a new block is made: what it does, whatever the capacity drawn. -/
theorem run_append_new {P : Program} {w : World} {t t' ty e z bt : Nat} {zs : List Value} {A : Option Addr} {len c n : Nat} {x' : Value} {olds news : List Value} (hu : P.underlying t = some (.slice e)) (ht : nonInt P t') (hz : szOf P e = some z) (hb : bytesOf P e = some bt)
    (hzc : zc P e = some zs) (hl : (Builtin.lenOf x').run P w = .ok n w)
    (hold : ∀ m, (Builtin.firstCells z len (.slice A len c)).run P { w with drawn := m } = .ok olds.toArray { w with drawn := m })
    (hnew : ∀ m, (Builtin.firstCells z n x').run P { w with drawn := m } = .ok news.toArray { w with drawn := m })
    (hgt : c < len + n) (hn : len + n ≤ 2 ^ 48) (hbt : (len + n + (len + n) / 4 + 192) * bt ≤ 281474976710656) :
    ∃ cap m, len + n ≤ cap ∧ (Builtin.append_ #[t, t'] ty #[.slice A len c, x']).run P w =
      .ok (.slice (some ⟨w.heap.size, 0, none⟩) (len + n) cap) (({ w with drawn := m } : World).alloc (.cells (olds ++ news ++ (Builtin.zeroCells zs.toArray (cap - (len + n))).toList).toArray e)) := by
  obtain ⟨i, zv, hi, rfl, rfl, hzv, hzc2⟩ := info_of hz hb hzc
  have hcapb : Builtin.nextslicecap (len + n) c * i.bytes ≤ 281474976710656 := growslice_fits_wide hgt hbt
  refine ⟨(Question.appendCap (len + n) c e).cut (w.tape w.drawn (.appendCap (len + n) c e)), w.drawn + 1, by simp [Question.cut], ?_⟩
  have hold' := hold (w.drawn + 1)
  have hnew' := hnew (w.drawn + 1)
  simp only [Builtin.append_, List.getElem?_toArray, List.getElem?_cons_zero, List.getElem?_cons_succ, Sem.run_bind, run_underlying' hu, Result.andThen_ok, run_sizeOf' hz]
  refine (nonInt_run ht w _).trans ?_
  have hlen : ¬ (len + n ≤ c) := by omega
  have hmax : ¬ ((len + n : Nat) : Int) > IntKind.i64.max := by simp; omega
  have hcb : ¬ (Builtin.nextslicecap (len + n) c * i.bytes > 2 ^ 48) := by omega
  simp only [Bool.false_eq_true, if_false, hl, Result.andThen_ok, Sem.run_bind, typeInfo, hi, run_program, Sem.run_pure, hlen, hmax, hcb, false_and, Sem.run_ite, run_choose, Question.forced, run_askRoom, World.drew_eq]
  have ho : (Builtin.firstCells i.size len (.slice A len c)).run P w.drew = .ok olds.toArray w.drew := hold'
  have hne : (Builtin.firstCells i.size n x').run P w.drew = .ok news.toArray w.drew := hnew'
  have hzr : (zeroValue e).run P w.drew = .ok zv w.drew := by simp [zeroValue, typeInfo, hi, hzv]
  simp only [ho, Result.andThen_ok, Bool.not_false, if_true, hne, hzr, hzc2, newRow, Sem.run_bind, run_newObj, Sem.run_pure, World.alloc_eq]
  have hap : ∀ Z : Array Value, olds.toArray ++ news.toArray ++ Z = (olds ++ news ++ Z.toList).toArray := fun Z => by simp
  rw [hap]
  rfl

theorem firstCells_drawn {P : Program} {ρ : Pl} {H : Heap} {w : World} (r : Rel ρ H w) {z n m : Nat} {x x' : Value} {xs : List Value} (h : srcA H z n x = some xs) (hl : lenA x = some m) (hnm : n ≤ m) (hx : VR ρ x x') :
    ∃ xs', VL ρ xs xs' ∧ ∀ k, (Builtin.firstCells z n x').run P { w with drawn := k } = .ok xs'.toArray { w with drawn := k } := by
  unfold srcA at h
  split at h
  · rename_i i o z0 len cap
    simp only [lenA, Option.some.injEq] at hl
    subst hl
    split at h
    · rename_i vs ex tl hi
      split at h
      · rename_i hle
        cases h
        rcases hx.slice_inv with ⟨b, s, E, c', hρ, rfl, _⟩ | ⟨rfl, rfl, a', rfl⟩
        · obtain ⟨cs, hcs, hcell⟩ := (r.blk i b s E _ hρ hi).row
          refine ⟨(cs.drop o).take (n * z), (hcs.drop o).take _, fun k => ?_⟩
          have hlen : ((cs.drop o).take (n * z)).length = n * z := by have := hcs.1; simp; omega
          exact run_firstCells_some _ z n _ _ _ _ hlen (fun j v hv => by
            rw [List.getElem?_take] at hv
            split at hv
            · rw [List.getElem?_drop] at hv
              rw [add_plain, Nat.add_assoc]
              exact hcell _ v hv
            · cases hv)
        · have hn0 : n = 0 := by omega
          subst hn0
          exact ⟨[], by simpa using VL.nil ρ, fun k => run_firstCells_some _ z 0 a' 0 0 [] (by simp) (fun j v hv => by simp at hv)⟩
      · cases h
    · cases h
  · cases h
    cases hx
    exact ⟨[], VL.nil ρ, fun k => by simpa using run_firstCells_none _ z n 0 0⟩
  · cases h
    cases hx
    rename_i s
    refine ⟨_, VL.scal ?_, fun k => by simp only [Builtin.firstCells, Sem.run_pure, Array.toArray_toList]⟩
    simp only [List.all_eq_true]
    intro v hv
    simp only [Array.mem_toList_iff, Array.mem_map] at hv
    obtain ⟨b, _, rfl⟩ := hv
    rfl
  · cases h

theorem oneCell_all {l : List Value} (h : ∀ v ∈ l, v.oneCell' = true) : ∀ v ∈ l.toArray.toList, v.oneCell' = true := by simpa using h

/-- append, where there is room. -/
theorem run_append_room' {P : Program} {w : World} {t t' ty e z n len c b o : Nat} {x' : Value} {news : List Value} (hu : P.underlying t = some (.slice e)) (ht : nonInt P t') (hz : szOf P e = some z)
    (hl : (Builtin.lenOf x').run P w = .ok n w) (hnew : (Builtin.firstCells z n x').run P w = .ok news.toArray w) (hle : len + n ≤ c)
    (hc : ∀ j, j < news.length → (w.cell? ⟨b, o + len * z + j, none⟩).isSome = true) (hf : ∀ j, j < news.length → w.frozen? ⟨b, o + len * z + j, none⟩ = false) (h1 : ∀ v ∈ news, v.oneCell' = true) :
    (Builtin.append_ #[t, t'] ty #[.slice (some ⟨b, o, none⟩) len c, x']).run P w = .ok (.slice (some ⟨b, o, none⟩) (len + n) c) (w.setCells b (o + len * z) news) := by
  have hst := run_storeCells_cells (P := P) b (o + len * z) news 0 w (by simpa using hc) (by simpa using hf) h1
  simp only [Builtin.append_, List.getElem?_toArray, List.getElem?_cons_zero, List.getElem?_cons_succ, Sem.run_bind, run_underlying' hu, Result.andThen_ok, run_sizeOf' hz]
  refine (nonInt_run ht w _).trans ?_
  simp only [Bool.false_eq_true, if_false, hl, Result.andThen_ok, Sem.run_bind, Sem.run_pure, hle, if_true, Bool.not_false, Sem.run_ite, hnew, add_plain, List.toList_toArray, hst, Nat.add_zero]

theorem append_sound {P : Program} {N : Nat} {ρ : Pl} {H H' : Heap} {w : World} (r : Rel ρ H w) (hf : Free ρ H H') {t t' ty : TypeId} {s x s' x' v : Value} (h : AppendA P N H t s x v H') (ht : nonInt P t') (hs : VR ρ s s') (hx : VR ρ x x') :
    ∃ ρ' v' w', Grow N ρ ρ' H H' w w' ∧ Rel ρ' H' w' ∧ VR ρ' v v' ∧ (Builtin.append_ #[t, t'] ty #[s', x']).run P w = .ok v' w' := by
  cases h with
  | nothing e z b n c hu hz hse hl =>
    subst hse
    refine ⟨ρ, s', w, Grow.refl N ρ H w, r, hs, ?_⟩
    have hsrc := src_none (P := P) hl hx z w
    have hlo := lenA_sound (P := P) hl hx w
    have hform : ∃ b' c', s' = .slice b' n c' ∧ n ≤ c' := by
      cases hs
      · exact ⟨_, _, rfl, Nat.le_refl _⟩
      · exact ⟨_, _, rfl, by omega⟩
      · exact ⟨_, _, rfl, Nat.le_refl _⟩
    obtain ⟨b', c', rfl, hle⟩ := hform
    simp only [Builtin.append_, List.getElem?_toArray, List.getElem?_cons_zero, List.getElem?_cons_succ, Sem.run_bind, run_underlying' hu, Result.andThen_ok, run_sizeOf' hz]
    refine (nonInt_run ht w _).trans ?_
    cases b' <;> simp [hlo, hle, hsrc, storeCells]
  | new e z bt zs xs n hu hz hb hzc hzl hse hl hsrc hxl h0 hn hbt =>
    subst hse
    cases hs
    obtain ⟨xs', hv, hrun⟩ := firstCells_drawn (P := P) r hsrc hl (Nat.le_refl _) hx
    obtain ⟨cap, m, hcap, hrun2⟩ := run_append_new (ty := ty) (olds := []) hu ht hz hb hzc (lenA_sound (P := P) hl hx w) (fun k => by simpa using run_firstCells_none _ z 0 0 0) hrun (by omega) (by omega) (by simpa using hbt)
    have hpre := AL.pre' (rest := (Builtin.zeroCells zs.toArray (cap - n)).toList) hv
    have hsz : (xs' ++ (Builtin.zeroCells zs.toArray (cap - n)).toList).toArray.size = cap * z := by
      simp [size_zeroCells, hzl]
      have := hv.1
      rw [← this, hxl, ← Nat.add_mul]
      congr 1
      omega
    have hnc := newCells_sound (N := N) r (hf H.size (Nat.le_refl _) (by simp)) xs _ e true true m hpre.1 hpre.2
    refine ⟨_, _, _, hnc.2, hnc.1, ?_, by simpa using hrun2⟩
    have hp := upd_same ρ H.size (w.heap.size, 0, (xs' ++ (Builtin.zeroCells zs.toArray (cap - n)).toList).toArray.size)
    have := VR.slice (z := z) (o := 0) (n := n) (c := n) (c' := cap) hp (Nat.le_refl _) (by omega) (by omega)
    simpa using this
  | share e z bt zs xs vs i o len c n ex hu hz hb hzc hzl hse hl hsrc hxl hxc hz0 h0 hn hbt hN hi ho =>
    subst hse
    obtain ⟨xs', hv, hrun⟩ := firstCells_drawn (P := P) r hsrc hl (Nat.le_refl _) hx
    have hfree : ρ H.size = none := hf H.size (Nat.le_refl _) (by simp)
    have hxs' : xs'.length = n * z := by rw [← hv.1]; exact hxl
    -- the new block, where the old one has no room
    have grown : ∀ (A : Option Addr) (c' : Nat) (olds : List Value), VL ρ (vs.drop o) olds → (∀ m, (Builtin.firstCells z len (.slice A len c')).run P { w with drawn := m } = .ok olds.toArray { w with drawn := m }) → c' < len + n →
        ∃ ρ' v' w', Grow N ρ ρ' H ((H.setIfInBounds i (.cells vs (ex && len * z == 0) false)).push (.cells (vs.drop o ++ xs) (len * z == 0) true)) w w' ∧
          Rel ρ' ((H.setIfInBounds i (.cells vs (ex && len * z == 0) false)).push (.cells (vs.drop o ++ xs) (len * z == 0) true)) w' ∧
          VR ρ' (.slice (some ⟨H.size, 0, some z⟩) (len + n) (len + n)) v' ∧ (Builtin.append_ #[t, t'] ty #[.slice A len c', x']).run P w = .ok v' w' := by
      intro A c' olds hov hold hgt
      obtain ⟨cap, m, hcap, hrun2⟩ := run_append_new (ty := ty) (olds := olds) hu ht hz hb hzc (lenA_sound (P := P) hl hx w) hold hrun hgt hn hbt
      have hov2 := hov.append hv
      have hpre := AL.pre' (rest := (Builtin.zeroCells zs.toArray (cap - (len + n))).toList) hov2
      have hol : olds.length = len * z := by rw [← hov.1]; simp; omega
      have hsz : (olds ++ xs' ++ (Builtin.zeroCells zs.toArray (cap - (len + n))).toList).toArray.size = cap * z := by
        simp [size_zeroCells, hzl]
        rw [hol, hxs', ← Nat.add_mul, ← Nat.add_mul]
        congr 1
        omega
      have r2 := Rel.flags r hi (ex && len * z == 0) (fun h => by simp at h; exact h.1)
      have hnc := newCells_sound (N := N) (H := H.setIfInBounds i (.cells vs (ex && len * z == 0) false)) r2 (by simpa using hfree) (vs.drop o ++ xs) _ e (len * z == 0) true m hpre.1 hpre.2
      have hp := upd_same ρ (H.setIfInBounds i (.cells vs (ex && len * z == 0) false)).size (w.heap.size, 0, (olds ++ xs' ++ (Builtin.zeroCells zs.toArray (cap - (len + n))).toList).toArray.size)
      refine ⟨_, _, _, (Grow.flags (N := N) i _).trans hnc.2 (fun q h1 h2 => by simp at h2; omega), hnc.1, ?_, hrun2⟩
      have := VR.slice (z := z) (o := 0) (n := len + n) (c := len + n) (c' := cap) hp (Nat.le_refl _) (by omega) (by omega)
      simpa using this
    rcases hs.slice_inv with ⟨b, s, E, c', hρ, rfl, hlc, hcc, hE⟩ | ⟨rfl, rfl, a', rfl⟩
    · obtain ⟨carr, tyb, fz, hbk, hcE, hlE, hcells, hexf, htlf⟩ := r.blk i b s E _ hρ hi
      by_cases hroom : len + n ≤ c'
      · have hend : s + vs.length + xs.length ≤ carr.size := by
          have h1 : (len + n) * z ≤ c' * z := Nat.mul_le_mul_right z hroom
          rw [Nat.add_mul] at h1
          omega
        have hnz : 0 < xs.length := by rw [hxl]; exact Nat.mul_pos h0 hz0
        have hip := Rel.inPlace (N := N) (e := len * z) r hfree hρ hN hi ho hv carr tyb fz hbk hend hnz
        have hso : s + o + len * z = s + vs.length := by omega
        have hrr := run_append_room' (ty := ty) (b := b) (o := s + o) hu ht hz (lenA_sound (P := P) hl hx w) (hrun w.drawn) hroom
          (fun j hj => by rw [hso, cell_at hbk, Array.getElem?_eq_getElem (by omega)]; rfl) (fun j hj => by rw [hso]; exact frozen_at hbk (by have := htlf rfl; omega)) (cellOk_all hxc hv)
        rw [hso] at hrr
        refine ⟨_, _, _, hip.2, hip.1, ?_, hrr⟩
        have hp := upd_same ρ H.size (b, s + o, E)
        have := VR.slice (z := z) (o := 0) (n := len + n) (c := len + n) (c' := c') hp (Nat.le_refl _) hroom (by omega)
        simpa using this
      · obtain ⟨cs, hcs, hcell⟩ := (r.blk i b s E _ hρ hi).row
        refine grown _ c' (cs.drop o) (hcs.drop o) (fun m => ?_) (by omega)
        refine run_firstCells_some _ z len _ _ _ _ (by have := hcs.1; simp; omega) (fun j v hv => ?_)
        rw [List.getElem?_drop] at hv
        rw [add_plain, Nat.add_assoc]
        exact hcell _ v hv
    · refine grown _ 0 [] ?_ (fun m => ?_) (by omega)
      · rw [List.drop_eq_nil_of_le (by omega)]; exact VL.nil ρ
      · exact run_firstCells_some _ z 0 _ _ _ [] (by simp) (fun j v hv => by simp at hv)
  | move e z bt zs xs vs i o len c n hu hz hb hzc hzl hse hl hsrc hxl hxc hz0 h0 hn hbt hN hi ho =>
    subst hse
    obtain ⟨xs', hv, hrun⟩ := firstCells_drawn (P := P) r hsrc hl (Nat.le_refl _) hx
    have hfree : ρ H.size = none := hf H.size (Nat.le_refl _) (by simp)
    have hxs' : xs'.length = n * z := by rw [← hv.1]; exact hxl
    -- the new block, where the old one has no room
    have grown : ∀ (A : Option Addr) (c' : Nat) (olds : List Value), VL ρ (vs.drop o) olds → (∀ m, (Builtin.firstCells z len (.slice A len c')).run P { w with drawn := m } = .ok olds.toArray { w with drawn := m }) → c' < len + n →
        ∃ ρ' v' w', Grow N ρ ρ' H ((H.setIfInBounds i .dead).push (.cells (vs.drop o ++ xs) true true)) w w' ∧
          Rel ρ' ((H.setIfInBounds i .dead).push (.cells (vs.drop o ++ xs) true true)) w' ∧
          VR ρ' (.slice (some ⟨H.size, 0, some z⟩) (len + n) (len + n)) v' ∧ (Builtin.append_ #[t, t'] ty #[.slice A len c', x']).run P w = .ok v' w' := by
      intro A c' olds hov hold hgt
      obtain ⟨cap, m, hcap, hrun2⟩ := run_append_new (ty := ty) (olds := olds) hu ht hz hb hzc (lenA_sound (P := P) hl hx w) hold hrun hgt hn hbt
      have hov2 := hov.append hv
      have hpre := AL.pre' (rest := (Builtin.zeroCells zs.toArray (cap - (len + n))).toList) hov2
      have hol : olds.length = len * z := by rw [← hov.1]; simp; omega
      have hsz : (olds ++ xs' ++ (Builtin.zeroCells zs.toArray (cap - (len + n))).toList).toArray.size = cap * z := by
        simp [size_zeroCells, hzl]
        rw [hol, hxs', ← Nat.add_mul, ← Nat.add_mul]
        congr 1
        omega
      have r2 := Rel.kill r i
      have hnc := newCells_sound (N := N) (H := H.setIfInBounds i .dead) r2 (by simpa using hfree) (vs.drop o ++ xs) _ e true true m hpre.1 hpre.2
      have hp := upd_same ρ (H.setIfInBounds i .dead).size (w.heap.size, 0, (olds ++ xs' ++ (Builtin.zeroCells zs.toArray (cap - (len + n))).toList).toArray.size)
      refine ⟨_, _, _, (Grow.flags (N := N) i _).trans hnc.2 (fun q h1 h2 => by simp at h2; omega), hnc.1, ?_, hrun2⟩
      have := VR.slice (z := z) (o := 0) (n := len + n) (c := len + n) (c' := cap) hp (Nat.le_refl _) (by omega) (by omega)
      simpa using this
    rcases hs.slice_inv with ⟨b, s, E, c', hρ, rfl, hlc, hcc, hE⟩ | ⟨rfl, rfl, a', rfl⟩
    · obtain ⟨carr, tyb, fz, hbk, hcE, hlE, hcells, hexf, htlf⟩ := r.blk i b s E _ hρ hi
      by_cases hroom : len + n ≤ c'
      · have hend : s + vs.length + xs.length ≤ carr.size := by
          have h1 : (len + n) * z ≤ c' * z := Nat.mul_le_mul_right z hroom
          rw [Nat.add_mul] at h1
          omega
        have hnz : 0 < xs.length := by rw [hxl]; exact Nat.mul_pos h0 hz0
        have hip := Rel.inPlaceMove (N := N) (e := len * z) r hfree hρ hN hi ho hv carr tyb fz hbk hend hnz
        have hso : s + o + len * z = s + vs.length := by omega
        have hrr := run_append_room' (ty := ty) (b := b) (o := s + o) hu ht hz (lenA_sound (P := P) hl hx w) (hrun w.drawn) hroom
          (fun j hj => by rw [hso, cell_at hbk, Array.getElem?_eq_getElem (by omega)]; rfl) (fun j hj => by rw [hso]; exact frozen_at hbk (by have := htlf rfl; omega)) (cellOk_all hxc hv)
        rw [hso] at hrr
        refine ⟨_, _, _, hip.2, hip.1, ?_, hrr⟩
        have hp := upd_same ρ H.size (b, s + o, E)
        have := VR.slice (z := z) (o := 0) (n := len + n) (c := len + n) (c' := c') hp (Nat.le_refl _) hroom (by omega)
        simpa using this
      · obtain ⟨cs, hcs, hcell⟩ := (r.blk i b s E _ hρ hi).row
        refine grown _ c' (cs.drop o) (hcs.drop o) (fun m => ?_) (by omega)
        refine run_firstCells_some _ z len _ _ _ _ (by have := hcs.1; simp; omega) (fun j v hv => ?_)
        rw [List.getElem?_drop] at hv
        rw [add_plain, Nat.add_assoc]
        exact hcell _ v hv
    · refine grown _ 0 [] ?_ (fun m => ?_) (by omega)
      · rw [List.drop_eq_nil_of_le (by omega)]; exact VL.nil ρ
      · exact run_firstCells_some _ z 0 _ _ _ [] (by simp) (fun j v hv => by simp at hv)
  | fits e z xs vs i o len c n tl hu hz hse hl hsrc hxl hxc h0 hle hN hi ho =>
    subst hse
    obtain ⟨xs', hv, hrun⟩ := firstCells_drawn (P := P) r hsrc hl (Nat.le_refl _) hx
    rcases hs.slice_inv with ⟨b, s, E, c', hρ, rfl, hlc, hcc, hE⟩ | ⟨rfl, rfl, a', rfl⟩
    · have ho2 : o + len * z + xs.length ≤ vs.length := by rw [hxl]; rw [Nat.add_mul] at ho; omega
      obtain ⟨hw1, hw2⟩ := writable r hρ hi ho2
      have hso : s + (o + len * z) = s + o + len * z := by omega
      have hrr := run_append_room' (ty := ty) (b := b) (o := s + o) hu ht hz (lenA_sound (P := P) hl hx w) (hrun w.drawn) (by omega : len + n ≤ c')
          (fun j hj => by rw [← hso]; exact hw1 j (by rw [hv.1]; exact hj)) (fun j hj => by rw [← hso]; exact hw2 j (by rw [hv.1]; exact hj)) (cellOk_all hxc hv)
      have hst := Rel.store (N := N) r hρ hN hi ho2 hv
      rw [hso] at hst
      exact ⟨_, _, _, hst.2, hst.1, .slice hρ hle hcc hE, hrr⟩
    · omega

end Go.Proofs.Ytcapjjmikapmfaa.M
