/- Each operation of M, held against the model's: copy, make, conversions, maps; and all of them in one theorem. -/
import Derived.Test.YtcapjjmikapmfaaMf
import Derived.Laws.BytesString
set_option linter.unusedVariables false
set_option linter.unusedSimpArgs false
namespace Go.Proofs.Ytcapjjmikapmfaa.M
open Go

theorem intArg_run {α : Type} {P : Program} {t : TypeId} {k : IntKind} (h : P.underlying t = some (.int k)) (w : World) (F : Bool → World → Result α) :
    ((Sem.run P (underlying t) w).andThen fun a w' => (Sem.run P (Pure.pure (match a with | .int _ => true | _ => false)) w').andThen F) = F true w := by
  rw [run_underlying' h]
  rfl

theorem wrap_small (q : Nat) (h : q ≤ 2 ^ 48) : IntKind.i64.wrap (q : Int) = q := by
  unfold IntKind.wrap
  simp [IntKind.bits, IntKind.signed]
  omega

/-- append of so many zeros, where a new block is made. -/
theorem run_append_newZ {P : Program} {w : World} {t t' ty e z bt : Nat} {k kd : IntKind} {zs : List Value} {A : Option Addr} {len c n : Nat} {olds : List Value} (hu : P.underlying t = some (.slice e)) (ht : P.underlying t' = some (.int k)) (hz : szOf P e = some z) (hb : bytesOf P e = some bt)
    (hzc : zc P e = some zs) (hzl : zs.length = z)
    (hold : ∀ m, (Builtin.firstCells z len (.slice A len c)).run P { w with drawn := m } = .ok olds.toArray { w with drawn := m })
    (hgt : c < len + n) (hn : len + n ≤ 2 ^ 48) (hbt : (len + n + (len + n) / 4 + 192) * bt ≤ 281474976710656) :
    ∃ cap m, len + n ≤ cap ∧ (Builtin.append_ #[t, t'] ty #[.slice A len c, .int kd (n : Nat)]).run P w =
      .ok (.slice (some ⟨w.heap.size, 0, none⟩) (len + n) cap) (({ w with drawn := m } : World).alloc (.cells (olds ++ (Builtin.zeroCells zs.toArray n).toList ++ (Builtin.zeroCells zs.toArray (cap - (len + n))).toList).toArray e)) := by
  obtain ⟨i, zv, hi, hiz, rfl, hzv, hzc2⟩ := info_of hz hb hzc
  subst hiz
  have hcapb : Builtin.nextslicecap (len + n) c * i.bytes ≤ 281474976710656 := growslice_fits_wide hgt hbt
  refine ⟨(Question.appendCap (len + n) c e).cut (w.tape w.drawn (.appendCap (len + n) c e)), w.drawn + 1, by simp [Question.cut], ?_⟩
  have hold' := hold (w.drawn + 1)
  simp only [Builtin.append_, List.getElem?_toArray, List.getElem?_cons_zero, List.getElem?_cons_succ, Sem.run_bind, run_underlying' hu, Result.andThen_ok, run_sizeOf' hz]
  refine (intArg_run ht w _).trans ?_
  have hw := wrap_small n (by omega)
  have h1 : ¬ ((n : Int) < 0) := by omega
  have hnb : n * i.bytes ≤ (len + n + (len + n) / 4 + 192) * i.bytes := Nat.mul_le_mul_right _ (by omega)
  have h2 : ¬ ((n : Int) * (i.bytes : Int) > 2 ^ 48) := by
    have h3 : ((n * i.bytes : Nat) : Int) ≤ 2 ^ 48 := by omega
    push_cast at h3
    omega
  have hlen : ¬ (len + n ≤ c) := by omega
  have hmax : ¬ ((len + n : Nat) : Int) > IntKind.i64.max := by simp; omega
  have hcb : ¬ (Builtin.nextslicecap (len + n) c * i.bytes > 2 ^ 48) := by omega
  have ho : (Builtin.firstCells i.size len (.slice A len c)).run P w.drew = .ok olds.toArray w.drew := hold'
  have hzr : (zeroValue e).run P w.drew = .ok zv w.drew := by simp [zeroValue, typeInfo, hi, hzv]
  simp only [if_true, asInt, asIntOf, Sem.run_bind, Sem.run_pure, Result.andThen_ok, hw, h1, if_false, typeInfo, hi, run_program, h2, Int.toNat_natCast, hlen, hmax, hcb, false_and, Sem.run_ite, run_choose, Question.forced, run_askRoom, World.drew_eq,
    Bool.not_true, Bool.false_eq_true, ho, hzr, hzc2, newRow, run_newObj, World.alloc_eq]
  have hze : (if n * i.size = 0 then Result.ok #[] w.drew else Result.ok (Builtin.zeroCells zs.toArray n) w.drew) = Result.ok (Builtin.zeroCells zs.toArray n) w.drew := by
    split
    · rename_i h5
      have : Builtin.zeroCells zs.toArray n = #[] := by
        apply Array.eq_empty_of_size_eq_zero
        rw [size_zeroCells]; simpa [hzl] using h5
      rw [this]
    · rfl
  rw [hze]
  simp only [Result.andThen_ok, hzr, hzc2]
  have hap : ∀ Y Z : Array Value, olds.toArray ++ Y ++ Z = (olds ++ Y.toList ++ Z.toList).toArray := fun Y Z => by simp
  rw [hap]
  rfl

/-- append of so many zeros, where there is room. -/
theorem run_append_roomZ {P : Program} {w : World} {t t' ty e z bt n len c b o : Nat} {k kd : IntKind} {zs : List Value} (hu : P.underlying t = some (.slice e)) (ht : P.underlying t' = some (.int k)) (hz : szOf P e = some z) (hb : bytesOf P e = some bt) (hzc : zc P e = some zs) (hzl : zs.length = z)
    (hn : n ≤ 2 ^ 48) (hbt : n * bt ≤ 281474976710656) (hle : len + n ≤ c)
    (hc : ∀ j, j < (Builtin.zeroCells zs.toArray n).toList.length → (w.cell? ⟨b, o + len * z + j, none⟩).isSome = true) (hf : ∀ j, j < (Builtin.zeroCells zs.toArray n).toList.length → w.frozen? ⟨b, o + len * z + j, none⟩ = false) (h1 : ∀ v ∈ (Builtin.zeroCells zs.toArray n).toList, v.oneCell' = true) :
    (Builtin.append_ #[t, t'] ty #[.slice (some ⟨b, o, none⟩) len c, .int kd (n : Nat)]).run P w = .ok (.slice (some ⟨b, o, none⟩) (len + n) c) (w.setCells b (o + len * z) (Builtin.zeroCells zs.toArray n).toList) := by
  obtain ⟨i, zv, hi, hiz, rfl, hzv, hzc2⟩ := info_of hz hb hzc
  subst hiz
  have hst := run_storeCells_cells (P := P) b (o + len * i.size) (Builtin.zeroCells zs.toArray n).toList 0 w (by simpa using hc) (by simpa using hf) h1
  simp only [Builtin.append_, List.getElem?_toArray, List.getElem?_cons_zero, List.getElem?_cons_succ, Sem.run_bind, run_underlying' hu, Result.andThen_ok, run_sizeOf' hz]
  refine (intArg_run ht w _).trans ?_
  have hw := wrap_small n hn
  have h3 : ¬ ((n : Int) < 0) := by omega
  have h2 : ¬ ((n : Int) * (i.bytes : Int) > 2 ^ 48) := by
    have h3 : ((n * i.bytes : Nat) : Int) ≤ 2 ^ 48 := by omega
    push_cast at h3
    omega
  have hzr : (zeroValue e).run P w = .ok zv w := by simp [zeroValue, typeInfo, hi, hzv]
  simp only [if_true, asInt, asIntOf, Sem.run_bind, Sem.run_pure, Result.andThen_ok, hw, h3, if_false, typeInfo, hi, run_program, h2, Int.toNat_natCast, hle, Sem.run_ite, Bool.not_true, Bool.false_eq_true, hzr, hzc2]
  have hze : (if n * i.size = 0 then Result.ok #[] w else Result.ok (Builtin.zeroCells zs.toArray n) w) = Result.ok (Builtin.zeroCells zs.toArray n) w := by
    split
    · rename_i h5
      have : Builtin.zeroCells zs.toArray n = #[] := by
        apply Array.eq_empty_of_size_eq_zero
        rw [size_zeroCells]; simpa [hzl] using h5
      rw [this]
    · rfl
  rw [hze]
  simp only [Result.andThen_ok, Sem.run_bind, add_plain, hst, Nat.add_zero, Sem.run_pure]

theorem run_append_noneZ {P : Program} {w : World} {t t' ty e z len c : Nat} {k kd : IntKind} {b : Option Addr} (hu : P.underlying t = some (.slice e)) (ht : P.underlying t' = some (.int k)) (hz : szOf P e = some z) (hle : len ≤ c) :
    (Builtin.append_ #[t, t'] ty #[.slice b len c, .int kd (0 : Nat)]).run P w = .ok (.slice b len c) w := by
  obtain ⟨i, hi, hiz⟩ : ∃ i, P.info? e = some i ∧ i.size = z := by
    unfold szOf at hz
    cases h : P.info? e with
    | none => rw [h] at hz; cases hz
    | some i => rw [h] at hz; exact ⟨i, rfl, Option.some.inj hz⟩
  simp only [Builtin.append_, List.getElem?_toArray, List.getElem?_cons_zero, List.getElem?_cons_succ, Sem.run_bind, run_underlying' hu, Result.andThen_ok, run_sizeOf' hz]
  refine (intArg_run ht w _).trans ?_
  have hw := wrap_small 0 (by omega)
  have h1 : ¬ (((0 : Nat) : Int) < 0) := by omega
  have h2 : ¬ (((0 : Nat) : Int) * (i.bytes : Int) > 2 ^ 48) := by
    have : ((0 : Nat) : Int) * (i.bytes : Int) = 0 := by simp
    omega
  simp only [if_true, asInt, asIntOf, Sem.run_bind, Sem.run_pure, Result.andThen_ok, hw, h1, if_false, typeInfo, hi, run_program, h2, Int.toNat_natCast, Nat.add_zero, hle, Sem.run_ite, Bool.not_true, Bool.false_eq_true, Nat.zero_mul]
  cases b <;> simp [storeCells]

theorem zeroCells_scal {P : Program} {e m : Nat} {zs : List Value} (hzc : zc P e = some zs) : ∀ (j : Nat) (v : Value), (Builtin.zeroCells zs.toArray m)[j]? = some v → scal v = true := by
  intro j v hv
  simp only [Builtin.zeroCells, Array.getElem?_map, Option.map_eq_some_iff] at hv
  obtain ⟨q, hq, rfl⟩ := hv
  by_cases hlt : q % zs.toArray.size < zs.toArray.size
  · rw [getElem!_pos zs.toArray _ hlt]
    exact List.all_eq_true.1 (zc_scal hzc) _ (by simp)
  · rw [getElem!_neg zs.toArray _ hlt]
    rfl

theorem appendZ_sound {P : Program} {N : Nat} {ρ : Pl} {H H' : Heap} {w : World} (r : Rel ρ H w) (hf : Free ρ H H') {t t' ty : TypeId} {k : IntKind} {s x s' x' v : Value} (h : AppendZ P N H t s x v H') (ht : P.underlying t' = some (.int k)) (hs : VR ρ s s') (hx : VR ρ x x') :
    ∃ ρ' v' w', Grow N ρ ρ' H H' w w' ∧ Rel ρ' H' w' ∧ VR ρ' v v' ∧ (Builtin.append_ #[t, t'] ty #[s', x']).run P w = .ok v' w' := by
  cases h with
  | mk e z bt n zs kd hu hz hb hzc hzl hse hxe h0 hn hbt =>
    subst hse; subst hxe
    cases hs; cases hx
    obtain ⟨i, zv, hi, hiz, hib, hzv, hzc2⟩ := info_of hz hb hzc
    subst hiz; subst hib
    have hcap : n ≤ (Question.appendCap n 0 e).cut (w.tape w.drawn (.appendCap n 0 e)) := by simp [Question.cut]
    obtain ⟨cap, hce⟩ : ∃ c, (Question.appendCap n 0 e).cut (w.tape w.drawn (.appendCap n 0 e)) = c := ⟨_, rfl⟩
    rw [hce] at hcap
    have hsz : (Builtin.zeroCells zs.toArray n ++ Builtin.zeroCells zs.toArray (cap - n)).size = cap * i.size := by
      simp [size_zeroCells, hzl]
      rw [← Nat.add_mul]
      congr 1
      omega
    have hval : ∀ (m j : Nat) (v : Value), (Builtin.zeroCells zs.toArray m)[j]? = some v → scal v = true := by
      intro m j v hv
      simp only [Builtin.zeroCells, Array.getElem?_map, Option.map_eq_some_iff] at hv
      obtain ⟨q, hq, rfl⟩ := hv
      by_cases hlt : q % zs.toArray.size < zs.toArray.size
      · rw [getElem!_pos zs.toArray _ hlt]
        exact List.all_eq_true.1 (zc_scal hzc) _ (by simp)
      · rw [getElem!_neg zs.toArray _ hlt]
        rfl
    have hnc := newCells_sound (N := N) r (hf H.size (Nat.le_refl _) (by simp)) (Builtin.zeroCells zs.toArray n).toList (Builtin.zeroCells zs.toArray n ++ Builtin.zeroCells zs.toArray (cap - n)) e true true (w.drawn + 1)
      (by simp) (fun k v hk => by
        have hk' : (Builtin.zeroCells zs.toArray n)[k]? = some v := by simpa using hk
        refine ⟨v, ?_, VR.scal (hval n k v hk')⟩
        rw [Array.getElem?_append_left (get_lt hk')]; exact hk')
    have hp := upd_same ρ H.size (w.heap.size, 0, (Builtin.zeroCells zs.toArray n ++ Builtin.zeroCells zs.toArray (cap - n)).size)
    have hvr := VR.slice (z := i.size) (o := 0) (n := n) (c := n) (c' := cap) hp (Nat.le_refl _) (by omega) (by omega)
    refine ⟨_, .slice (some ⟨w.heap.size, 0, none⟩) n cap, _, hnc.2, hnc.1, by simpa using hvr, ?_⟩
    simp only [Builtin.append_, List.getElem?_toArray, List.getElem?_cons_zero, List.getElem?_cons_succ, Sem.run_bind, run_underlying' hu, Result.andThen_ok, run_sizeOf' hz]
    refine (intArg_run ht w _).trans ?_
    have hw := wrap_small n hn
    have h1 : ¬ ((n : Int) < 0) := by omega
    have h2 : ¬ ((n : Int) * (i.bytes : Int) > 2 ^ 48) := by
      have h3 : ((n * i.bytes : Nat) : Int) ≤ 2 ^ 48 := by omega
      push_cast at h3
      omega
    have hlen : ¬ (0 + n ≤ 0) := by omega
    have hmax : ¬ ((0 + n : Nat) : Int) > IntKind.i64.max := by simp; omega
    have hcb : ¬ (Builtin.nextslicecap (0 + n) 0 * i.bytes > 2 ^ 48) := by
      rw [Nat.zero_add, nextslicecap_zero h0]
      omega
    have hzr : (zeroValue e).run P w.drew = .ok zv w.drew := by simp [zeroValue, typeInfo, hi, hzv]
    simp only [if_true, asInt, asIntOf, Sem.run_bind, Sem.run_pure, Result.andThen_ok, hw, h1, if_false, typeInfo, hi, run_program, h2, Int.toNat_natCast, hlen, hmax, hcb, false_and, Sem.run_ite, run_choose, Question.forced, run_askRoom, World.drew_eq,
      Bool.not_true, Bool.false_eq_true, run_firstCells_none, hzr, hzc2, newRow, run_newObj, World.alloc_eq]
    have hze : (if n * i.size = 0 then Result.ok #[] w.drew else Result.ok (Builtin.zeroCells zs.toArray n) w.drew) = Result.ok (Builtin.zeroCells zs.toArray n) w.drew := by
      split
      · rename_i h5
        have : Builtin.zeroCells zs.toArray n = #[] := by
          apply Array.eq_empty_of_size_eq_zero
          rw [size_zeroCells]; simpa [hzl] using h5
        rw [this]
      · rfl
    rw [hze]
    simp only [Result.andThen_ok, hzr, hzc2, Nat.zero_add, hce, Array.empty_append, World.size_drew]
  | nothing e z b n c kd hu hz hse hxe =>
    subst hse; subst hxe
    cases hx
    refine ⟨ρ, s', w, Grow.refl N ρ H w, r, hs, ?_⟩
    have hform : ∃ b' c', s' = .slice b' n c' ∧ n ≤ c' := by
      cases hs
      · exact ⟨_, _, rfl, Nat.le_refl _⟩
      · exact ⟨_, _, rfl, by omega⟩
      · exact ⟨_, _, rfl, Nat.le_refl _⟩
    obtain ⟨b', c', rfl, hle⟩ := hform
    exact run_append_noneZ (ty := ty) hu ht hz hle
  | share e z bt zs vs i o len c n ex kd hu hz hb hzc hzl hse hxe hxc hz0 h0 hn hbt hN hi ho =>
    subst hse; subst hxe
    cases hx
    obtain ⟨xs, hxs⟩ : ∃ xs, xs = (Builtin.zeroCells zs.toArray n).toList := ⟨_, rfl⟩
    obtain ⟨xs', hxs2⟩ : ∃ xs', xs' = xs := ⟨_, rfl⟩
    have hxl : xs.length = n * z := by rw [hxs]; simp [size_zeroCells, hzl]
    have hv : VL ρ xs xs' := by
      rw [hxs2]
      refine VL.scal (List.all_eq_true.2 fun v hv => ?_)
      obtain ⟨j, hj⟩ := List.getElem?_of_mem hv
      rw [hxs] at hj
      exact zeroCells_scal hzc j v (by simpa using hj)
    rw [← hxs] at hxc ⊢
    have hfree : ρ H.size = none := hf H.size (Nat.le_refl _) (by simp)
    have hxs' : xs'.length = n * z := by rw [← hv.1]; exact hxl
    -- the new block, where the old one has no room
    have grown : ∀ (A : Option Addr) (c' : Nat) (olds : List Value), VL ρ (vs.drop o) olds → (∀ m, (Builtin.firstCells z len (.slice A len c')).run P { w with drawn := m } = .ok olds.toArray { w with drawn := m }) → c' < len + n →
        ∃ ρ' v' w', Grow N ρ ρ' H ((H.setIfInBounds i (.cells vs (ex && len * z == 0) false)).push (.cells (vs.drop o ++ xs) (len * z == 0) true)) w w' ∧
          Rel ρ' ((H.setIfInBounds i (.cells vs (ex && len * z == 0) false)).push (.cells (vs.drop o ++ xs) (len * z == 0) true)) w' ∧
          VR ρ' (.slice (some ⟨H.size, 0, some z⟩) (len + n) (len + n)) v' ∧ (Builtin.append_ #[t, t'] ty #[.slice A len c', .int kd (n : Nat)]).run P w = .ok v' w' := by
      intro A c' olds hov hold hgt
      obtain ⟨cap, m, hcap, hrun2⟩ := run_append_newZ (ty := ty) (kd := kd) (olds := olds) hu ht hz hb hzc hzl hold hgt hn hbt
      rw [← hxs, ← hxs2] at hrun2
      have hov2 := hov.append hv
      have hpre := AL.pre' (rest := (Builtin.zeroCells zs.toArray (cap - (len + n))).toList) hov2
      have hol : olds.length = len * z := by rw [← hov.1]; simp; omega
      have hsz : (olds ++ xs' ++ (Builtin.zeroCells zs.toArray (cap - (len + n))).toList).toArray.size = cap * z := by
        simp [size_zeroCells, hzl]
        rw [hol, hxs', ← Nat.add_mul, ← Nat.add_mul]
        congr 1
        omega
      have r2 := Rel.flags r hi (ex && len * z == 0) (fun h => by simp at h; exact h.1)
      have hnc := newCells_sound (N := N) (H := H.setIfInBounds i (.cells vs (ex && len * z == 0) false)) r2 (by simpa using hfree) (vs.drop o ++ xs) _ e (len * z == 0) true m hpre.1 hpre.2
      have hp := upd_same ρ (H.setIfInBounds i (.cells vs (ex && len * z == 0) false)).size (w.heap.size, 0, (olds ++ xs' ++ (Builtin.zeroCells zs.toArray (cap - (len + n))).toList).toArray.size)
      refine ⟨_, _, _, (Grow.flags (N := N) i _).trans hnc.2 (fun q h1 h2 => by simp at h2; omega), hnc.1, ?_, hrun2⟩
      have := VR.slice (z := z) (o := 0) (n := len + n) (c := len + n) (c' := cap) hp (Nat.le_refl _) (by omega) (by omega)
      simpa using this
    rcases hs.slice_inv with ⟨b, s, E, c', hρ, rfl, hlc, hcc, hE⟩ | ⟨rfl, rfl, a', rfl⟩
    · obtain ⟨carr, tyb, fz, hbk, hcE, hlE, hcells, hexf, htlf⟩ := r.blk i b s E _ hρ hi
      by_cases hroom : len + n ≤ c'
      · have hend : s + vs.length + xs.length ≤ carr.size := by
          have h1 : (len + n) * z ≤ c' * z := Nat.mul_le_mul_right z hroom
          rw [Nat.add_mul] at h1
          omega
        have hnz : 0 < xs.length := by rw [hxl]; exact Nat.mul_pos h0 hz0
        have hip := Rel.inPlace (N := N) (e := len * z) r hfree hρ hN hi ho hv carr tyb fz hbk hend hnz
        have hso : s + o + len * z = s + vs.length := by omega
        have hlz : (Builtin.zeroCells zs.toArray n).toList.length = xs'.length := by rw [← hxs, hxs2]
        have hnb : n * bt ≤ (len + n + (len + n) / 4 + 192) * bt := Nat.mul_le_mul_right _ (by omega)
        have hrr := run_append_roomZ (ty := ty) (kd := kd) (b := b) (o := s + o) (len := len) hu ht hz hb hzc hzl (by omega) (by omega) hroom
          (fun j hj => by rw [hso, cell_at hbk, Array.getElem?_eq_getElem (by omega)]; rfl) (fun j hj => by rw [hso]; exact frozen_at hbk (by have := htlf rfl; omega)) (by rw [← hxs, ← hxs2]; exact cellOk_all hxc hv)
        rw [hso, ← hxs, ← hxs2] at hrr
        refine ⟨_, _, _, hip.2, hip.1, ?_, hrr⟩
        have hp := upd_same ρ H.size (b, s + o, E)
        have := VR.slice (z := z) (o := 0) (n := len + n) (c := len + n) (c' := c') hp (Nat.le_refl _) hroom (by omega)
        simpa using this
      · obtain ⟨cs, hcs, hcell⟩ := (r.blk i b s E _ hρ hi).row
        refine grown _ c' (cs.drop o) (hcs.drop o) (fun m => ?_) (by omega)
        refine run_firstCells_some _ z len _ _ _ _ (by have := hcs.1; simp; omega) (fun j v hv => ?_)
        rw [List.getElem?_drop] at hv
        rw [add_plain, Nat.add_assoc]
        exact hcell _ v hv
    · refine grown _ 0 [] ?_ (fun m => ?_) (by omega)
      · rw [List.drop_eq_nil_of_le (by omega)]; exact VL.nil ρ
      · exact run_firstCells_some _ z 0 _ _ _ [] (by simp) (fun j v hv => by simp at hv)

theorem src_zero {P : Program} {ρ : Pl} {x x' : Value} {m : Nat} (hl : lenA x = some m) (hx : VR ρ x x') (z : Nat) (w : World) : (Builtin.firstCells z 0 x').run P w = .ok #[] w := by
  unfold lenA at hl
  split at hl
  · cases hl
    cases hx
    · exact run_firstCells_none w z 0 0 0
    · exact run_firstCells_some w z 0 _ _ _ [] (by simp) (fun j v hv => by simp at hv)
    · exact run_firstCells_some w z 0 _ _ _ [] (by simp) (fun j v hv => by simp at hv)
  · cases hx
    simp [Builtin.firstCells]
  · cases hl

theorem copy_sound {P : Program} {N : Nat} {ρ : Pl} {H H' : Heap} {w : World} (r : Rel ρ H w) {t t' ty : TypeId} {d x d' x' v : Value} (h : CopyA P N H t d x v H') (hd : VR ρ d d') (hx : VR ρ x x') :
    ∃ w', Grow N ρ ρ H H' w w' ∧ Rel ρ H' w' ∧ VR ρ v v ∧ (Builtin.copy_ #[t, t'] ty #[d', x']).run P w = .ok v w' := by
  cases h with
  | nothing e z b n c m hu hz hde hl h0 =>
    subst hde
    refine ⟨w, Grow.refl N ρ H w, r, .int _ _, ?_⟩
    have hlo := lenA_sound (P := P) hl hx w
    have hform : ∃ b' c', d' = .slice b' n c' := by
      cases hd
      · exact ⟨_, _, rfl⟩
      · exact ⟨_, _, rfl⟩
      · exact ⟨_, _, rfl⟩
    obtain ⟨b', c', rfl⟩ := hform
    have hmin : Nat.min m n = 0 := by simp only [Nat.min_def]; split <;> omega
    have hfc := src_zero (P := P) hl hx z w
    simp only [Builtin.copy_, List.getElem?_toArray, List.getElem?_cons_zero, List.getElem?_cons_succ, Sem.run_bind, run_underlying' hu, Result.andThen_ok, run_sizeOf' hz, hlo, hmin, hfc]
    cases b' <;> simp [storeCells, goInt]
  | some e z xs vs i o len c m tl hu hz hde hl hsrc hxl hxc hN hi ho =>
    subst hde
    obtain ⟨xs', hv, hrun⟩ := srcA_sound (P := P) r hsrc hl (Nat.min_le_left _ _) hx
    have hlo := lenA_sound (P := P) hl hx w
    rcases hd.slice_inv with ⟨b, s, E, c', hρ, rfl, hlc, hcc, hE⟩ | ⟨rfl, rfl, a', rfl⟩
    · have ho2 : o + xs.length ≤ vs.length := by
        rw [hxl]
        have := Nat.mul_le_mul_right z (Nat.min_le_right m len)
        omega
      obtain ⟨hw1, hw2⟩ := writable r hρ hi ho2
      have hst := run_storeCells_cells (P := P) b (s + o) xs' 0 w (fun j hj => by simpa using hw1 j (by rw [hv.1]; exact hj)) (fun j hj => by simpa using hw2 j (by rw [hv.1]; exact hj)) (cellOk_all hxc hv)
      have hrs := Rel.store (N := N) r hρ hN hi ho2 hv
      refine ⟨_, hrs.2, hrs.1, .int _ _, ?_⟩
      have hmn : Nat.min m len = min m len := rfl
      simp only [Builtin.copy_, List.getElem?_toArray, List.getElem?_cons_zero, List.getElem?_cons_succ, Sem.run_bind, run_underlying' hu, Result.andThen_ok, run_sizeOf' hz, hlo, hmn, hrun, List.toList_toArray]
      simp [hst, goInt]
    · have hx0 : xs = [] := List.eq_nil_of_length_eq_zero (by rw [hxl]; simp)
      subst hx0
      have hx0' : xs' = [] := List.eq_nil_of_length_eq_zero (by rw [← hv.1]; rfl)
      subst hx0'
      have hw0 : wr vs o [] = vs := by simp [wr]
      have hH : H.setIfInBounds i (.cells (wr vs o []) true tl) = H := by
        rw [hw0]
        apply Array.ext_getElem?
        intro j
        rw [Array.getElem?_setIfInBounds]
        split
        · rename_i e0; subst e0; rw [if_pos (get_lt hi), hi]
        · rfl
      rw [hH]
      refine ⟨w, Grow.refl N ρ H w, r, .int _ _, ?_⟩
      have hmn : Nat.min m 0 = min m 0 := rfl
      simp only [Builtin.copy_, List.getElem?_toArray, List.getElem?_cons_zero, List.getElem?_cons_succ, Sem.run_bind, run_underlying' hu, Result.andThen_ok, run_sizeOf' hz, hlo, hmn, hrun, List.toList_toArray, storeCells]
      simp [goInt]

theorem make_sound {P : Program} {N : Nat} {ρ : Pl} {H : Heap} {w : World} (r : Rel ρ H w) (hfree : ρ H.size = none) {t e z bt n m : Nat} {zs : List Value} {kl kc : IntKind} (hu : P.underlying t = some (.slice e)) (hz : szOf P e = some z) (hb : bytesOf P e = some bt) (hzc : zc P e = some zs)
    (hnm : n ≤ m) (hm : m ≤ 2 ^ 48) (hbt : m * bt ≤ 281474976710656) :
    ∃ ρ' v' w', Grow N ρ ρ' H (H.push (.cells (((Array.range (m * z)).map (fun i => zs.toArray[i % zs.toArray.size]!)).toList) true true)) w w' ∧
      Rel ρ' (H.push (.cells (((Array.range (m * z)).map (fun i => zs.toArray[i % zs.toArray.size]!)).toList) true true)) w' ∧ VR ρ' (.slice (some ⟨H.size, 0, some z⟩) n m) v' ∧
      (Instr.makeSlice t (.int kl (n : Nat)) (.int kc (m : Nat))).run P w = .ok v' w' := by
  obtain ⟨i, zv, hi, rfl, rfl, hzv, hzc2⟩ := info_of hz hb hzc
  have hwn := wrap_small n (by omega)
  have hwm := wrap_small m hm
  have hbm : ¬ ((i.bytes : Int) * (m : Int) > 2 ^ 48) := by
    have h3 : ((i.bytes * m : Nat) : Int) ≤ 2 ^ 48 := by rw [Nat.mul_comm]; omega
    push_cast at h3
    omega
  have hval : ∀ (j : Nat) (v : Value), ((Array.range (m * i.size)).map (fun i => zs.toArray[i % zs.toArray.size]!))[j]? = some v → scal v = true := by
    intro j v hv
    simp only [Array.getElem?_map, Option.map_eq_some_iff] at hv
    obtain ⟨q, hq, rfl⟩ := hv
    by_cases hlt : q % zs.toArray.size < zs.toArray.size
    · rw [getElem!_pos zs.toArray _ hlt]
      exact List.all_eq_true.1 (zc_scal hzc) _ (by simp)
    · rw [getElem!_neg zs.toArray _ hlt]
      rfl
  have hnc := newCells_sound (N := N) r hfree ((Array.range (m * i.size)).map (fun i => zs.toArray[i % zs.toArray.size]!)).toList ((Array.range (m * i.size)).map (fun i => zs.toArray[i % zs.toArray.size]!)) e true true w.drawn
    (by simp) (fun k v hk => by
      rw [Array.getElem?_toList] at hk
      exact ⟨v, hk, VR.scal (hval k v hk)⟩)
  have hp := upd_same ρ H.size (w.heap.size, 0, ((Array.range (m * i.size)).map (fun i => zs.toArray[i % zs.toArray.size]!)).size)
  have hvr := VR.slice (z := i.size) (o := 0) (n := n) (c := m) (c' := m) hp hnm (Nat.le_refl _) (by simp)
  refine ⟨_, .slice (some ⟨w.heap.size, 0, none⟩) n m, _, hnc.2, hnc.1, by simpa using hvr, ?_⟩
  have hc1 : ((decide ((m : Int) < 0) || decide ((i.bytes : Int) * (m : Int) > 2 ^ 48)) || decide ((n : Int) < 0) || decide ((n : Int) > m)) = false := by
    simp
    omega
  have hzr : (zeroValue e).run P w = .ok zv w := by simp [zeroValue, typeInfo, hi, hzv]
  simp only [Instr.makeSlice, Sem.run_bind, run_underlying' hu, Result.andThen_ok, asInt, asIntOf, Sem.run_pure, typeInfo, hi, run_program, hwn, hwm, hc1, Bool.false_eq_true, if_false, run_askRoom, run_sizeOf' hz, Int.toNat_natCast, Sem.run_ite, hzr, hzc2]
  have hze : ∀ F : Array Value → World → Result Value, (if m * i.size = 0 then F #[] w else F zs.toArray w) = if m * i.size = 0 then F #[] w else F zs.toArray w := fun _ => rfl
  by_cases h0 : m * i.size = 0
  · have hd : ∀ g : Nat → Value, Array.map g (Array.range (m * i.size)) = (Array.range (m * i.size)).map (fun i => zs.toArray[i % zs.toArray.size]!) := fun g => by simp [h0]
    rw [if_pos h0]
    simp only [Result.andThen_ok, hd, newRow, Sem.run_bind, run_newObj, Sem.run_pure, World.alloc_eq]
  · rw [if_neg h0]
    simp only [Result.andThen_ok, newRow, Sem.run_bind, run_newObj, Sem.run_pure, World.alloc_eq]

/-! ### Conversions -/

theorem strA_spec : ∀ {vs : List Value} {l : List UInt8}, strA vs = some l → ∃ ns : List Int, vs = ns.map (Value.int .u8) ∧ l = ns.map (fun n => UInt8.ofNat n.toNat)
  | [], l, h => by simp [strA] at h; exact ⟨[], rfl, by simp [h]⟩
  | v :: vs, l, h => by
    unfold strA at h
    split at h
    · rename_i hh; cases hh
    · rename_i n l2 hh
      cases hh
      simp only [Option.map_eq_some_iff] at h
      obtain ⟨l3, h3, rfl⟩ := h
      obtain ⟨ns, rfl, rfl⟩ := strA_spec h3
      exact ⟨n :: ns, rfl, rfl⟩
    · cases h

theorem foldl_push (ns : List Int) : ∀ s : ByteArray, ns.foldl (fun r n => r.push (UInt8.ofNat n.toNat)) s = ⟨(s.data.toList ++ ns.map (fun n => UInt8.ofNat n.toNat)).toArray⟩ := by
  induction ns with
  | nil => intro s; cases s; simp
  | cons n ns ih =>
    intro s
    simp only [List.foldl_cons, ih, List.map_cons]
    congr 1
    cases s
    simp [ByteArray.push]

theorem VL.ints {ρ : Pl} {ns : List Int} {k : IntKind} : ∀ {l : List Value}, VL ρ (ns.map (Value.int k)) l → l = ns.map (Value.int k) := by
  induction ns with
  | nil => intro l h; exact List.eq_nil_of_length_eq_zero (by have := h.1; simpa using this.symm)
  | cons n ns ih =>
    intro l h
    cases l with
    | nil => have := h.1; simp at this
    | cons v l =>
      have h0 := h.2 0 _ v rfl rfl
      cases h0
      have : l = ns.map (Value.int k) := ih ⟨by have := h.1; simpa using this, fun j a b ha hb => h.2 (j + 1) a b (by simpa using ha) (by simpa using hb)⟩
      rw [this]; rfl

theorem freeze_alloc (w : World) (c : Array Value) (e : TypeId) : ((w.alloc (.cells c e)).freeze ⟨w.heap.size, c.size, none⟩ 1) = w.alloc (.cells c e (c.size, c.size + 1)) := by
  unfold World.freeze World.alloc
  simp only [Nat.one_ne_zero, if_false]
  congr 1
  apply Array.ext_getElem?
  intro j
  rw [Array.getElem?_modify]
  by_cases h : w.heap.size = j
  · subst h
    simp
  · simp only [h, if_false]
    rw [Array.getElem?_push, Array.getElem?_push, if_neg (Ne.symm h), if_neg (Ne.symm h)]

theorem freeze_get {w : World} {b : Nat} {carr : Array Value} {ty : TypeId} {fz : Nat × Nat} (hb : w.heap[b]? = some (.cells carr ty fz)) (hf : fz.1 = fz.2) :
    (w.freeze ⟨b, carr.size, none⟩ 1).heap[b]? = some (.cells carr ty (carr.size, carr.size + 1)) ∧ (∀ j, j ≠ b → (w.freeze ⟨b, carr.size, none⟩ 1).heap[j]? = w.heap[j]?) ∧ (w.freeze ⟨b, carr.size, none⟩ 1).heap.size = w.heap.size := by
  obtain ⟨f1, f2⟩ := fz
  simp only at hf
  subst hf
  unfold World.freeze
  simp only [Nat.one_ne_zero, if_false]
  refine ⟨?_, fun j hj => ?_, by simp⟩
  · rw [Array.getElem?_modify, if_pos rfl, hb]
    simp
  · rw [Array.getElem?_modify, if_neg (fun h => hj h.symm)]

/-- The end of a block is marked; nobody may append there. -/
theorem Rel.ended {N : Nat} {ρ : Pl} {H : Heap} {w : World} (r : Rel ρ H w) {i b s E : Nat} {vs : List Value} {ex : Bool} (hρ : ρ i = some (b, s, E)) (hi : H[i]? = some (.cells vs ex true)) (hN : N ≤ i)
    {carr : Array Value} {ty : TypeId} {fz : Nat × Nat} (hb : w.heap[b]? = some (.cells carr ty fz)) :
    Rel ρ (H.setIfInBounds i (.cells vs ex false)) (w.freeze ⟨b, carr.size, none⟩ 1) ∧ Grow N ρ ρ H (H.setIfInBounds i (.cells vs ex false)) w (w.freeze ⟨b, carr.size, none⟩ 1) := by
  obtain ⟨carr', ty', fz', hb', hE, hl, hc, hex, htl⟩ := r.blk i b s E _ hρ hi
  rw [hb] at hb'
  cases hb'
  obtain ⟨g1, g2, g3⟩ := freeze_get hb (htl rfl)
  have r2 := Rel.flags r hi ex (fun h => h)
  have hiL := get_lt hi
  have hsz : w.heap.size = (w.freeze ⟨b, carr.size, none⟩ 1).heap.size := g3.symm
  refine ⟨⟨fun j c t F hj h => by rw [g3]; exact r2.lt j c t F hj h, fun j c t F y h hy => ?_, r2.sep⟩, ?_⟩
  · have hy2 := r2.blk j c t F y h hy
    by_cases hcb : c = b
    · subst hcb
      have hno : ∀ ws ex2 tl2, y = .cells ws ex2 tl2 → tl2 = false := by
        intro ws ex2 tl2 hye
        subst hye
        by_cases hji : j = i
        · subst hji
          rw [Array.getElem?_setIfInBounds_self_of_lt hiL] at hy
          cases hy; rfl
        · have hy0 : H[j]? = some (.cells ws ex2 tl2) := by rwa [Array.getElem?_setIfInBounds_ne (fun e => hji e.symm)] at hy
          have := r.sep i j c s t E F _ _ (fun e => hji e.symm) hρ h hi hy0
          simp only [Sep] at this
          exact (this.2 trivial).2
      cases y with
      | cells ws ex2 tl2 =>
        obtain ⟨carr2, ty2, fz2, hb2, hE2, hl2, hc2, hex2, htl2⟩ := hy2
        rw [hb] at hb2
        cases hb2
        refine ⟨carr, ty, _, g1, hE2, hl2, hc2, fun he k h1 h2 => by simp only; omega, fun ht => ?_⟩
        have := hno _ _ _ rfl
        rw [this] at ht; cases ht
      | map es =>
        obtain ⟨ces, clk, hb2, _⟩ := hy2
        rw [hb] at hb2; cases hb2
      | loop fn n a ps as bd st =>
        obtain ⟨l, hb2, _⟩ := hy2
        rw [hb] at hb2; cases hb2
      | dead => trivial
    · exact BR.keep (fun _ _ h => h) hy2 (g2 c hcb)
  · have hkeep : ∀ c, c < w.heap.size → (∀ i' s' E', i' < H.size → ρ i' = some (c, s', E') → i' < N) → (w.freeze ⟨b, carr.size, none⟩ 1).heap[c]? = w.heap[c]? := by
      intro c hc hk
      by_cases hcb : c = b
      · subst hcb
        have := hk i s E hiL hρ
        omega
      · exact g2 c hcb
    exact
    { hsize := by simp
      ext := fun _ _ h => h
      new := fun i p h h' => (by rw [h] at h'; cases h')
      fresh := fun i b s E h h' => (by rw [h] at h'; cases h')
      os := by unfold World.freeze; simp
      tape := by unfold World.freeze; simp
      output := by unfold World.freeze; simp
      size := by rw [g3]; exact Nat.le_refl _
      keep := hkeep }

theorem conv_sound {P : Program} {N : Nat} {ρ : Pl} {H H' : Heap} {w : World} (r : Rel ρ H w) (hf : Free ρ H H') {src dst : TypeId} {x x' v : Value} (h : ConvA P N H src dst x v H') (hx : VR ρ x x') :
    ∃ ρ' v' w', Grow N ρ ρ' H H' w w' ∧ Rel ρ' H' w' ∧ VR ρ' v v' ∧ (convert src dst x').run P w = .ok v' w' := by
  cases h with
  | int k k' n hd hs hxe =>
    subst hxe
    cases hx
    obtain ⟨ds, hs⟩ := hs
    refine ⟨ρ, _, w, Grow.refl N ρ H w, r, .int _ _, ?_⟩
    simp only [convert, Sem.run_bind, run_underlying' hs, run_underlying' hd, Result.andThen_ok]
    cases ds <;> simp [Conv.intToInt]
  | same s hd hs hxe =>
    subst hxe
    cases hx
    refine ⟨ρ, _, w, Grow.refl N ρ H w, r, .string _, ?_⟩
    simp [convert, run_underlying' hs, run_underlying' hd]
  | str e vs ex tl i o n c l hs hd he hxe hh hl hln =>
    subst hxe
    refine ⟨ρ, _, w, Grow.refl N ρ H w, r, .string _, ?_⟩
    have hconv : ∀ (a : Option Addr) (n c : Nat), (convert src dst (.slice a n c)).run P w = (Conv.bytesToString (.slice a n c)).run P w := fun a n c => run_convert_bytes_string w src dst e a n c hs he hd
    rcases hx.slice_inv with ⟨b, s, E, c', hρ, rfl, hlc, hcc, hE⟩ | ⟨rfl, rfl, a', rfl⟩
    · by_cases h0 : n = 0
      · subst h0
        have : l = [] := List.eq_nil_of_length_eq_zero hln
        subst this
        have hr := run_bytesToString (P := P) w ⟨b, s + o, none⟩ 0 c' [] (by simpa using run_loadCells_list (P := P) w ⟨b, s + o, none⟩ [] (by simp))
        rw [hconv, hr]
        rfl
      · obtain ⟨hi, hon⟩ := hh h0
        obtain ⟨cs, hcs, hcell⟩ := (r.blk i b s E _ hρ hi).row
        obtain ⟨ns, hns, hls⟩ := strA_spec hl
        have hsub : (cs.drop o).take n = ns.map (Value.int .u8) := VL.ints (by rw [← hns]; exact (hcs.drop o).take n)
        have hlen : (ns.map (Value.int .u8)).length = n := by rw [← hsub]; have := hcs.1; simp; omega
        have hlc2 := run_loadCells_list (P := P) w ⟨b, s + o, none⟩ (ns.map (Value.int .u8)) (fun j v hv => by
          rw [← hsub, List.getElem?_take] at hv
          split at hv
          · rw [List.getElem?_drop] at hv
            rw [add_plain, Nat.add_assoc]
            exact hcell _ v hv
          · cases hv)
        rw [hlen] at hlc2
        rw [hconv, run_bytesToString (P := P) w _ n c' ns hlc2, foldl_push, hls]
        rfl
    · have : l = [] := List.eq_nil_of_length_eq_zero hln
      subst this
      have hr := run_bytesToString (P := P) w a' 0 0 [] (by simpa using run_loadCells_list (P := P) w a' [] (by simp))
      rw [hconv, hr]
      rfl
  | strNil e hs hd he hxe =>
    subst hxe
    cases hx
    refine ⟨ρ, _, w, Grow.refl N ρ H w, r, .string _, ?_⟩
    rw [run_convert_bytes_string w src dst e none 0 0 hs he hd]
    simp [Conv.bytesToString]
  | bytes e s hs hd he hxe =>
    subst hxe
    cases hx
    obtain ⟨cap, hce⟩ : ∃ c, (Question.appendCap s.size 0 e).cut (w.tape w.drawn (.appendCap s.size 0 e)) = c := ⟨_, rfl⟩
    have hcap : s.size ≤ cap := by rw [← hce]; simp [Question.cut]
    obtain ⟨arr, harr⟩ : ∃ arr : Array Value, arr = s.data.map (fun b => Value.int .u8 (b.toNat : Int)) ++ Array.replicate (cap - s.size) (.int .u8 0) := ⟨_, rfl⟩
    have hsd : s.data.size = s.size := rfl
    have harrs : arr.size = cap := by rw [harr]; simp [hsd]; omega
    have hfree := hf H.size (Nat.le_refl _) (by simp)
    have hpush := Rel.push (N := N) (r.drawn (w.drawn + 1)) hfree (.cells (s.data.toList.map fun b => Value.int .u8 b.toNat) false false) (.cells arr e (arr.size, arr.size + 1)) arr.size
      ⟨arr, e, _, heap_push _ _, rfl, by rw [harrs]; simpa [hsd] using hcap, fun k v hk => by
        simp only [List.getElem?_map, Option.map_eq_some_iff] at hk
        obtain ⟨q, hq, rfl⟩ := hk
        have hkl := getL_lt hq
        refine ⟨_, ?_, .int _ _⟩
        rw [harr, Nat.zero_add, Array.getElem?_append_left (by simpa using hkl)]
        have : s.data[k]? = some q := by simpa using hq
        simp [this], (fun h => by cases h), (fun h => by cases h)⟩
    have hp := upd_same ρ H.size (w.heap.size, 0, arr.size)
    have hvr := VR.slice (z := 1) (o := 0) (n := s.size) (c := s.size) (c' := cap) hp (Nat.le_refl _) hcap (by omega)
    refine ⟨_, .slice (some ⟨w.heap.size, 0, none⟩) s.size cap, _, (Grow.drawn0 N ρ H w (w.drawn + 1)).trans hpush.2 (fun i h1 h2 => by omega), hpush.1, by simpa using hvr, ?_⟩
    have hfz := freeze_alloc w.drew arr e
    have hsh : (w.drew.alloc (.cells arr e)).shape? w.heap.size = some (e, arr.size) := by
      have := heap_push w.drew (.cells arr e)
      simp only [World.shape?]
      rw [show w.heap.size = w.drew.heap.size from rfl, this]
    simp only [convert, Sem.run_bind, run_underlying' hs, run_underlying' hd, run_underlying' he, Result.andThen_ok, Conv.stringToBytes, run_choose, Question.forced, Bool.false_eq_true, if_false, World.drew_eq, hce, newRow, run_newObj, Sem.run_pure, World.alloc_eq]
    rw [← harr]
    simp only [markStringish, Sem.run_bind, run_shape, Result.andThen_ok]
    rw [World.size_drew, hsh]
    simp only [run_freeze, Result.andThen_ok, Sem.run_pure]
    rw [show w.heap.size = w.drew.heap.size from rfl, hfz]
  | row e vs ex i o n c hs hd he hxe hn hN hi =>
    subst hxe; subst hd
    rcases hx.slice_inv with ⟨b, s, E, c', hρ, rfl, hlc, hcc, hE⟩ | ⟨rfl, rfl, a', rfl⟩
    · obtain ⟨carr, ty, fz, hb, hE2, hl, hc, hex, htl⟩ := r.blk i b s E _ hρ hi
      have hr := Rel.ended (N := N) r hρ hi hN hb
      refine ⟨ρ, _, _, hr.2, hr.1, .slice hρ hlc hcc hE, ?_⟩
      have hsh : w.shape? b = some (ty, carr.size) := by
        simp only [World.shape?]
        rw [hb]
      simp [convert, run_underlying' hs, run_underlying' he, markStringish, hsh]
    · omega

end Go.Proofs.Ytcapjjmikapmfaa.M
