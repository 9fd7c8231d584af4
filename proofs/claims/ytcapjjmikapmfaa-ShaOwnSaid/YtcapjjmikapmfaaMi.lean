/- Every operation of M, held against the model's, in one theorem. -/
import Derived.Test.YtcapjjmikapmfaaMh
set_option linter.unusedVariables false
set_option linter.unusedSimpArgs false
namespace Go.Proofs.Ytcapjjmikapmfaa.M
open Go

/-- What comes of an operation's answer: a value at once, or a call that ends with it. -/
def Lands (P : Program) (r : Result Next) (v' : Value) (w' : World) : Prop :=
  match r with
  | .ok (.value v) w1 => v = v' ∧ w1 = w'
  | .ok .skip w1 => v' = undef ∧ w1 = w'
  | .ok (.enter f args) w1 => ∀ (caller : Frame) (cs : List Frame), Steps P (lone (Frame.enter P f args .normal) (caller :: cs) w1) (lone (caller.finish v') cs w')
  | .ok (.round l f ts as body) w1 => ∀ (caller : Frame) (cs : List Frame), Steps P (lone (Frame.round l f ts as body .normal) (caller :: cs) w1) (lone (caller.finish v') cs w')
  | _ => False

def FnR (ρ : Pl) : Fn → Fn → Prop
  | .func f, g => g = .func f
  | .yield l, .yield l' => ∃ s E, ρ l = some (l', s, E)
  | _, _ => False

def tgt (fn : Fn) (args : Array Value) : Sem Next :=
  match fn with
  | .func f => callFunc f args
  | .yield l => Instr.yield l args
  | _ => stuck "no call of M's"

structure SimC (P : Program) (C : CallRel) : Prop where
  prot : ∀ N fn args H v H', C N fn args H v H' → N ≤ H.size → H.size ≤ H'.size ∧ ∀ i, i < N → H'[i]? = H[i]?
  sim : ∀ N fn args H v H', C N fn args H v H' → ∀ (ρ : Pl) (w : World) (fn' : Fn) (args' : List Value), N ≤ H.size → Free ρ H H' → Rel ρ H w → FnR ρ fn fn' → VL ρ args args' →
    ∃ ρ' v' w', Grow N ρ ρ' H H' w w' ∧ Rel ρ' H' w' ∧ VR ρ' v v' ∧ Lands P ((tgt fn' args'.toArray).run P w) v' w'

theorem lands_value {P : Program} {s : Sem Value} {w w' : World} {v' : Value} (h : s.run P w = .ok v' w') : Lands P ((do pure (.value (← s)) : Sem Next).run P w) v' w' := by
  rw [Sem.run_bind, h]
  exact ⟨rfl, rfl⟩

theorem lands_unit {P : Program} {s : Sem Unit} {w w' : World} (h : s.run P w = .ok () w') : Lands P ((do s; pure .skip : Sem Next).run P w) undef w' := by
  rw [Sem.run_bind, h]
  exact ⟨rfl, rfl⟩

theorem evC_map {ρ : Pl} {n : Nat} {a : AAct} {ts : Array Value} (f : FR ρ n a ts) : ∀ l : List Operand, VL ρ (l.map (ev a)) (l.map (evC ts))
  | [] => VL.nil ρ
  | x :: l => VL.cons (f.ev x) (evC_map f l)

theorem set_none {ρ : Pl} {H : Heap} {i : Nat} (x : Blk) : (H.setIfInBounds i x).size = H.size := by simp

theorem tgt_call {P : Program} {w : World} {fn : Fn} {args cap : Array Value} (ft : fn = .func 0 ∨ True) (h : (∃ f, fn = .func f) ∨ ((∃ l, fn = .yield l) ∧ cap = #[])) :
    ((do let d ← Deferred.ofValue (.func fn #[] cap) args; invoke d.target d.args : Sem Next)).run P w = (tgt fn (args ++ cap)).run P w := by
  rcases h with ⟨f, rfl⟩ | ⟨⟨l, rfl⟩, rfl⟩
  · simp [Deferred.ofValue, invoke, tgt]
  · simp [Deferred.ofValue, invoke, tgt]

theorem OpStep.sound {P : Program} {C : CallRel} {N n : Nat} {a : AAct} {H H' : Heap} {op : Op} {v : Value} (hC : SimC P C) (h : OpStep P C N a H op v H') {ρ : Pl} {w : World} {ts : Array Value} (hN : N ≤ H.size) (hf : Free ρ H H')
    (r : Rel ρ H w) (f : FR ρ n a ts) (o : Oper) (ho : o.op = op) : ∃ ρ' v' w', Grow N ρ ρ' H H' w w' ∧ Rel ρ' H' w' ∧ VR ρ' v v' ∧ Lands P ((execOp (evC ts) o).run P w) v' w' := by
  have same : ∀ {v v' : Value}, H' = H → VR ρ v v' → Lands P ((execOp (evC ts) o).run P w) v' w → ∃ ρ' v' w', Grow N ρ ρ' H H' w w' ∧ Rel ρ' H' w' ∧ VR ρ' v v' ∧ Lands P ((execOp (evC ts) o).run P w) v' w' := by
    intro v v' e hv hl
    subst e
    exact ⟨ρ, v', w, Grow.refl N ρ _ w, r, hv, hl⟩
  unfold OpStep at h
  split at h
  · obtain ⟨rfl, e⟩ := h
    exact same e (f.ev _) (by simp only [execOp, ho]; exact ⟨rfl, rfl⟩)
  · obtain ⟨rfl, e⟩ := h
    exact same e (f.ev _) (by simp only [execOp, ho]; exact ⟨rfl, rfl⟩)
  · rename_i c x y
    obtain ⟨⟨b, hb, rfl⟩, e⟩ := h
    have hcb := f.ev c
    rw [hb] at hcb
    have hcb' : evC ts c = .bool b := by
      generalize evC ts c = z at hcb
      cases hcb; rfl
    refine same (v' := if b then evC ts x else evC ts y) e (by cases b <;> exact f.ev _) ?_
    simp only [execOp, ho, hcb', asBool, Sem.run_bind, Sem.run_pure, Result.andThen_ok]
    exact ⟨rfl, rfl⟩
  · -- alloc
    rename_i t
    obtain ⟨z, hz, rfl, rfl⟩ := h
    obtain ⟨zv, hz1, hz2⟩ := run_zeroValue' hz w
    have hsc := AL.scal (ρ := ρ) (zc_scal hz)
    have hpre := AL.pre (ρ := ρ) (carr := z.toArray) (by simpa using VL.scal (ρ := ρ) (zc_scal hz))
    have hnc := newCells_sound (N := N) r (hf H.size (Nat.le_refl _) (by simp)) z z.toArray t true false w.drawn hpre.1 hpre.2
    have hp := upd_same ρ H.size (w.heap.size, 0, z.toArray.size)
    refine ⟨_, _, _, hnc.2, hnc.1, by simpa using VR.ptr (o := 0) hp, ?_⟩
    simp only [execOp, ho]
    refine lands_value ?_
    simp only [Instr.alloc, Sem.run_bind, hz1, Result.andThen_ok, newVar, newRow, run_newObj, Sem.run_pure, hz2, World.alloc_eq]
  · -- box
    rename_i t x
    obtain ⟨hu, rfl, rfl⟩ := h
    have hal := VR.cells hu (f.ev x)
    have hpre := AL.pre hal
    have hnc := newCells_sound (N := N) r (hf H.size (Nat.le_refl _) (by simp)) (ev a x).cells.toList (evC ts x).cells t true false w.drawn hpre.1 hpre.2
    have hp := upd_same ρ H.size (w.heap.size, 0, (evC ts x).cells.size)
    refine ⟨_, _, _, hnc.2, hnc.1, by simpa using VR.ptr (o := 0) hp, ?_⟩
    simp only [execOp, ho]
    refine lands_value ?_
    simp only [Instr.box, newVar, newRow, Sem.run_bind, run_newObj, Result.andThen_ok, Sem.run_pure, World.alloc_eq]
  · -- build
    rename_i t ps
    obtain ⟨hb, e⟩ := h
    obtain ⟨v', hv, hr⟩ := buildA_sound hb (PL.of f ps.toList) w
    refine same e hv ?_
    simp only [execOp, ho]
    refine lands_value ?_
    have : (ps.map fun p => (p.1, evC ts p.2)) = (ps.toList.map fun p => (p.1, evC ts p.2)).toArray := by
      apply Array.toList_inj.1; simp
    rw [this, hr]
  · -- buildSlice
    rename_i t len ps
    obtain ⟨cs, z, hb, rfl, rfl⟩ := h
    obtain ⟨cs', e, hv, hlen, hr⟩ := buildSliceA_sound hb (PL.of f ps.toList) w
    have hpre := AL.pre hv
    have hnc := newCells_sound (N := N) r (hf H.size (Nat.le_refl _) (by simp)) cs cs' e true true w.drawn hpre.1 hpre.2
    have hp := upd_same ρ H.size (w.heap.size, 0, cs'.size)
    have hsz : cs'.size = len * z := by rw [← hlen]; have := hv.1; simpa using this.symm
    have hvr := VR.slice (z := z) (o := 0) (n := len) (c := len) (c' := len) hp (Nat.le_refl _) (Nat.le_refl _) (by omega)
    refine ⟨_, _, _, hnc.2, hnc.1, by simpa using hvr, ?_⟩
    simp only [execOp, ho]
    refine lands_value ?_
    have : (ps.map fun p => (p.1, evC ts p.2)) = (ps.toList.map fun p => (p.1, evC ts p.2)).toArray := by
      apply Array.toList_inj.1; simp
    rw [this, hr]
  · -- load
    rename_i t x
    obtain ⟨i, o', vs, ex, tl, k, hx, hi, hk, hv, e⟩ := h
    have hxr := f.ev x
    rw [hx] at hxr
    obtain ⟨v', ad, h1, h2, h3⟩ := ldv_sound r hxr hi hk hv
    refine same e h1 ?_
    simp only [execOp, ho]
    refine lands_value ?_
    simp only [Instr.loadAt, h2, Instr.sureAddr, Sem.run_bind, Sem.run_pure, Result.andThen_ok, h3]
  · -- store
    rename_i t x y
    obtain ⟨i, o', vs, tl, m, new, hx, hNi, hi, hz, hs, hle, rfl, rfl⟩ := h
    have hxr := f.ev x
    rw [hx] at hxr
    obtain ⟨w', h1, h2, h3⟩ := store_sound r hxr (f.ev y) hNi hi hz hs hle
    refine ⟨ρ, _, w', h3, h2, VR.undef ρ, ?_⟩
    simp only [execOp, ho]
    exact lands_unit h1
  · -- nilCheck
    rename_i x
    obtain ⟨⟨ad, hx⟩, rfl, e⟩ := h
    have hxr := f.ev x
    rw [hx] at hxr
    obtain ⟨ad', hx'⟩ : ∃ ad', evC ts x = .pointer (some ad') := by
      generalize evC ts x = z at hxr
      cases hxr; exact ⟨_, rfl⟩
    rw [hx'] at hxr
    refine same (v' := .pointer (some ad')) e (by rw [hx]; exact hxr) ?_
    simp only [execOp, ho, hx']
    exact ⟨rfl, rfl⟩
  · -- binOp
    rename_i bop t x y yt
    obtain ⟨hb, e⟩ := h
    have := binA_sound (P := P) hb (f.ev x) (f.ev y) x y w
    refine same e (VR.scal this.1) ?_
    simp only [execOp, ho]
    exact lands_value this.2
  · -- unOp
    rename_i uop t x
    obtain ⟨hb, e⟩ := h
    have := unA_sound (P := P) hb (f.ev x) w
    refine same e (VR.scal this.1) ?_
    simp only [execOp, ho]
    exact lands_value this.2
  · -- convert
    rename_i src dst x
    obtain ⟨ρ', v', w', h1, h2, h3, h4⟩ := conv_sound (N := N) r hf h (f.ev x)
    refine ⟨ρ', v', w', h1, h2, h3, ?_⟩
    simp only [execOp, ho]
    exact lands_value h4
  · -- makeInterface
    rename_i t x
    obtain ⟨hu, rfl, e⟩ := h
    refine same e (.iface t (f.ev x)) ?_
    simp only [execOp, ho]
    refine lands_value ?_
    simp only [Instr.makeInterface, Sem.run_bind]
    split at hu
    · exact hu.elim
    · exact hu.elim
    · rename_i hni hnn
      cases hd : P.underlying t with
      | none => exact absurd hd hnn
      | some d =>
        rw [run_underlying' hd]
        cases d <;> first | rfl | exact absurd hd (hni _)
  · -- makeFunc
    rename_i fn first captured
    obtain ⟨⟨g, rfl⟩, rfl, rfl, e⟩ := h
    refine same (v' := .func (.func g) #[] (captured.map (evC ts))) e ?_ ?_
    · refine .func g (by simp) (fun j x y hx hy => ?_)
      simp only [Array.getElem?_map, Option.map_eq_some_iff] at hx hy
      obtain ⟨q, hq, rfl⟩ := hx
      obtain ⟨q', hq', rfl⟩ := hy
      rw [hq] at hq'; cases hq'
      exact f.ev q
    · simp only [execOp, ho]
      refine lands_value ?_
      simp [Instr.makeFunc]
  · -- makeMap
    rename_i t rs
    obtain ⟨rfl, rfl, rfl⟩ := h
    have hfree := hf H.size (Nat.le_refl _) (by simp)
    have hpush := Rel.push (N := N) r hfree (.map []) (.map #[] 0) 0 ⟨#[], 0, heap_push w _, rfl, fun j e c h => by simp at h⟩
    have hp := upd_same ρ H.size (w.heap.size, 0, 0)
    refine ⟨_, _, _, hpush.2, hpush.1, .map hp, ?_⟩
    simp only [execOp, ho]
    refine lands_value ?_
    simp [Instr.makeMap]
  · -- makeSlice
    rename_i t l c
    obtain ⟨e, z, bt, zs, kl, kc, n', m, hu, hz, hb, hzc, hl, hc, hnm, hm, hbt, rfl, rfl⟩ := h
    have hlr := f.ev l
    rw [hl] at hlr
    have hl' : evC ts l = .int kl (n' : Nat) := by
      generalize evC ts l = q at hlr
      cases hlr; rfl
    have hcr := f.ev c
    rw [hc] at hcr
    have hc' : evC ts c = .int kc (m : Nat) := by
      generalize evC ts c = q at hcr
      cases hcr; rfl
    obtain ⟨ρ', v', w', h1, h2, h3, h4⟩ := make_sound (N := N) (kl := kl) (kc := kc) r (hf H.size (Nat.le_refl _) (by simp)) hu hz hb hzc hnm hm hbt
    refine ⟨ρ', v', w', h1, h2, h3, ?_⟩
    simp only [execOp, ho, hl', hc']
    exact lands_value h4
  · -- slice
    rename_i t x lo hi mx
    obtain ⟨hs, e⟩ := h
    obtain ⟨v', h1, h2⟩ := sliceA_sound (P := P) hs (f.ev x) (VO.map f lo) (VO.map f hi) (VO.map f mx) w
    refine same e h1 ?_
    simp only [execOp, ho]
    exact lands_value h2
  · rename_i t x fd
    obtain ⟨hs, e⟩ := h
    obtain ⟨v', h1, h2⟩ := fieldAddrA_sound (P := P) hs (f.ev x) w
    refine same e h1 ?_
    simp only [execOp, ho]
    exact lands_value h2
  · rename_i t x fd
    obtain ⟨hs, e⟩ := h
    obtain ⟨v', h1, h2⟩ := fieldA_sound (P := P) hs (f.ev x) w
    refine same e h1 ?_
    simp only [execOp, ho]
    exact lands_value h2
  · rename_i t x i
    obtain ⟨hs, e⟩ := h
    obtain ⟨v', h1, h2⟩ := indexAddrA_sound (P := P) hs (f.ev x) (f.ev i) w
    refine same e h1 ?_
    simp only [execOp, ho]
    exact lands_value h2
  · rename_i t x i
    obtain ⟨hs, e⟩ := h
    obtain ⟨v', h1, h2⟩ := indexA_sound (P := P) hs (f.ev x) (f.ev i) w
    refine same e h1 ?_
    simp only [execOp, ho]
    exact lands_value h2
  · -- lookup
    rename_i t m k ok
    obtain ⟨kt, e, es, z, q, hu, he, hk, hz, hq, rfl, e'⟩ := h
    obtain ⟨v', h1, h2⟩ := lookup_sound r ok hu he (f.ev m) hk (f.ev k) hz hq
    refine same e' h1 ?_
    simp only [execOp, ho]
    exact lands_value h2
  · -- mapUpdate
    rename_i t m k x
    obtain ⟨kt, e, i, es, q, hu, hm, hNi, hi, hk, hq, rfl, rfl⟩ := h
    have hmr := f.ev m
    rw [hm] at hmr
    obtain ⟨w', h1, h2, h3⟩ := update_sound (N := N) r hu hNi hi hmr hk (f.ev k) (f.ev x) hq
    refine ⟨ρ, _, w', h3, h2, VR.undef ρ, ?_⟩
    simp only [execOp, ho]
    exact lands_unit h1
  · -- extract
    rename_i x i
    obtain ⟨⟨vs, hx, hv⟩, e⟩ := h
    have hxr := f.ev x
    rw [hx] at hxr
    obtain ⟨vs', hx', hsz, hall⟩ : ∃ vs', evC ts x = .tuple vs' ∧ vs.size = vs'.size ∧ ∀ (j : Nat) (x y : Value), vs[j]? = some x → vs'[j]? = some y → VR ρ x y := by
      generalize evC ts x = q at hxr
      cases hxr with
      | tuple h1 h2 => exact ⟨_, rfl, h1, h2⟩
    have hlt : i < vs'.size := by rw [← hsz]; exact get_lt hv
    have hv' : vs'[i]? = some vs'[i] := Array.getElem?_eq_getElem hlt
    refine same e (hall i _ _ hv hv') ?_
    simp only [execOp, ho]
    refine lands_value ?_
    simp only [Instr.extract, hx', hv', Sem.run_pure]
  · -- calls
    rename_i c
    have hexec : (execOp (evC ts) o).run P w = ((do let d ← resolve (evC ts) c o.type; invoke d.target d.args : Sem Next)).run P w := by simp only [execOp, ho]
    rw [hexec]
    have sameB : ∀ {b : Builtin} {v v' : Value}, c.callee = .builtin b → H' = H → VR ρ v v' → (∀ consts, (builtin b c.argTypes o.type consts (c.args.map (evC ts))).run P w = .ok (.value v') w) →
        ∃ ρ' v' w', Grow N ρ ρ' H H' w w' ∧ Rel ρ' H' w' ∧ VR ρ' v v' ∧ Lands P (((do let d ← resolve (evC ts) c o.type; invoke d.target d.args : Sem Next)).run P w) v' w' := by
      intro b v v' hb e hv hl
      subst e
      refine ⟨ρ, v', w, Grow.refl N ρ _ w, r, hv, ?_⟩
      simp only [resolve, hb, Sem.run_bind, Sem.run_pure, Result.andThen_ok, invoke, hl]
      exact ⟨rfl, rfl⟩
    have newB : ∀ {b : Builtin} {v : Value}, c.callee = .builtin b → (∃ ρ' v' w', Grow N ρ ρ' H H' w w' ∧ Rel ρ' H' w' ∧ VR ρ' v v' ∧ ∀ consts, (builtin b c.argTypes o.type consts (c.args.map (evC ts))).run P w = .ok (.value v') w') →
        ∃ ρ' v' w', Grow N ρ ρ' H H' w w' ∧ Rel ρ' H' w' ∧ VR ρ' v v' ∧ Lands P (((do let d ← resolve (evC ts) c o.type; invoke d.target d.args : Sem Next)).run P w) v' w' := by
      rintro b v hb ⟨ρ', v', w', h1, h2, h3, h4⟩
      refine ⟨ρ', v', w', h1, h2, h3, ?_⟩
      simp only [resolve, hb, Sem.run_bind, Sem.run_pure, Result.andThen_ok, invoke, h4]
      exact ⟨rfl, rfl⟩
    split at h
    · -- a function value
      rename_i x hcal
      obtain ⟨fn, cap, hx, hc⟩ := h
      have hxr := f.ev x
      rw [hx] at hxr
      obtain ⟨fn', cap', hx', hfn, hcap, hform⟩ : ∃ fn' cap', evC ts x = .func fn' #[] cap' ∧ FnR ρ fn fn' ∧ VL ρ cap.toList cap'.toList ∧ ((∃ g, fn' = .func g) ∨ ((∃ l, fn' = .yield l) ∧ cap' = #[])) := by
        generalize evC ts x = q at hxr
        cases hxr with
        | func g h1 h2 => exact ⟨_, _, rfl, rfl, ⟨by simpa using h1, fun j u v hu hv => h2 j u v (by simpa using hu) (by simpa using hv)⟩, .inl ⟨_, rfl⟩⟩
        | yield h1 => exact ⟨_, _, rfl, ⟨_, _, h1⟩, VL.nil ρ, .inr ⟨⟨_, rfl⟩, rfl⟩⟩
      obtain ⟨ρ', v', w', h1, h2, h3, h4⟩ := hC.sim _ _ _ _ _ _ hc ρ w fn' ((c.args.toList.map (evC ts)) ++ cap'.toList) hN hf r hfn ((evC_map f c.args.toList).append hcap)
      refine ⟨ρ', v', w', h1, h2, h3, ?_⟩
      have hargs : (c.args.map (evC ts)) ++ cap' = ((c.args.toList.map (evC ts)) ++ cap'.toList).toArray := by simp
      have := tgt_call (P := P) (w := w) (args := c.args.map (evC ts)) (.inr trivial) hform
      simp only [resolve, hcal, hx']
      rw [this, hargs]
      exact h4
    · -- len
      rename_i hcal
      obtain ⟨t, x, m, ht, hx, e, rfl, hh⟩ := h
      refine sameB hcal e (.int .i64 _) (fun consts => ?_)
      have hargs : (c.args.map (evC ts))[0]? = some (evC ts x) := by simp [hx]
      have hxr := f.ev x
      split at hh
      · rename_i hu
        obtain ⟨s, hs, rfl⟩ := hh
        rw [hs] at hxr
        have hs' : evC ts x = .string s := by generalize evC ts x = q at hxr; cases hxr; rfl
        simp [builtin, Builtin.len_, ht, hargs, run_underlying' hu, hs', goInt]
      · rename_i e hu
        obtain ⟨b, k, hs⟩ := hh
        rw [hs] at hxr
        have hs' : ∃ b' k', evC ts x = .slice b' m k' := by generalize evC ts x = q at hxr; cases hxr <;> exact ⟨_, _, rfl⟩
        obtain ⟨b', k', hs'⟩ := hs'
        simp [builtin, Builtin.len_, ht, hargs, run_underlying' hu, hs', goInt]
      · rename_i m' e hu
        subst hh
        simp [builtin, Builtin.len_, ht, hargs, run_underlying' hu, goInt]
      · rename_i e1 e2 hu
        obtain ⟨es, hes, rfl⟩ := hh
        rcases entries_sound (P := P) r hes hxr with ⟨h1, rfl⟩ | ⟨b, ces, clk, h1, hb, hER⟩
        · simp [builtin, Builtin.len_, ht, hargs, run_underlying' hu, h1, goInt]
        · have := hER.1
          simp only [Array.length_toList] at this
          simp [builtin, Builtin.len_, ht, hargs, run_underlying' hu, h1, run_getMap hb, goInt, this]
      · exact hh.elim
    · -- append
      rename_i hcal
      rcases h with ⟨t, t', s, x, hts, hni, has, hA⟩ | ⟨t, t', k, s, x, hts, hti, has, hA⟩
      · obtain ⟨ρ', v', w', h1, h2, h3, h4⟩ := append_sound (N := N) (ty := o.type) r hf hA hni (f.ev s) (f.ev x)
        refine newB hcal ⟨ρ', v', w', h1, h2, h3, fun consts => ?_⟩
        simp only [builtin, hts, has, Sem.run_bind]
        have : (#[s, x].map (evC ts)) = #[evC ts s, evC ts x] := by simp
        rw [this, h4]
        rfl
      · obtain ⟨ρ', v', w', h1, h2, h3, h4⟩ := appendZ_sound (N := N) (ty := o.type) r hf hA hti (f.ev s) (f.ev x)
        refine newB hcal ⟨ρ', v', w', h1, h2, h3, fun consts => ?_⟩
        simp only [builtin, hts, has, Sem.run_bind]
        have : (#[s, x].map (evC ts)) = #[evC ts s, evC ts x] := by simp
        rw [this, h4]
        rfl
    · -- copy
      rename_i hcal
      obtain ⟨t, t', d, x, hts, has, hA⟩ := h
      obtain ⟨w', h1, h2, h3, h4⟩ := copy_sound (N := N) (t' := t') (ty := o.type) r hA (f.ev d) (f.ev x)
      refine newB hcal ⟨ρ, v, w', h1, h2, h3, fun consts => ?_⟩
      simp only [builtin, hts, has, Sem.run_bind]
      have : (#[d, x].map (evC ts)) = #[evC ts d, evC ts x] := by simp
      rw [this, h4]
      rfl
    · -- min
      rename_i hcal
      obtain ⟨x, y, k, m, n', has, hx, hy, rfl, e⟩ := h
      have hxr := f.ev x
      rw [hx] at hxr
      have hx' : evC ts x = .int k m := by generalize evC ts x = q at hxr; cases hxr; rfl
      have hyr := f.ev y
      rw [hy] at hyr
      have hy' : evC ts y = .int k n' := by generalize evC ts y = q at hyr; cases hyr; rfl
      refine sameB hcal e (.int k _) (fun consts => ?_)
      simp only [builtin, has, Sem.run_bind]
      have : (#[x, y].map (evC ts)) = #[.int k m, .int k n'] := by simp [hx', hy']
      rw [this, run_min_int2]
      rfl
    · -- max
      rename_i hcal
      obtain ⟨x, y, k, m, n', has, hx, hy, rfl, e⟩ := h
      have hxr := f.ev x
      rw [hx] at hxr
      have hx' : evC ts x = .int k m := by generalize evC ts x = q at hxr; cases hxr; rfl
      have hyr := f.ev y
      rw [hy] at hyr
      have hy' : evC ts y = .int k n' := by generalize evC ts y = q at hyr; cases hyr; rfl
      refine sameB hcal e (.int k _) (fun consts => ?_)
      simp only [builtin, has, Sem.run_bind]
      have : (#[x, y].map (evC ts)) = #[.int k m, .int k n'] := by simp [hx', hy']
      rw [this, run_max_int2]
      rfl
    · -- delete
      rename_i hcal
      obtain ⟨t, t', m, k, kt, e, i, es, q, hts, has, hu, hm, hNi, hi, hk, hq, rfl, rfl⟩ := h
      have hmr := f.ev m
      rw [hm] at hmr
      obtain ⟨w', h1, h2, h3⟩ := delete_sound (N := N) (t' := t') (ty := o.type) r hu hNi hi hmr hk (f.ev k) hq
      refine newB hcal ⟨ρ, _, w', h3, h2, VR.undef ρ, fun consts => ?_⟩
      simp only [builtin, hts, has, Sem.run_bind]
      have : (#[m, k].map (evC ts)) = #[evC ts m, evC ts k] := by simp
      rw [this, h1]
      rfl
    · -- cap
      rename_i hcal
      obtain ⟨t, x, el, hts, has, hu, hx, rfl, e⟩ := h
      have hxr := f.ev x
      rw [hx] at hxr
      have hx' : evC ts x = .slice none 0 0 := by generalize evC ts x = q at hxr; cases hxr; rfl
      refine sameB hcal e (.int .i64 _) (fun consts => ?_)
      simp [builtin, Builtin.cap_, hts, has, run_underlying' hu, hx', goInt]
    · exact h.elim
  · exact h.elim

end Go.Proofs.Ytcapjjmikapmfaa.M
