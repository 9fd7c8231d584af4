/- The steps of the model's machine on frames of any kind, and M's lists of operations held against them. -/
import Derived.Test.YtcapjjmikapmfaaMi
set_option linter.unusedVariables false
set_option linter.unusedSimpArgs false
namespace Go.Proofs.Ytcapjjmikapmfaa.M
open Go

/-! ### What is protected stays -/

theorem prot_push {N : Nat} {H : Heap} (x : Blk) (hN : N ≤ H.size) : H.size ≤ (H.push x).size ∧ ∀ i, i < N → (H.push x)[i]? = H[i]? :=
  ⟨by simp, fun i hi => by rw [Array.getElem?_push, if_neg (by omega)]⟩
theorem prot_set {N i : Nat} {H : Heap} (x : Blk) (hi : N ≤ i) : H.size ≤ (H.setIfInBounds i x).size ∧ ∀ j, j < N → (H.setIfInBounds i x)[j]? = H[j]? :=
  ⟨by simp, fun j hj => by rw [Array.getElem?_setIfInBounds_ne (by omega)]⟩
theorem prot_same {N : Nat} {H H' : Heap} (e : H' = H) : H.size ≤ H'.size ∧ ∀ i, i < N → H'[i]? = H[i]? := by subst e; exact ⟨Nat.le_refl _, fun _ _ => rfl⟩

theorem OpStep.prot {P : Program} {C : CallRel} {N : Nat} {a : AAct} {H H' : Heap} {op : Op} {v : Value} (hC : SimC P C) (h : OpStep P C N a H op v H') (hN : N ≤ H.size) : H.size ≤ H'.size ∧ ∀ i, i < N → H'[i]? = H[i]? := by
  unfold OpStep at h
  split at h
  · exact prot_same h.2
  · exact prot_same h.2
  · exact prot_same h.2
  · obtain ⟨z, hz, rfl, rfl⟩ := h; exact prot_push _ hN
  · obtain ⟨hu, rfl, rfl⟩ := h; exact prot_push _ hN
  · exact prot_same h.2
  · obtain ⟨cs, z, hb, rfl, rfl⟩ := h; exact prot_push _ hN
  · obtain ⟨i, o', vs, ex, tl, k, hx, hi, hk, hv, e⟩ := h; exact prot_same e
  · obtain ⟨i, o', vs, tl, m, new, hx, hNi, hi, hz, hs, hle, rfl, rfl⟩ := h; exact prot_set _ hNi
  · exact prot_same h.2.2
  · exact prot_same h.2
  · exact prot_same h.2
  · cases h with
    | bytes => exact prot_push _ hN
    | row e vs ex i o n c a1 a2 a3 a4 a5 hNi a6 => exact prot_set _ hNi
    | _ => exact prot_same rfl
  · exact prot_same h.2.2
  · exact prot_same h.2.2.2
  · obtain ⟨rfl, rfl, rfl⟩ := h; exact prot_push _ hN
  · obtain ⟨e, z, bt, zs, kl, kc, n', m, hu, hz, hb, hzc, hl, hc, hnm, hm, hbt, rfl, rfl⟩ := h; exact prot_push _ hN
  · exact prot_same h.2
  · exact prot_same h.2
  · exact prot_same h.2
  · exact prot_same h.2
  · exact prot_same h.2
  · obtain ⟨kt, e, es, z, q, hu, he, hk, hz, hq, rfl, e'⟩ := h; exact prot_same e'
  · obtain ⟨kt, e, i, es, q, hu, hm, hNi, hi, hk, hq, rfl, rfl⟩ := h; exact prot_set _ hNi
  · exact prot_same h.2
  · split at h
    · obtain ⟨fn, cap, hx, hc⟩ := h; exact hC.prot _ _ _ _ _ _ hc hN
    · obtain ⟨t, x, m, ht, hx, e, rfl, hh⟩ := h; exact prot_same e
    · rcases h with ⟨t, t', s, x, hts, hni, has, hA⟩ | ⟨t, t', k, s, x, hts, hti, has, hA⟩
      · cases hA with
        | nothing => exact prot_same rfl
        | new => exact prot_push _ hN
        | share e z bt zs xs vs i o len c n ex hu hz hb hzc hzl hse hl hsrc hxl hxc hz0 h0 hn hbt hNi hi ho =>
          have h1 := prot_set (H := H) (.cells vs (ex && len * z == 0) false) hNi
          have h2 := prot_push (N := N) (H := H.setIfInBounds i (.cells vs (ex && len * z == 0) false)) (.cells (vs.drop o ++ xs) (len * z == 0) true) (by simpa using hN)
          exact ⟨Nat.le_trans h1.1 h2.1, fun j hj => (h2.2 j hj).trans (h1.2 j hj)⟩
        | move e z bt zs xs vs i o len c n hu hz hb hzc hzl hse hl hsrc hxl hxc hz0 h0 hn hbt hNi hi ho =>
          have h1 := prot_set (H := H) .dead hNi
          have h2 := prot_push (N := N) (H := H.setIfInBounds i .dead) (.cells (vs.drop o ++ xs) true true) (by simpa using hN)
          exact ⟨Nat.le_trans h1.1 h2.1, fun j hj => (h2.2 j hj).trans (h1.2 j hj)⟩
        | fits e z xs vs i o len c n tl hu hz hse hl hsrc hxl hxc h0 hle hNi hi ho => exact prot_set _ hNi
      · cases hA with
        | mk => exact prot_push _ hN
        | nothing => exact prot_same rfl
        | share e z bt zs vs i o len c n ex kd hu hz hb hzc hzl hse hl hxc hz0 h0 hn hbt hNi hi ho =>
          have h1 := prot_set (H := H) (.cells vs (ex && len * z == 0) false) hNi
          have h2 := prot_push (N := N) (H := H.setIfInBounds i (.cells vs (ex && len * z == 0) false)) (.cells (vs.drop o ++ (Builtin.zeroCells zs.toArray n).toList) (len * z == 0) true) (by simpa using hN)
          exact ⟨Nat.le_trans h1.1 h2.1, fun j hj => (h2.2 j hj).trans (h1.2 j hj)⟩
    · obtain ⟨t, t', d, x, hts, has, hA⟩ := h
      cases hA with
      | nothing => exact prot_same rfl
      | some e z xs vs i o len c m tl hu hz hde hl hsrc hxl hxc hNi hi ho => exact prot_set _ hNi
    · obtain ⟨x, y, k, m, n', has, hx, hy, rfl, e⟩ := h; exact prot_same e
    · obtain ⟨x, y, k, m, n', has, hx, hy, rfl, e⟩ := h; exact prot_same e
    · obtain ⟨t, t', m, k, kt, e, i, es, q, hts, has, hu, hm, hNi, hi, hk, hq, rfl, rfl⟩ := h; exact prot_set _ hNi
    · obtain ⟨t, x, el, hts, has, hu, hx, rfl, e⟩ := h; exact prot_same e
    · exact h.elim
  · exact h.elim

/-! ### The machine's steps -/

def mkF (fn : FuncId) (ts : Array Value) (todo : List Item) (ds : List Deferred) (rd : Option Nat) : Frame :=
  { fn, tmps := ts, todo, defers := ds, mode := .run, kind := .normal, roundOf := rd }

section
variable {P : Program} {fn : FuncId} {ts : Array Value} {k : List Item} {ds : List Deferred} {rd : Option Nat} {cs : List Frame} {w : World}

theorem mkF_eval (todo : List Item) : (mkF fn ts todo ds rd).eval = evC ts := by
  funext x; cases x <;> rfl

theorem stp_skip : step P (lone (mkF fn ts (.code .skip :: k) ds rd) cs w) = .next (lone (mkF fn ts k ds rd) cs w) :=
  step_lone_go (by simp [stepG, stepG.exec, mkF])
theorem stp_inBlock {id : Nat} : step P (lone (mkF fn ts (.inBlock id :: k) ds rd) cs w) = .next (lone (mkF fn ts k ds rd) cs w) :=
  step_lone_go (by simp [stepG, stepG.exec, mkF])
theorem stp_seq {x y : Code} : step P (lone (mkF fn ts (.code (.seq x y) :: k) ds rd) cs w) = .next (lone (mkF fn ts (.code x :: .code y :: k) ds rd) cs w) :=
  step_lone_go (by simp [stepG, stepG.exec, mkF])
theorem stp_cond {c : Operand} {x y : Code} {b : Bool} (h : evC ts c = .bool b) : step P (lone (mkF fn ts (.code (.cond c x y) :: k) ds rd) cs w) = .next (lone (mkF fn ts (.code (if b then x else y) :: k) ds rd) cs w) :=
  step_lone_go (by
    have he := congrFun (mkF_eval (fn := fn) (ts := ts) (ds := ds) (rd := rd) (.code (.cond c x y) :: k)) c
    simp only [mkF] at he
    simp [stepG, stepG.exec, mkF, he, h])
theorem stp_block {id : Nat} {c : Code} : step P (lone (mkF fn ts (.code (.block id c) :: k) ds rd) cs w) = .next (lone (mkF fn ts (.code c :: .inBlock id :: k) ds rd) cs w) :=
  step_lone_go (by simp [stepG, stepG.exec, mkF])
theorem stp_loop {c : Code} : step P (lone (mkF fn ts (.code (.loop c) :: k) ds rd) cs w) = .next (lone (mkF fn ts (.code c :: .inLoop c :: k) ds rd) cs w) :=
  step_lone_go (by simp [stepG, stepG.exec, mkF])
theorem stp_inLoop {c : Code} : step P (lone (mkF fn ts (.inLoop c :: k) ds rd) cs w) = .next (lone (mkF fn ts (.code c :: .inLoop c :: k) ds rd) cs w) :=
  step_lone_go (by simp [stepG, stepG.exec, mkF])
theorem stp_exit {id : Nat} {k' : List Item} (h : exitTo id k = some k') : step P (lone (mkF fn ts (.code (.exit id) :: k) ds rd) cs w) = .next (lone (mkF fn ts k' ds rd) cs w) :=
  step_lone_go (by simp [stepG, stepG.exec, mkF, h])
theorem stp_region {id : Nat} {ops : Array Oper} : step P (lone (mkF fn ts (.code (.region id ops false) :: k) ds rd) cs w) = .next (lone (mkF fn ts (.inRegion ops (List.range ops.size) :: k) ds rd) cs w) :=
  step_lone_go (by simp [stepG, stepG.exec, mkF])
theorem stp_draw {id : Nat} {ops : Array Oper} : step P (lone (mkF fn ts (.code (.region id ops true) :: k) ds rd) cs w) =
    .next (lone (mkF fn ts (.inRegion ops (Region.schedule (P.follows .mixedOrders) ops (w.tape w.drawn (.order fn id))) :: k) ds rd) cs { w with drawn := w.drawn + 1 }) :=
  step_lone_go (by simp [stepG, stepG.exec, mkF, choose, Sem.run, Question.forced, Question.cut])
theorem stp_regionEnd {ops : Array Oper} : step P (lone (mkF fn ts (.inRegion ops [] :: k) ds rd) cs w) = .next (lone (mkF fn ts k ds rd) cs w) :=
  step_lone_go (by simp [stepG, stepG.exec, mkF])

theorem mkF_finish {ops : Array Oper} {i : Nat} {rest : List Nat} (v : Value) : (mkF fn ts (.inRegion ops (i :: rest) :: k) ds rd).finish v = mkF fn (setT ts ((ops[i]?).bind (·.dst)) v) (.inRegion ops rest :: k) ds rd := by
  cases h : (ops[i]?).bind (·.dst) <;> simp [Frame.finish, mkF, setT, h]

theorem stp_opSkip {ops : Array Oper} {i : Nat} {rest : List Nat} (h : ((ops[i]?).map (Region.wanted · (yielded ops ts))).getD false = false) :
    step P (lone (mkF fn ts (.inRegion ops (i :: rest) :: k) ds rd) cs w) = .next (lone (mkF fn (setT ts ((ops[i]?).bind (·.dst)) undef) (.inRegion ops rest :: k) ds rd) cs w) := by
  rw [← mkF_finish]
  exact step_lone_go (by
    have h' := h
    simp only [mkF] at *
    simp [stepG, stepG.exec, h'])

theorem stpG_op {ops : Array Oper} {i : Nat} {rest : List Nat} {o : Oper} (ho : ops[i]? = some o) (hw : Region.wanted o (yielded ops ts) = true) (hnd : ∀ c, o.op ≠ .defer c) :
    stepG P true { frame := mkF fn ts (.inRegion ops (i :: rest) :: k) ds rd, callers := cs, status := .running, dying := none } w =
      stepG.apply P true (mkF fn ts (.inRegion ops (i :: rest) :: k) ds rd) cs none (execOp (evC ts) o) w := by
  have he := mkF_eval (fn := fn) (ts := ts) (ds := ds) (rd := rd) (.inRegion ops (i :: rest) :: k)
  simp only [mkF] at he
  simp only [stepG, stepG.exec, stepG.oper, Frame.oper?, mkF, ho, Option.map_some, Option.getD_some, hw, if_true, he]
  cases rd with
  | none => rfl
  | some l =>
    cases hop : o.op <;> first | rfl | exact absurd hop (hnd _)

/-- An operation whose answer lands is a run of steps. -/
theorem steps_op {ops : Array Oper} {i : Nat} {rest : List Nat} {o : Oper} {v' : Value} {w' : World} (ho : ops[i]? = some o) (hw : Region.wanted o (yielded ops ts) = true) (hnd : ∀ c, o.op ≠ .defer c)
    (hl : Lands P ((execOp (evC ts) o).run P w) v' w') :
    Steps P (lone (mkF fn ts (.inRegion ops (i :: rest) :: k) ds rd) cs w) (lone (mkF fn (setT ts o.dst v') (.inRegion ops rest :: k) ds rd) cs w') := by
  have hg := stpG_op (P := P) (fn := fn) (k := k) (ds := ds) (rd := rd) (cs := cs) (w := w) (rest := rest) ho hw hnd
  have hfin : ∀ v, (mkF fn ts (.inRegion ops (i :: rest) :: k) ds rd).finish v = mkF fn (setT ts o.dst v) (.inRegion ops rest :: k) ds rd := by
    intro v; rw [mkF_finish, ho]; rfl
  unfold Lands at hl
  split at hl
  · rename_i v w1 hr
    obtain ⟨rfl, rfl⟩ := hl
    refine .one (step_lone_go ?_)
    rw [hg, ← hfin]; simp [stepG.apply, hr]
  · rename_i w1 hr
    obtain ⟨rfl, rfl⟩ := hl
    refine .one (step_lone_go ?_)
    rw [hg, ← hfin]; simp [stepG.apply, hr]
  · rename_i f args w1 hr
    refine .head (m₁ := lone (Frame.enter P f args .normal) (mkF fn ts (.inRegion ops (i :: rest) :: k) ds rd :: cs) w1) (step_lone_go ?_) ?_
    · rw [hg]; simp [stepG.apply, hr, mkF]
    · rw [← hfin]; exact hl _ cs
  · rename_i l f ts2 as body w1 hr
    refine .head (m₁ := lone (Frame.round l f ts2 as body .normal) (mkF fn ts (.inRegion ops (i :: rest) :: k) ds rd :: cs) w1) (step_lone_go ?_) ?_
    · rw [hg]; simp [stepG.apply, hr, mkF]
    · rw [← hfin]; exact hl _ cs
  · exact hl.elim

end

theorem OpStep.noDefer {P : Program} {C : CallRel} {N : Nat} {a : AAct} {H H' : Heap} {op : Op} {v : Value} (h : OpStep P C N a H op v H') : ∀ c, op ≠ .defer c := by
  rintro c rfl
  exact h

/-! ### Guards -/

theorem wantedA_sound {ρ : Pl} {n : Nat} {a : AAct} {ts : Array Value} (f : FR ρ n a ts) {ops : Array Oper} {o : Oper} {b : Bool} (h : wantedA ops o a = some b) : Region.wanted o (yielded ops ts) = b := by
  unfold wantedA at h
  unfold Region.wanted
  cases hg : o.guard with
  | none => simp [hg] at h; simpa using h
  | some p =>
    obtain ⟨j, want⟩ := p
    simp only [hg] at h ⊢
    cases hd : (ops[j]?).bind (·.dst) with
    | none => simp [hd] at h
    | some d =>
      simp only [hd] at h
      have hv := f.2 d
      unfold yielded
      rw [hd, Option.bind_some]
      split at h
      · rename_i x hx
        rw [hx] at hv
        have : ts.getD d undef = .bool x := by generalize ts.getD d undef = q at hv; cases hv; rfl
        rw [Array.getD_eq_getD_getElem?] at this
        cases hq : ts[d]? with
        | none => rw [hq] at this; cases this
        | some y =>
          rw [hq] at this
          simp at this
          subst this
          cases h
          cases x <;> cases want <;> rfl
      · rename_i hx
        rw [hx] at hv
        have : ts.getD d undef = .tuple #[] := by
          generalize ts.getD d undef = q at hv
          cases hv with
          | tuple h1 h2 => 
            congr 1
            exact Array.eq_empty_of_size_eq_zero (by simpa using h1.symm)
        rw [Array.getD_eq_getD_getElem?] at this
        cases h
        cases hq : ts[d]? with
        | none => simp
        | some y =>
          rw [hq] at this
          simp at this
          subst this
          rfl
      · cases h

/-! ### Lists of operations -/

theorem OpsRun.prot {P : Program} {C : CallRel} {N n : Nat} {ops : Array Oper} (hC : SimC P C) {l : List Nat} {a a' : AAct} {H H' : Heap} (h : OpsRun P C N n ops l a H a' H') : N ≤ H.size → H.size ≤ H'.size ∧ ∀ i, i < N → H'[i]? = H[i]? := by
  induction h with
  | nil => exact fun _ => ⟨Nat.le_refl _, fun _ _ => rfl⟩
  | op ho hw hs _ ih =>
    intro hN
    have h1 := hs.prot hC hN
    have h2 := ih (Nat.le_trans hN h1.1)
    exact ⟨Nat.le_trans h1.1 h2.1, fun i hi => (h2.2 i hi).trans (h1.2 i hi)⟩
  | skip _ _ _ ih => exact ih

theorem ops_sound {P : Program} {C : CallRel} {N n : Nat} {ops : Array Oper} (hC : SimC P C) {l : List Nat} {a a' : AAct} {H H' : Heap} (h : OpsRun P C N n ops l a H a' H') :
    N ≤ H.size → ∀ (ρ : Pl) (w : World) (ts : Array Value), Free ρ H H' → Rel ρ H w → FR ρ n a ts →
    ∃ ρ' ts' w', Grow N ρ ρ' H H' w w' ∧ Rel ρ' H' w' ∧ FR ρ' n a' ts' ∧
      ∀ (fn : FuncId) (k : List Item) (ds : List Deferred) (rd : Option Nat) (cs : List Frame), Steps P (lone (mkF fn ts (.inRegion ops l :: k) ds rd) cs w) (lone (mkF fn ts' (.inRegion ops [] :: k) ds rd) cs w') := by
  induction h with
  | nil a H => exact fun hN ρ w ts hf r f => ⟨ρ, ts, w, Grow.refl N ρ H w, r, f, fun _ _ _ _ _ => Steps.refl _ _⟩
  | op ho hw hs hrest ih =>
    rename_i i rest o a a' H H1 H' v
    intro hN ρ w ts hf r f
    have h1 := hs.prot hC hN
    have h2 := hrest.prot hC (Nat.le_trans hN h1.1)
    obtain ⟨ρ1, v', w1, g1, r1, hv1, hl⟩ := hs.sound hC hN (hf.left h2.1) r f o rfl
    obtain ⟨ρ2, ts2, w2, g2, r2, f2, st⟩ := ih (Nat.le_trans hN h1.1) ρ1 w1 (setT ts o.dst v') (hf.right g1) r1 ((f.mono g1.ext).put o.dst hv1)
    refine ⟨ρ2, ts2, w2, g1.trans g2 (hf.left h2.1), r2, f2, fun fn k ds rd cs => ?_⟩
    exact (steps_op ho (wantedA_sound f hw) hs.noDefer hl).trans (st fn k ds rd cs)
  | skip ho hw hrest ih =>
    rename_i i rest o a a' H H'
    intro hN ρ w ts hf r f
    obtain ⟨ρ2, ts2, w2, g2, r2, f2, st⟩ := ih hN ρ w (setT ts o.dst undef) hf r (f.put o.dst (VR.undef ρ))
    refine ⟨ρ2, ts2, w2, g2, r2, f2, fun fn k ds rd cs => ?_⟩
    refine .head (stp_opSkip ?_) ?_
    · rw [ho]; simpa using wantedA_sound f hw
    · rw [ho]; exact st fn k ds rd cs

end Go.Proofs.Ytcapjjmikapmfaa.M
