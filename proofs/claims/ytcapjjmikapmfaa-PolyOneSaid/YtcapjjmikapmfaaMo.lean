/- M's calls, held against the model's: the least relation is sound. -/
import Derived.Test.YtcapjjmikapmfaaMn
set_option linter.unusedVariables false
set_option linter.unusedSimpArgs false
namespace Go.Proofs.Ytcapjjmikapmfaa.M
open Go

/-! ### Growing the calls' relation -/

def Sub (C C' : CallRel) : Prop := ∀ N fn args H v H', C N fn args H v H' → C' N fn args H v H'

theorem OpStep.mono {P : Program} {C C' : CallRel} (hs : Sub C C') {N : Nat} {a : AAct} {H H' : Heap} {op : Op} {v : Value} (h : OpStep P C N a H op v H') : OpStep P C' N a H op v H' := by
  unfold OpStep at h ⊢
  split at h <;> try exact h
  split at h <;> try exact h
  rename_i f hf
  obtain ⟨fn, cap, h1, h2⟩ := h
  exact ⟨fn, cap, h1, hs _ _ _ _ _ _ h2⟩

theorem OpsRun.mono {P : Program} {C C' : CallRel} (hs : Sub C C') {N n : Nat} {ops : Array Oper} {l : List Nat} {a a' : AAct} {H H' : Heap} (h : OpsRun P C N n ops l a H a' H') : OpsRun P C' N n ops l a H a' H' := by
  induction h with
  | nil => exact .nil _ _
  | op h1 h2 h3 _ ih => exact .op h1 h2 (h3.mono hs) ih
  | skip h1 h2 _ ih => exact .skip h1 h2 ih

theorem QuietRun.mono {P : Program} {C C' : CallRel} (hs : Sub C C') {n : Nat} {ops : Array Oper} {l : List Nat} {a a' : AAct} {H H' : Heap} (h : QuietRun P C n ops l a H a' H') : QuietRun P C' n ops l a H a' H' := by
  induction h with
  | nil => exact .nil _ _
  | op h1 h2 h3 _ ih => exact .op h1 h2 (h3.mono hs) ih
  | skip h1 h2 _ ih => exact .skip h1 h2 ih

theorem At.mono {P : Program} {C C' : CallRel} (hs : Sub C C') {n : Nat} {ops : Array Oper} {M : Nat} {A : Nat → AAct} {HH : Nat → Heap} {V : Nat → Value} {i : Nat} (h : At P C n ops M A HH V i) : At P C' n ops M A HH V i := by
  obtain ⟨o, e1, e2, e3⟩ := h
  exact ⟨o, e1, e2, e3.imp (fun h => ⟨h.1, h.2.mono hs⟩) id⟩

theorem Run.mono {P : Program} {C C' : CallRel} (hs : Sub C C') {N n : Nat} {fn : FuncId} {top : Bool} {code : Code} {a a' : AAct} {H H' : Heap} {e : AExit} (h : Run P C N fn n top code a H e a' H') : Run P C' N fn n top code a H e a' H' := by
  induction h with
  | skip => exact .skip _ _
  | region h => exact .region (h.mono hs)
  | quiet h1 h2 h3 h4 h5 => exact .quiet h1 h2 h3 (h4.mono hs) (h5.mono hs)
  | late h1 h2 h3 h4 h5 h6 h7 h8 => exact .late h1 h2 h3 h4 h5 h6 (h7.mono hs) (h8.mono hs)
  | calm A HH V h1 h2 h3 h4 h5 h6 =>
    exact .calm A HH V h1 h2 h3 (fun i hi => (h4 i hi).mono hs) (fun i a b => (h5 i a b).mono hs) (fun j o a b c => ⟨(h6 j o a b c).1, fun q q1 q2 q3 => ((h6 j o a b c).2 q q1 q2 q3).mono hs⟩)
  | draw h => exact .draw fun t => (h t).mono hs
  | seq _ _ i1 i2 => exact .seq i1 i2
  | seqx _ h2 i1 => exact .seqx i1 h2
  | cond h1 _ i => exact .cond h1 i
  | block _ i => exact .block i
  | loop _ _ i1 i2 => exact .loop i1 i2
  | loopx _ h2 i1 => exact .loopx i1 h2
  | exit => exact .exit _ _ _
  | ret => exact .ret _ _
  | rangeDone h1 h2 h3 h4 => exact .rangeDone h1 h2 (hs _ _ _ _ _ _ h3) h4
  | rangeRet h1 h2 h3 h4 => exact .rangeRet h1 h2 (hs _ _ _ _ _ _ h3) h4
  | rangeExit h1 h2 h3 h4 => exact .rangeExit h1 h2 (hs _ _ _ _ _ _ h3) h4

theorem CallF.mono {P : Program} {C C' : CallRel} (hs : Sub C C') {N : Nat} {fn : Fn} {args : List Value} {H H' : Heap} {v : Value} (h : CallF P C N fn args H v H') : CallF P C' N fn args H v H' := by
  unfold CallF at h ⊢
  split at h
  · rcases h with ⟨func, code, e, a', h1, h2, h3, h4, h5, h6⟩ | h
    · exact .inl ⟨func, code, e, a', h1, h2, h3, h4, h5.mono hs, h6⟩
    · exact .inr h
  · obtain ⟨fn, n, a, ps, as, bd, e, a1, a2, H1, H3, h1, h2, h3, h4, h5, h6, h7⟩ := h
    exact ⟨fn, n, a, ps, as, bd, e, a1, a2, H1, H3, h1, h2, h3, h4.mono hs, h5, h6.mono hs, h7⟩
  · exact h

theorem Call.fold {P : Program} {N : Nat} {fn : Fn} {args : List Value} {H H' : Heap} {v : Value} (h : CallF P (Call P) N fn args H v H') : Call P N fn args H v H' :=
  fun C hC => hC _ _ _ _ _ _ (h.mono fun _ _ _ _ _ _ k => k C hC)

/-! ### Results -/

/-- One result variable, as the model reads it. -/
def rdV (ts : Array Value) : ResultVar → Sem Value
  | .tmp t => pure (ts.getD t undef)
  | .cell x t => do loadVar t (← asAddr (ts.getD x undef))

theorem results_rdV (func : Func) (ts : Array Value) : results func ts = (do let vs ← func.results.mapM (rdV ts); pure (if h : vs.size = 1 then vs[0] else .tuple vs)) := by
  unfold results
  congr 1

theorem resV_sound {P : Program} {ρ : Pl} {H : Heap} {w : World} {n : Nat} {a : AAct} {ts : Array Value} (r : Rel ρ H w) (f : FR ρ n a ts) {rv : ResultVar} {v : Value} (h : resV P a H rv = some v) :
    ∃ v', VR ρ v v' ∧ (rdV ts rv).run P w = .ok v' w := by
  cases rv with
  | tmp t => simp only [resV, Option.some.injEq] at h; subst h; exact ⟨_, f.2 t, by simp [rdV]⟩
  | cell x ty =>
    simp only [resV] at h
    split at h
    · rename_i i o hx
      split at h
      · rename_i vs ex tl k hi hk
        have hxr := f.2 x
        rw [hx] at hxr
        obtain ⟨v', ad, h1, h2, h3⟩ := ldv_sound r hxr hi hk h
        exact ⟨v', h1, by simp only [rdV, h2, asAddr, Sem.run_bind, Sem.run_pure, Result.andThen_ok, h3]⟩
      · cases h
    · cases h

theorem resL_sound {P : Program} {ρ : Pl} {H : Heap} {w : World} {n : Nat} {a : AAct} {ts : Array Value} (r : Rel ρ H w) (f : FR ρ n a ts) : ∀ {rs : List ResultVar} {vs : List Value}, rs.mapM (resV P a H) = some vs →
    ∃ vs', VL ρ vs vs' ∧ (rs.mapM (rdV ts)).run P w = .ok vs' w
  | [], vs, h => by simp at h; subst h; exact ⟨[], VL.nil ρ, by simp⟩
  | rv :: rs, vs, h => by
    rw [List.mapM_cons] at h
    simp only [Option.pure_def, Option.bind_eq_bind, Option.bind_eq_some_iff] at h
    obtain ⟨v, hv, vs1, hvs, e⟩ := h
    cases e
    obtain ⟨v', h1, h2⟩ := resV_sound r f hv
    obtain ⟨vs', h3, h4⟩ := resL_sound r f hvs
    refine ⟨v' :: vs', VL.cons h1 h3, ?_⟩
    rw [List.mapM_cons, Sem.run_bind, h2, Result.andThen_ok, Sem.run_bind, h4, Result.andThen_ok, Sem.run_pure]

theorem resA_sound {P : Program} {ρ : Pl} {H : Heap} {w : World} {n : Nat} {a : AAct} {ts : Array Value} (r : Rel ρ H w) (f : FR ρ n a ts) {func : Func} {v : Value} (h : resA P func.results.toList a H = some v) :
    ∃ v', VR ρ v v' ∧ (results func ts).run P w = .ok v' w := by
  unfold resA at h
  rw [results_rdV]
  rw [Array.mapM_eq_mapM_toList]
  cases hm : func.results.toList.mapM (resV P a H) with
  | none => rw [hm] at h; simp at h
  | some vs =>
    obtain ⟨vs', h1, h2⟩ := resL_sound r f hm
    rw [hm] at h
    have hrun : ∀ (k : Array Value → Sem Value), Sem.run P ((List.toArray <$> func.results.toList.mapM (rdV ts)) >>= k) w = (k vs'.toArray).run P w := by
      intro k
      rw [Sem.run_bind]
      have : Sem.run P (List.toArray <$> func.results.toList.mapM (rdV ts)) w = .ok vs'.toArray w := by
        rw [map_eq_pure_bind, Sem.run_bind, h2, Result.andThen_ok, Sem.run_pure]
      rw [this, Result.andThen_ok]
    have hrun' := hrun fun vs => pure (if h : vs.size = 1 then vs[0] else .tuple vs)
    rw [Sem.run_pure] at hrun'
    match vs, h, h1 with
    | [x], h, h1 =>
      simp only [Option.some.injEq] at h
      subst h
      obtain ⟨y, hy⟩ : ∃ y, vs' = [y] := List.length_eq_one_iff.1 (by simpa using h1.1.symm)
      subst hy
      exact ⟨y, h1.2 0 _ _ rfl rfl, hrun'⟩
    | [], h, h1 =>
      simp only [Option.some.injEq] at h
      subst h
      have : vs' = [] := List.length_eq_zero_iff.1 (by simpa using h1.1.symm)
      subst this
      exact ⟨_, VR.undef ρ, hrun'⟩
    | x :: y :: l, h, h1 =>
      simp only [Option.some.injEq] at h
      subst h
      refine ⟨.tuple vs'.toArray, .tuple (by simpa using h1.1) (fun j p q hp hq => h1.2 j p q (by simpa using hp) (by simpa using hq)), ?_⟩
      have : ¬ vs'.toArray.size = 1 := by have := h1.1; simp at this ⊢; omega
      rw [dif_neg this] at hrun'
      exact hrun'

/-! ### Steps of a frame on its way out -/

/-- The frame on its way out. -/
def outF (fn : FuncId) (ts : Array Value) (todo : List Item) (ds : List Deferred) : Frame :=
  { fn, tmps := ts, todo, defers := ds, mode := .returning, kind := .normal }

section
variable {P : Program} {fn : FuncId} {ts : Array Value} {k : List Item} {ds : List Deferred} {cs : List Frame} {w : World}

theorem stp_leave : step P (lone (mkF fn ts [] ds none) cs w) = .next (lone (outF fn ts [] ds) cs w) :=
  step_lone_go (by simp [stepG, stepG.exec, mkF, outF])
theorem stp_leaveRet : step P (lone (mkF fn ts (.code .ret :: k) ds none) cs w) = .next (lone (outF fn ts (.code .ret :: k) ds) cs w) :=
  step_lone_go (by simp [stepG, stepG.exec, mkF, outF])
theorem stp_mark {b : Nat} (h : w.heap[b]? = some (.deferred (some []))) :
    step P (lone (outF fn ts k ({ target := .collected b, args := #[] } :: ds)) cs w) = .next (lone (outF fn ts k ds) cs (putO w b (.deferred none))) := by
  have := step_collected (P := P) (fr := outF fn ts k ({ target := .collected b, args := #[] } :: ds)) (cs := cs) (w := w) (w' := w.putObj b (.deferred none)) (d := { target := .collected b, args := #[] }) (r := b) (ds := ds) (calls := []) (by simp [outF]) rfl rfl (run_takeDeferred h)
  exact this

theorem stp_roundEnd {l : Nat} {v : Value} {w' : World} {c : Frame} (h : (Instr.endRound l none).run P w = .ok v w') :
    step P (lone (mkF fn ts [] [] (some l)) (c :: cs) w) = .next (lone (c.finish v) cs w') :=
  step_lone_go (by simp [stepG, stepG.exec, mkF, Sem.runT_eq, h, GStep.bare_after, doReturn])
theorem stp_roundRet {l : Nat} {v : Value} {w' : World} {c : Frame} (h : (Instr.endRound l (some .ret)).run P w = .ok v w') :
    step P (lone (mkF fn ts (.code .ret :: k) [] (some l)) (c :: cs) w) = .next (lone (c.finish v) cs w') :=
  step_lone_go (by simp [stepG, stepG.exec, mkF, Sem.runT_eq, h, GStep.bare_after, doReturn])
theorem stp_roundExit {l id : Nat} {v : Value} {w' : World} {c : Frame} (hk : exitTo id k = none) (h : (Instr.endRound l (some (.exit id))).run P w = .ok v w') :
    step P (lone (mkF fn ts (.code (.exit id) :: k) [] (some l)) (c :: cs) w) = .next (lone (c.finish v) cs w') :=
  step_lone_go (by simp [stepG, stepG.exec, mkF, hk, Sem.runT_eq, h, GStep.bare_after, doReturn])
theorem stp_beginRound {l : Nat} {w' : World} (h : (Instr.beginRound l).run P w = .ok () w') :
    step P (lone (mkF fn ts (.beginRound :: k) ds (some l)) cs w) = .next (lone (mkF fn ts k ds (some l)) cs w') :=
  step_lone_go (by simp [stepG, stepG.exec, mkF, stepG.apply, Sem.run_bind, h, Result.andThen, Frame.finish])

end

/-- The marks are taken one by one. -/
def unmark (w : World) (bs : List Nat) : World := bs.foldl (fun w b => putO w b (.deferred none)) w

theorem unmark_size : ∀ (bs : List Nat) (w : World), (unmark w bs).heap.size = w.heap.size
  | [], w => rfl
  | b :: bs, w => by rw [unmark, List.foldl_cons, ← unmark, unmark_size bs]; simp [putO]
theorem unmark_other : ∀ (bs : List Nat) (w : World) (c : Nat), c ∉ bs → (unmark w bs).heap[c]? = w.heap[c]?
  | [], w, c, _ => rfl
  | b :: bs, w, c, h => by
    simp only [List.mem_cons, not_or] at h
    rw [unmark, List.foldl_cons, ← unmark, unmark_other bs _ c h.2, putO_other h.1]
theorem unmark_rest : ∀ (bs : List Nat) (w : World), (unmark w bs).os = w.os ∧ (unmark w bs).tape = w.tape ∧ (unmark w bs).output = w.output
  | [], w => ⟨rfl, rfl, rfl⟩
  | b :: bs, w => by rw [unmark, List.foldl_cons, ← unmark]; exact unmark_rest bs _

theorem steps_unmark {P : Program} {fn : FuncId} {ts : Array Value} {k : List Item} {cs : List Frame} : ∀ (bs : List Nat) (w : World), bs.Nodup → (∀ b ∈ bs, w.heap[b]? = some (.deferred (some []))) →
    Steps P (lone (outF fn ts k (marks bs)) cs w) (lone (outF fn ts k []) cs (unmark w bs))
  | [], w, _, _ => Steps.refl _ _
  | b :: bs, w, hn, h => by
    have h1 := stp_mark (P := P) (fn := fn) (ts := ts) (k := k) (ds := marks bs) (cs := cs) (h b (by simp))
    refine .head h1 ?_
    refine steps_unmark bs _ (List.nodup_cons.1 hn).2 (fun c hc => ?_)
    have hne : c ≠ b := by rintro rfl; exact (List.nodup_cons.1 hn).1 hc
    rw [putO_other hne]
    exact h c (by simp [hc])

theorem Rel.unmark {ρ : Pl} {H : Heap} {w : World} {base : Nat} {bs : List Nat} (r : Rel ρ H w) (d : DS H ρ w base bs) : Rel ρ H (unmark w bs) :=
  ⟨fun i b s E hi he => by rw [unmark_size]; exact r.lt i b s E hi he,
   fun i b s E x he hx => (r.blk i b s E x he hx).keep (fun _ _ h => h) (unmark_other bs w b (fun hb => (d.2 b hb).2.2.2 i s E (get_lt hx) he)), r.sep⟩

theorem Grow.unmark {N : Nat} {ρ ρ' : Pl} {H H' : Heap} {w w' : World} {bs : List Nat} (g : Grow N ρ ρ' H H' w w') (d : DS H' ρ' w' w.heap.size bs) : Grow N ρ ρ' H H' w (unmark w' bs) where
  hsize := g.hsize
  ext := g.ext
  new := g.new
  fresh := g.fresh
  os := (unmark_rest bs w').1.trans g.os
  tape := (unmark_rest bs w').2.1.trans g.tape
  output := (unmark_rest bs w').2.2.trans g.output
  size := by rw [unmark_size]; exact g.size
  keep b hb hh := by
    rw [unmark_other bs w' b (fun hm => by have := (d.2 b hm).1; omega)]
    exact g.keep b hb hh

/-! ### Bodies -/

/-- A function's body, run. -/
def Body (P : Program) (C : CallRel) (N : Nat) (f : FuncId) (args : List Value) (H : Heap) (v : Value) (H' : Heap) : Prop :=
  ∃ func code e a', P.funcs[f]? = some func ∧ func.body = some code ∧ (func.name == "runtime.NumGoroutine") = false ∧ args.length ≤ func.ntmps ∧
      Run P C N f func.ntmps true code (enterA args) H e a' H' ∧ (e = .normal ∨ e = .ret) ∧ resA P func.results.toList a' H' = some v

theorem FR.enter {ρ : Pl} {args args' : List Value} {n : Nat} (h : VL ρ args args') (hn : args.length ≤ n) : FR ρ n (enterA args) (args'.toArray ++ Array.replicate (n - args'.toArray.size) undef) := by
  have hl := h.1
  refine ⟨by simp; omega, fun t => ?_⟩
  simp only [enterA, Array.getD_eq_getD_getElem?, List.getD_eq_getElem?_getD]
  by_cases ht : t < args.length
  · rw [Array.getElem?_append_left (by simp; omega)]
    have h1 : args[t]? = some args[t] := List.getElem?_eq_getElem ht
    have h2 : args'[t]? = some args'[t] := List.getElem?_eq_getElem (by omega)
    rw [h1]
    simp only [List.getElem?_toArray, h2, Option.getD_some]
    exact h.2 t _ _ h1 h2
  · rw [List.getElem?_eq_none (by omega), Array.getElem?_append_right (by simp; omega)]
    simp only [Option.getD_none, Array.getElem?_replicate]
    split <;> exact VR.undef ρ

theorem Body.sound {P : Program} {C : CallRel} {N : Nat} (hC : SimC P C) {f : FuncId} {args : List Value} {H H' : Heap} {v : Value} (h : Body P C N f args H v H') (ρ : Pl) (w : World) (args' : List Value) (hN : N ≤ H.size) (hf : Free ρ H H') (r : Rel ρ H w) (ha : VL ρ args args') :
    ∃ ρ' v' w', Grow N ρ ρ' H H' w w' ∧ Rel ρ' H' w' ∧ VR ρ' v v' ∧ ∀ cs, ∃ fr : Frame, fr.fn = f ∧ fr.leaving P w' (.returned v') ∧ Steps P (lone (Frame.enter P f args'.toArray .normal) cs w) (lone fr cs w') := by
  obtain ⟨func, code, e, a', h1, h2, h3, h4, h5, h6, h7⟩ := h
  have hfr : Frame.enter P f args'.toArray .normal = mkF f (args'.toArray ++ Array.replicate (func.ntmps - args'.toArray.size) undef) [.code code] [] none := by
    simp [Frame.enter, h1, h2, mkF]
  obtain ⟨ρ', ts', w1, bs, g, r', f', d, _, st⟩ := h5.sound hC hN ρ w _ w.heap.size [] (Nat.le_refl _) hf r (FR.enter ha h4) (DS.nil _ _ _ _)
  obtain ⟨v', hv, hr⟩ := resA_sound (r'.unmark d) f' h7
  refine ⟨ρ', v', unmark w1 bs, g.unmark d, r'.unmark d, hv, fun cs => ?_⟩
  have hst := st [] none cs (fun _ => rfl)
  have hum : ∀ k, Steps P (lone (outF f ts' k (marks bs)) cs w1) (lone (outF f ts' k []) cs (unmark w1 bs)) := fun k => steps_unmark bs w1 d.1 (fun b hb => (d.2 b hb).2.2.1)
  rcases h6 with rfl | rfl
  · exact ⟨outF f ts' [] [], rfl, ⟨rfl, rfl, rfl, func, h1, hr⟩, by rw [hfr]; exact Steps.trans hst (.head stp_leave (hum _))⟩
  · obtain ⟨k2, hst⟩ := hst
    exact ⟨outF f ts' (.code .ret :: k2) [], rfl, ⟨rfl, rfl, rfl, func, h1, hr⟩, by rw [hfr]; exact Steps.trans hst (.head stp_leaveRet (hum _))⟩

/-! ### One step of the calls' relation is sound -/

theorem foldl_put {ρ : Pl} {n : Nat} : ∀ (ps : List Nat) (args args' : List Value) (a : AAct) (ts : Array Value), VL ρ args args' → FR ρ n a ts →
    FR ρ n ((ps.zip args).foldl (fun a p => put n a (some p.1) p.2) a) ((ps.zip args').foldl (fun ts p => ts.setIfInBounds p.1 p.2) ts)
  | [], _, _, a, ts, _, f => by simpa using f
  | p :: ps, [], args', a, ts, h, f => by
    have : args' = [] := List.length_eq_zero_iff.1 (by simpa using h.1.symm)
    subst this; simpa using f
  | p :: ps, x :: xs, [], a, ts, h, f => by have := h.1; simp at this
  | p :: ps, x :: xs, y :: ys, a, ts, h, f => by
    simp only [List.zip_cons_cons, List.foldl_cons]
    exact foldl_put ps xs ys _ _ ⟨by have := h.1; simpa using this, fun j p q hp hq => h.2 (j + 1) p q (by simpa using hp) (by simpa using hq)⟩ (f.put (some p) (h.2 0 _ _ rfl rfl))

theorem CallF.sound {P : Program} {C : CallRel} (hC : SimC P C) {N : Nat} {fn : Fn} {args : List Value} {H H' : Heap} {v : Value} (h : CallF P C N fn args H v H') :
    (N ≤ H.size → H.size ≤ H'.size ∧ ∀ i, i < N → H'[i]? = H[i]?) ∧
    ∀ (ρ : Pl) (w : World) (fn' : Fn) (args' : List Value), N ≤ H.size → Free ρ H H' → Rel ρ H w → FnR ρ fn fn' → VL ρ args args' →
      ∃ ρ' v' w', Grow N ρ ρ' H H' w w' ∧ Rel ρ' H' w' ∧ VR ρ' v v' ∧ Lands P ((tgt fn' args'.toArray).run P w) v' w' := by
  unfold CallF at h
  split at h
  · rename_i f
    rcases h with hb | ⟨hx, rfl⟩
    · have hb' : Body P C N f args H v H' := hb
      obtain ⟨func, code, e, a', h1, h2, h3, h4, h5, h6, h7⟩ := hb
      refine ⟨h5.prot hC, fun ρ w fn' args' hN hf r hfn ha => ?_⟩
      have hfn' : fn' = .func f := hfn
      subst hfn'
      obtain ⟨ρ', v', w', g, r', hv, st⟩ := hb'.sound hC ρ w args' hN hf r ha
      refine ⟨ρ', v', w', g, r', hv, ?_⟩
      have hrun : (tgt (.func f) args'.toArray).run P w = .ok (.enter f args'.toArray) w := by
        have h3' : ¬ func.name = "runtime.NumGoroutine" := by simpa using h3
        simp [tgt, callFunc, h1, h2, h3', Sem.run_bind, program, Sem.run, Result.andThen]
      rw [hrun]
      intro caller cs
      obtain ⟨fr, _, hl, hs⟩ := st (caller :: cs)
      exact hs.trans (.one (step_leave_returned hl))
    · refine ⟨fun _ => ⟨Nat.le_refl _, fun _ _ => rfl⟩, fun ρ w fn' args' hN hf r hfn ha => ?_⟩
      have hfn' : fn' = .func f := hfn
      subst hfn'
      obtain ⟨hs, hv, hx⟩ := hx
      have : args' = args := VL.scal_eq hs ha
      subst this
      refine ⟨ρ, v, w, Grow.refl N ρ _ w, r, VR.flat hv, ?_⟩
      have : (tgt (.func f) args'.toArray).run P w = .ok (.value v) w := hx w
      rw [this]
      exact ⟨rfl, rfl⟩
  · rename_i l
    obtain ⟨fn, n, a, ps, as, bd, e, a1, a2, H1, H3, hNl, h2, h3, h4, h5, h6, h7, h8⟩ := h
    have hsz : H'.size = H3.size ∧ ∀ i, i < N → H'[i]? = H3[i]? := by
      rcases h8 with ⟨_, _, rfl⟩ | ⟨_, _, rfl⟩ | ⟨_, _, _, rfl⟩ <;> exact ⟨by simp, fun i hi => by rw [Array.getElem?_setIfInBounds_ne (by omega)]⟩
    have hp : N ≤ H.size → H.size ≤ H1.size ∧ H1.size ≤ H3.size ∧ ∀ i, i < N → H3[i]? = H[i]? := by
      intro hN
      have p1 := h4.prot hC hN
      have p2 := h6.prot hC (by simp; omega)
      simp only [Array.size_setIfInBounds] at p2
      refine ⟨p1.1, p2.1, fun i hi => ?_⟩
      rw [p2.2 i hi, Array.getElem?_setIfInBounds_ne (by omega), p1.2 i hi]
    refine ⟨fun hN => ⟨by have := hp hN; omega, fun i hi => (hsz.2 i hi).trans ((hp hN).2.2 i hi)⟩, fun ρ w fn' args' hN hf r hfn ha => ?_⟩
    obtain ⟨l', hl', s, E, hρ⟩ : ∃ l', fn' = .yield l' ∧ ∃ s E, ρ l = some (l', s, E) := by
      cases fn' with
      | yield l' => exact ⟨l', rfl, hfn⟩
      | _ => exact hfn.elim
    subst hl'
    obtain ⟨hs1, hs3, _⟩ := hp hN
    -- the record
    obtain ⟨lr, hlr, l_fn, l_ts, l_ps, l_as, l_bd, l_st⟩ := r.blk _ _ _ _ _ hρ h2
    have hparams : args'.toArray.size = lr.params.size := by
      have := ha.1; have : lr.params.toList.length = ps.length := by rw [l_ps]
      simp at this ⊢; omega
    have hrun := run_yield (P := P) (w := w) (l := l') (r := lr) (args := args'.toArray) hlr hparams
    have hts : (lr.params.zip args'.toArray).foldl (fun tmps (t, a) => tmps.setIfInBounds t a) lr.tmps = (ps.zip args').foldl (fun ts p => ts.setIfInBounds p.1 p.2) lr.tmps := by
      rw [← Array.foldl_toList, Array.toList_zip, l_ps]
    have f0 : FR ρ n ((ps.zip args).foldl (fun a p => put n a (some p.1) p.2) a) ((ps.zip args').foldl (fun ts p => ts.setIfInBounds p.1 p.2) lr.tmps) := foldl_put ps args args' a lr.tmps ha l_ts
    -- the assignment
    have hfree1 : Free ρ H H1 := hf.left (by omega)
    obtain ⟨ρ1, ts1, w1, bs1, g1, r1, f1, d1, t1, st1⟩ := h4.sound hC hN ρ w _ w.heap.size [] (Nat.le_refl _) hfree1 r f0 (DS.nil _ _ _ _)
    obtain rfl := t1 rfl
    -- the round begins
    have hρ1 := g1.ext _ _ hρ
    obtain ⟨lr1, hlr1, m_fn, m_ts, m_ps, m_as, m_bd, m_st⟩ := r1.blk _ _ _ _ _ hρ1 h5
    have hbegin := run_beginRound (P := P) hlr1 m_st.1
    have hlt1 := r1.lt _ _ _ _ (get_lt h5) hρ1
    obtain ⟨r2, g2⟩ := r1.setObj (N := N) (.loop fn n a ps as bd .busy) (.loop { lr1 with state := .busy }) hρ1 hNl h5 rfl rfl
      ⟨_, putO_same hlt1, m_fn, m_ts, m_ps, m_as, m_bd, rfl⟩
    -- the body
    have hfree2 : Free ρ1 (H1.setIfInBounds l (.loop fn n a ps as bd .busy)) H3 := by
      have := (hf.left (H1 := H3) (by omega)).right g1
      exact fun i hi hj => this i (by simpa using hi) hj
    obtain ⟨ρ3, ts3, w3, bs3, g3, r3, f3, d3, t3, st3⟩ := h6.sound hC (by simp; omega) ρ1 _ ts1 w.heap.size [] (by have := g1.size; have := g2.size; omega) hfree2 r2 f1 (DS.nil _ _ _ _)
    obtain rfl := t3 rfl
    -- the round ends
    have hρ3 := g3.ext _ _ hρ1
    obtain ⟨lr3, hlr3, n_fn, n_ts, n_ps, n_as, n_bd, n_st⟩ := r3.blk _ _ _ _ _ hρ3 h7
    have hlt3 := r3.lt _ _ _ _ (get_lt h7) hρ3
    have g12 := g1.trans g2 hfree1
    have hfree12 : Free ρ H (H1.setIfInBounds l (.loop fn n a ps as bd .busy)) := fun i hi hj => hfree1 i hi (by simpa using hj)
    have g13 := g12.trans g3 hfree12
    have hfree3 : Free ρ H H3 := hf.left (by omega)
    -- all three endings
    have fin : ∀ (jump : Option Code) (st : LoopSt), (match st with
          | .ready => (if jump.isNone then LoopState.ready else .done) = .ready ∧ jump = none
          | .busy => (if jump.isNone then LoopState.ready else .done) = .busy
          | .done j => (if jump.isNone then LoopState.ready else .done) = .done ∧ jump = some j
          | .over => True) → H' = H3.setIfInBounds l (.loop fn n a ps as bd st) → v = .bool jump.isNone →
        (∀ (c : Frame) (cs : List Frame) (w' : World), (Instr.endRound l' jump).run P w3 = .ok (.bool jump.isNone) w' →
          Steps P (lone (mkF fn ts1 [.code bd] [] (some l')) (c :: cs) (putO w1 l' (.loop { lr1 with state := .busy }))) (lone (c.finish (.bool jump.isNone)) cs w')) →
        ∃ ρ' v' w', Grow N ρ ρ' H H' w w' ∧ Rel ρ' H' w' ∧ VR ρ' v v' ∧ Lands P ((tgt (.yield l') args'.toArray).run P w) v' w' := by
      intro jump st hst hH hv hsteps
      have hend := run_endRound (P := P) jump hlr3
      obtain ⟨r4, g4⟩ := r3.setObj (N := N) (.loop fn n a ps as bd st) (.loop { lr3 with state := if jump.isNone then .ready else .done, pending := jump }) hρ3 hNl h7 rfl rfl
        ⟨_, putO_same hlt3, n_fn, n_ts, n_ps, n_as, n_bd, hst⟩
      subst hH hv
      refine ⟨ρ3, .bool jump.isNone, _, g13.trans g4 hfree3, r4, .bool _, ?_⟩
      have : (tgt (.yield l') args'.toArray).run P w = .ok (.round l' lr.fn ((ps.zip args').foldl (fun ts p => ts.setIfInBounds p.1 p.2) lr.tmps) lr.assign lr.body) w := by
        rw [← hts]; exact hrun
      rw [this]
      intro caller cs
      rw [l_fn, l_as, l_bd]
      have hfr : Frame.round l' fn ((ps.zip args').foldl (fun ts p => ts.setIfInBounds p.1 p.2) lr.tmps) as bd .normal = mkF fn ((ps.zip args').foldl (fun ts p => ts.setIfInBounds p.1 p.2) lr.tmps) [.code as, .beginRound, .code bd] [] (some l') := rfl
      rw [hfr]
      have s1 := st1 [.beginRound, .code bd] (some l') (caller :: cs) (fun h => by cases h)
      exact Steps.trans s1 (.head (stp_beginRound hbegin) (hsteps caller cs _ hend))
    rcases h8 with ⟨rfl, hv, hH⟩ | ⟨rfl, hv, hH⟩ | ⟨id, rfl, hv, hH⟩
    · refine fin none .ready ⟨rfl, rfl⟩ hH hv (fun c cs w' he => ?_)
      have s3 := st3 [] (some l') (c :: cs) (fun h => by cases h)
      exact Steps.trans s3 (.one (stp_roundEnd he))
    · refine fin (some .ret) (.done .ret) ⟨rfl, rfl⟩ hH hv (fun c cs w' he => ?_)
      obtain ⟨k2, s3⟩ := st3 [] (some l') (c :: cs) (fun h => by cases h)
      exact Steps.trans s3 (.one (stp_roundRet he))
    · refine fin (some (.exit id)) (.done (.exit id)) ⟨rfl, rfl⟩ hH hv (fun c cs w' he => ?_)
      obtain ⟨k2, hk2, s3⟩ := st3 [] (some l') (c :: cs) (fun h => by cases h)
      exact Steps.trans s3 (.one (stp_roundExit (by rw [hk2]; rfl) he))
  · exact h.elim

/-- The calls of M are sound. -/
theorem Call.simC (P : Program) : SimC P (Call P) := by
  let C0 : CallRel := fun N fn args H v H' => (N ≤ H.size → H.size ≤ H'.size ∧ ∀ i, i < N → H'[i]? = H[i]?) ∧
    ∀ (ρ : Pl) (w : World) (fn' : Fn) (args' : List Value), N ≤ H.size → Free ρ H H' → Rel ρ H w → FnR ρ fn fn' → VL ρ args args' →
      ∃ ρ' v' w', Grow N ρ ρ' H H' w w' ∧ Rel ρ' H' w' ∧ VR ρ' v v' ∧ Lands P ((tgt fn' args'.toArray).run P w) v' w'
  have h0 : SimC P C0 := ⟨fun N fn args H v H' h => h.1, fun N fn args H v H' h => h.2⟩
  exact ⟨fun N fn args H v H' h => (h C0 fun _ _ _ _ _ _ k => k.sound h0).1, fun N fn args H v H' h => (h C0 fun _ _ _ _ _ _ k => k.sound h0).2⟩

/-- A body of M, from a world: the model's call of it ends alike. -/
theorem Body.calls {P : Program} {f : FuncId} {args args' : List Value} {H H' : Heap} {v : Value} (h : Body P (Call P) H.size f args H v H') (hv : flat v = true) {ρ : Pl} {w : World} (r : Rel ρ H w) (hf : ∀ i, H.size ≤ i → ρ i = none) (ha : VL ρ args args') :
    Calls P f args'.toArray w fun e w' => e = .returned v ∧ RowKit.Below w.heap.size w w' := by
  obtain ⟨ρ', v', w', g, r', hv', st⟩ := h.sound (Call.simC P) ρ w args' (Nat.le_refl _) (fun i hi _ => hf i hi) r ha
  have : v' = v := by
    unfold flat at hv
    split at hv
    · cases hv' with
      | tuple hsz hh =>
        congr 1
        apply Array.toList_inj.1
        exact VL.scal_eq hv ⟨by simpa using hsz, fun j x y hx hy => hh j x y (by simpa using hx) (by simpa using hy)⟩
    · exact VR.scal_eq hv hv'
  subst this
  intro cs
  obtain ⟨fr, h1, h2, h3⟩ := st cs
  exact ⟨.returned v', w', fr, ⟨rfl, g.os, g.tape, g.output, g.size, fun b hb => g.keep b hb (fun i s E hi _ => hi)⟩, h3, h1, h2⟩

end Go.Proofs.Ytcapjjmikapmfaa.M
