/- M's runs of code, held against the model's machine. -/
import Derived.Test.YtcapjjmikapmfaaMm
import Derived.RangeFuncRecord
set_option linter.unusedVariables false
set_option linter.unusedSimpArgs false
namespace Go.Proofs.Ytcapjjmikapmfaa.M
open Go

/-- The marks among a frame's deferred calls. -/
def marks (bs : List Nat) : List Deferred := bs.map fun b => { target := .collected b, args := #[] }

/-- The blocks behind the marks. -/
def DS (H : Heap) (ρ : Pl) (w : World) (base : Nat) (bs : List Nat) : Prop :=
  bs.Nodup ∧ ∀ b ∈ bs, base ≤ b ∧ b < w.heap.size ∧ w.heap[b]? = some (.deferred (some [])) ∧ ∀ i s E, i < H.size → ρ i ≠ some (b, s, E)

theorem DS.nil (H : Heap) (ρ : Pl) (w : World) (base : Nat) : DS H ρ w base [] := ⟨List.nodup_nil, fun b h => by cases h⟩

theorem DS.grow {N : Nat} {ρ ρ' : Pl} {H H' : Heap} {w w' : World} {base : Nat} {bs : List Nat} (d : DS H ρ w base bs) (g : Grow N ρ ρ' H H' w w') (hf : Free ρ H H') : DS H' ρ' w' base bs := by
  refine ⟨d.1, fun b hb => ?_⟩
  obtain ⟨h1, h2, h3, h4⟩ := d.2 b hb
  refine ⟨h1, Nat.lt_of_lt_of_le h2 g.size, ?_, fun i s E hi he => ?_⟩
  · rw [g.keep b h2 (fun i s E hi he => absurd he (h4 i s E hi))]; exact h3
  · cases e : ρ i with
    | some q =>
      have := g.ext _ _ e
      rw [he] at this; cases this
      by_cases hlt : i < H.size
      · exact h4 i s E hlt e
      · rw [hf i (by omega) hi] at e; cases e
    | none =>
      obtain ⟨i0, s0, E0, h0, _, hr⟩ := g.fresh i b s E he e h2
      exact h4 i0 s0 E0 h0 hr

theorem DS.drawn {ρ : Pl} {H : Heap} {w : World} {base : Nat} {bs : List Nat} (d : DS H ρ w base bs) (m : Nat) : DS H ρ { w with drawn := m } base bs := d

theorem _root_.Go.Steps.inv {P : Program} {m m' : Machine} (h : Steps P m m') : m = m' ∨ ∃ m1, step P m = .next m1 ∧ Steps P m1 m' := by
  obtain ⟨n, h⟩ := h
  cases n with
  | zero => left; simp [runN] at h; exact h
  | succ n =>
    right
    simp only [runN] at h
    cases hs : step P m with
    | next m1 => rw [hs] at h; exact ⟨m1, rfl, n, h⟩
    | _ => rw [hs] at h; simp at h

/-! ### What is protected -/

theorem QuietRun.prot {P : Program} {C : CallRel} {n : Nat} {ops : Array Oper} (hC : SimC P C) {l : List Nat} {a a' : AAct} {H H' : Heap} (h : QuietRun P C n ops l a H a' H') : H.size ≤ H'.size ∧ ∀ i, i < H.size → H'[i]? = H[i]? := by
  induction h with
  | nil => exact ⟨Nat.le_refl _, fun _ _ => rfl⟩
  | op ho hw hs _ ih =>
    have h1 := hs.prot hC (Nat.le_refl _)
    exact ⟨Nat.le_trans h1.1 ih.1, fun i hi => (ih.2 i (by omega)).trans (h1.2 i hi)⟩
  | skip _ _ _ ih => exact ih

theorem prot_range {P : Program} {C : CallRel} {N : Nat} (hC : SimC P C) {g : Fn} {args : List Value} {x y : Blk} {v : Value} {H H2 : Heap} (hc : C N g args (H.push x) v H2) (hN : N ≤ H.size) :
    H.size ≤ (H2.setIfInBounds H.size y).size ∧ ∀ i, i < N → (H2.setIfInBounds H.size y)[i]? = H[i]? := by
  have h1 := hC.prot _ _ _ _ _ _ hc (by simp; omega)
  simp only [Array.size_push] at h1
  refine ⟨by simp; omega, fun i hi => ?_⟩
  rw [Array.getElem?_setIfInBounds_ne (by omega), h1.2 i hi, Array.getElem?_push, if_neg (by omega)]

theorem Run.prot {P : Program} {C : CallRel} {N n : Nat} {fn : FuncId} {top : Bool} (hC : SimC P C) {code : Code} {a a' : AAct} {H H' : Heap} {e : AExit} (h : Run P C N fn n top code a H e a' H') : N ≤ H.size → H.size ≤ H'.size ∧ ∀ i, i < N → H'[i]? = H[i]? := by
  induction h with
  | skip => exact fun _ => ⟨Nat.le_refl _, fun _ _ => rfl⟩
  | region ho => exact ho.prot hC
  | quiet _ _ _ hq ho =>
    intro hN
    have h1 := hq.prot hC
    have h2 := ho.prot hC (Nat.le_trans hN h1.1)
    exact ⟨Nat.le_trans h1.1 h2.1, fun i hi => (h2.2 i hi).trans (h1.2 i (by omega))⟩
  | late _ _ _ h1 h2 _ hq ho =>
    intro hN
    have k1 := hq.prot hC
    have k2 := ho.prot hC (Nat.le_trans h2 k1.1)
    exact ⟨Nat.le_trans k1.1 k2.1, fun i hi => (k2.2 i (by omega)).trans (k1.2 i (by omega))⟩
  | calm A HH V hd0 hok0 hk hq ho hst0 =>
    rename_i id k st ops
    intro hN
    have key : ∀ j, j ≤ ops.size → (HH 0).size ≤ (HH j).size ∧ ∀ i, i < N → (HH j)[i]? = (HH 0)[i]? := by
      intro j
      induction j with
      | zero => exact fun _ => ⟨Nat.le_refl _, fun _ _ => rfl⟩
      | succ j ih =>
        intro hj
        obtain ⟨i1, i2⟩ := ih (by omega)
        have hst : ∃ M, N ≤ M ∧ M ≤ (HH j).size ∧ At P C n ops M A HH V j := by
          by_cases hjk : j < k
          · exact ⟨_, Nat.le_trans hN i1, Nat.le_refl _, hq j hjk⟩
          · exact ⟨N, Nat.le_refl _, Nat.le_trans hN i1, ho j (by omega) (by omega)⟩
        obtain ⟨M, m1, m2, o, _, _, h3⟩ := hst
        rcases h3 with ⟨_, hs⟩ | ⟨_, _, e⟩
        · have h1 := hs.prot hC m2
          exact ⟨Nat.le_trans i1 h1.1, fun i hi => (h1.2 i (by omega)).trans (i2 i hi)⟩
        · rw [e]; exact ⟨i1, i2⟩
    exact key ops.size (Nat.le_refl _)
  | draw ho => exact (ho 0).prot hC
  | seq _ _ ih1 ih2 =>
    intro hN
    have h1 := ih1 hN
    have h2 := ih2 (Nat.le_trans hN h1.1)
    exact ⟨Nat.le_trans h1.1 h2.1, fun i hi => (h2.2 i hi).trans (h1.2 i hi)⟩
  | seqx _ _ ih => exact ih
  | cond _ _ ih => exact ih
  | block _ ih => exact ih
  | loop _ _ ih1 ih2 =>
    intro hN
    have h1 := ih1 hN
    have h2 := ih2 (Nat.le_trans hN h1.1)
    exact ⟨Nat.le_trans h1.1 h2.1, fun i hi => (h2.2 i hi).trans (h1.2 i hi)⟩
  | loopx _ _ ih => exact ih
  | exit => exact fun _ => ⟨Nat.le_refl _, fun _ _ => rfl⟩
  | ret => exact fun _ => ⟨Nat.le_refl _, fun _ _ => rfl⟩
  | rangeDone _ _ hc _ | rangeRet _ _ hc _ | rangeExit _ _ hc _ => exact fun hN => prot_range hC hc hN

/-! ### Steps of a range over a function -/

section
variable {P : Program} {fn : FuncId} {ts : Array Value} {k : List Item} {ds : List Deferred} {rd : Option Nat} {cs : List Frame} {w : World}

theorem stp_endRangeFunc {l : Nat} {jump : Option Code} {w' : World} (h : (Instr.endLoop l).run P w = .ok jump w') :
    step P (lone (mkF fn ts (.endRangeFunc l :: k) ds rd) cs w) = .next (lone (mkF fn ts ((jump.map Item.code).toList ++ k) ds rd) cs w') :=
  step_lone_go (by simp [stepG, stepG.exec, mkF, Sem.runT_eq, h, GStep.bare_after])

theorem mkF_finishRange (l : Nat) (v : Value) : (mkF fn ts (.inRangeFunc l :: k) ds rd).finish v = mkF fn ts (.endRangeFunc l :: k) ds rd := by
  simp [Frame.finish, mkF]

/-- Into a range over a function, through its one call. -/
theorem steps_rangeFunc {g : Operand} {ps : Array Tmp} {assign body : Code} {v' : Value} {w3 : World}
    (hl : Lands P ((do let d ← Deferred.ofValue (evC ts g) #[.func (.yield (w.heap.size + 1)) #[] #[]]; invoke d.target d.args : Sem Next).run P
      ((w.alloc (.deferred (some []))).alloc (.loop { state := .ready, pending := none, fn, tmps := ts, params := ps, assign, body, defers := w.heap.size }))) v' w3) :
    Steps P (lone (mkF fn ts (.code (.rangeFunc g ps assign body) :: k) ds none) cs w)
      (lone (mkF fn ts (.endRangeFunc (w.heap.size + 1) :: k) ({ target := .collected w.heap.size, args := #[] } :: ds) none) cs w3) := by
  have he := run_enterLoop_outer (P := P) (w := w) fn ts ps assign body
  have hev := mkF_eval (fn := fn) (ts := ts) (ds := { target := .collected w.heap.size, args := #[] } :: ds) (rd := none) (.inRangeFunc (w.heap.size + 1) :: k)
  simp only [mkF] at hev
  have hg : (stepG P true { frame := mkF fn ts (.code (.rangeFunc g ps assign body) :: k) ds none, callers := cs, status := .running, dying := none } w).bare =
      (stepG.apply P true (mkF fn ts (.inRangeFunc (w.heap.size + 1) :: k) ({ target := .collected w.heap.size, args := #[] } :: ds) none) cs none
        (do let d ← Deferred.ofValue (evC ts g) #[.func (.yield (w.heap.size + 1)) #[] #[]]; invoke d.target d.args)
        ((w.alloc (.deferred (some []))).alloc (.loop { state := .ready, pending := none, fn, tmps := ts, params := ps, assign, body, defers := w.heap.size }))).bare := by
    simp only [stepG, stepG.exec, mkF, Sem.runT_eq, he, GStep.bare_after, List.singleton_append, hev, resolve]
    simp only [List.map_toArray, List.map_cons, List.map_nil, evC]
  unfold Lands at hl
  split at hl
  · rename_i v w1 hr
    obtain ⟨rfl, rfl⟩ := hl
    refine .one (step_lone_go ?_)
    rw [hg, ← mkF_finishRange (k := k) _ v]; simp [stepG.apply, hr]
  · rename_i w1 hr
    obtain ⟨rfl, rfl⟩ := hl
    refine .one (step_lone_go ?_)
    rw [hg, ← mkF_finishRange (k := k) _ undef]; simp [stepG.apply, hr]
  · rename_i f args w1 hr
    refine .head (m₁ := lone (Frame.enter P f args .normal) (mkF fn ts (.inRangeFunc (w.heap.size + 1) :: k) ({ target := .collected w.heap.size, args := #[] } :: ds) none :: cs) w1) (step_lone_go ?_) ?_
    · rw [hg]; simp [stepG.apply, hr, mkF]
    · rw [← mkF_finishRange (k := k) _ v']; exact hl _ cs
  · rename_i l f ts2 as body' w1 hr
    refine .head (m₁ := lone (Frame.round l f ts2 as body' .normal) (mkF fn ts (.inRangeFunc (w.heap.size + 1) :: k) ({ target := .collected w.heap.size, args := #[] } :: ds) none :: cs) w1) (step_lone_go ?_) ?_
    · rw [hg]; simp [stepG.apply, hr, mkF]
    · rw [← mkF_finishRange (k := k) _ v']; exact hl _ cs
  · exact hl.elim

end

theorem Rel.alloc {ρ : Pl} {H : Heap} {w : World} (r : Rel ρ H w) (o : Obj) : Rel ρ H (w.alloc o) :=
  ⟨fun i b s E hi he => by have := r.lt i b s E hi he; simp; omega,
   fun i b s E x he hx => (r.blk i b s E x he hx).keep (fun _ _ h => h) (heap_push_lt w o b (r.lt i b s E (get_lt hx) he)), r.sep⟩

theorem Grow.alloc {N : Nat} (ρ : Pl) (H : Heap) (w : World) (o : Obj) : Grow N ρ ρ H H w (w.alloc o) where
  hsize := Nat.le_refl _
  ext _ _ h := h
  new i p h h' := by rw [h] at h'; cases h'
  fresh i b s E h h' := by rw [h] at h'; cases h'
  os := rfl
  tape := rfl
  output := rfl
  size := by simp
  keep b hb _ := heap_push_lt w o b hb

/-- What a run of code comes to on the machine. -/
def Comes' (P : Program) (fn : FuncId) (code : Code) (ts ts' : Array Value) (bs bs' : List Nat) (w w' : World) (k : List Item) (rd : Option Nat) (cs : List Frame) : AExit → Prop
  | .normal => Steps P (lone (mkF fn ts (.code code :: k) (marks bs) rd) cs w) (lone (mkF fn ts' k (marks bs') rd) cs w')
  | .exit id => ∃ k2, exitTo id k2 = exitTo id k ∧ Steps P (lone (mkF fn ts (.code code :: k) (marks bs) rd) cs w) (lone (mkF fn ts' (.code (.exit id) :: k2) (marks bs') rd) cs w')
  | .ret => ∃ k2, Steps P (lone (mkF fn ts (.code code :: k) (marks bs) rd) cs w) (lone (mkF fn ts' (.code .ret :: k2) (marks bs') rd) cs w')

/-- What is shown of a run. -/
def SoundR (P : Program) (N n : Nat) (fn : FuncId) (top : Bool) (code : Code) (a : AAct) (H : Heap) (e : AExit) (a' : AAct) (H' : Heap) : Prop :=
  N ≤ H.size → ∀ (ρ : Pl) (w : World) (ts : Array Value) (base : Nat) (bs : List Nat), base ≤ w.heap.size → Free ρ H H' → Rel ρ H w → FR ρ n a ts → DS H ρ w base bs →
    ∃ ρ' ts' w' bs', Grow N ρ ρ' H H' w w' ∧ Rel ρ' H' w' ∧ FR ρ' n a' ts' ∧ DS H' ρ' w' base bs' ∧ (top = false → bs' = bs) ∧
      ∀ (k : List Item) (rd : Option Nat) (cs : List Frame), (top = true → rd = none) → Comes' P fn code ts ts' bs bs' w w' k rd cs e

/-- The way into a range over a function, the call, and the way out. -/
theorem range_sound {P : Program} {C : CallRel} {N n : Nat} {fn : FuncId} (hC : SimC P C) {f : Operand} {params : Array Nat} {assign body : Code} {a : AAct} {g : Fn} {cap : Array Value} {v : Value} {H H2 : Heap} {st : LoopSt} (jump : Option Code) (hev : ev a f = .func g #[] cap)
    (hc : C N g (.func (.yield H.size) #[] #[] :: cap.toList) (H.push (.loop fn n a params.toList assign body .ready)) v H2) (h2 : H2[H.size]? = some (.loop fn n a params.toList assign body st))
    (hst : (st = .ready ∧ jump = none) ∨ (∃ j, st = .done j ∧ jump = some j)) (hN : N ≤ H.size) (ρ : Pl) (w : World) (ts : Array Value) (base : Nat) (bs : List Nat) (hb : base ≤ w.heap.size)
    (hf : Free ρ H (H2.setIfInBounds H.size (.loop fn n a params.toList assign body .over))) (r : Rel ρ H w) (fr : FR ρ n a ts) (d : DS H ρ w base bs) :
    ∃ ρ' w' bs', Grow N ρ ρ' H (H2.setIfInBounds H.size (.loop fn n a params.toList assign body .over)) w w' ∧ Rel ρ' (H2.setIfInBounds H.size (.loop fn n a params.toList assign body .over)) w' ∧ FR ρ' n a ts ∧
      DS (H2.setIfInBounds H.size (.loop fn n a params.toList assign body .over)) ρ' w' base bs' ∧
      ∀ (k : List Item) (cs : List Frame), Steps P (lone (mkF fn ts (.code (.rangeFunc f params assign body) :: k) (marks bs) none) cs w) (lone (mkF fn ts ((jump.map Item.code).toList ++ k) (marks bs') none) cs w') := by
  have hp0 := hC.prot _ _ _ _ _ _ hc (by simp; omega)
  simp only [Array.size_push] at hp0
  -- the block for the deferred calls
  let w1 := w.alloc (.deferred (some []))
  have r1 : Rel ρ H w1 := r.alloc _
  have g1 : Grow N ρ ρ H H w w1 := Grow.alloc ρ H w _
  have hs1 : w1.heap.size = w.heap.size + 1 := by simp [w1]
  -- the loop's record
  let lp : Loop := { state := .ready, pending := none, fn, tmps := ts, params := params, assign, body, defers := w.heap.size }
  let w2 := w1.alloc (.loop lp)
  have hf' : Free ρ H H2 := fun i h1 h2 => hf i h1 (by simpa using h2)
  have hnone : ρ H.size = none := hf' H.size (Nat.le_refl _) (by omega)
  have hext := upd_ext (p := (w1.heap.size, 0, 0)) hnone
  have hbr : BR (upd ρ H.size (w1.heap.size, 0, 0)) w2 w1.heap.size 0 0 (.loop fn n a params.toList assign body .ready) :=
    ⟨lp, heap_push w1 _, rfl, fr.mono hext, rfl, rfl, rfl, rfl, rfl⟩
  obtain ⟨r2, g2⟩ := r1.push (N := N) hnone (.loop fn n a params.toList assign body .ready) (.loop lp) 0 hbr
  have hp : upd ρ H.size (w1.heap.size, 0, 0) H.size = some (w1.heap.size, 0, 0) := upd_same ρ H.size _
  -- the call
  have hevf := fr.ev f
  rw [hev] at hevf
  have hfree1 : Free ρ H (H.push (.loop fn n a params.toList assign body .ready)) := hf'.left (by simp; omega)
  have hfree2 : Free (upd ρ H.size (w1.heap.size, 0, 0)) (H.push (.loop fn n a params.toList assign body .ready)) H2 := hf'.right g2
  have hcall : ∃ ρ3 v' w3, Grow N (upd ρ H.size (w1.heap.size, 0, 0)) ρ3 (H.push (.loop fn n a params.toList assign body .ready)) H2 w2 w3 ∧ Rel ρ3 H2 w3 ∧
      Lands P ((do let d ← Deferred.ofValue (evC ts f) #[.func (.yield (w.heap.size + 1)) #[] #[]]; invoke d.target d.args : Sem Next).run P w2) v' w3 := by
    have hyl : VR (upd ρ H.size (w1.heap.size, 0, 0)) (.func (.yield H.size) #[] #[]) (.func (.yield (w.heap.size + 1)) #[] #[]) := by
      rw [← hs1]; exact .yield hp
    generalize hz : evC ts f = z at hevf
    cases hevf with
    | func gf hsz hh =>
      rename_i c'
      have hvl : VL (upd ρ H.size (w1.heap.size, 0, 0)) (.func (.yield H.size) #[] #[] :: cap.toList) (.func (.yield (w.heap.size + 1)) #[] #[] :: c'.toList) :=
        VL.cons hyl ⟨by simpa using hsz, fun j x y hx hy => (hh j x y (by simpa using hx) (by simpa using hy)).mono hext⟩
      obtain ⟨ρ3, v', w3, g3, r3, hv3, hl3⟩ := hC.sim _ _ _ _ _ _ hc _ w2 (.func gf) _ (by simp; omega) hfree2 r2 (by rfl) hvl
      refine ⟨ρ3, v', w3, g3, r3, ?_⟩
      rw [tgt_call (.inr trivial) (.inl ⟨gf, rfl⟩)]
      have : (#[Value.func (.yield (w.heap.size + 1)) #[] #[]] ++ c') = (Value.func (.yield (w.heap.size + 1)) #[] #[] :: c'.toList).toArray := by apply Array.toList_inj.1; simp
      rw [this]; exact hl3
    | yield hy =>
      rename_i l l' s E
      have hvl : VL (upd ρ H.size (w1.heap.size, 0, 0)) (.func (.yield H.size) #[] #[] :: (#[] : Array Value).toList) (.func (.yield (w.heap.size + 1)) #[] #[] :: (#[] : Array Value).toList) := VL.cons hyl (VL.nil _)
      obtain ⟨ρ3, v', w3, g3, r3, hv3, hl3⟩ := hC.sim _ _ _ _ _ _ hc _ w2 (.yield l') _ (by simp; omega) hfree2 r2 ⟨s, E, hext _ _ hy⟩ hvl
      refine ⟨ρ3, v', w3, g3, r3, ?_⟩
      rw [tgt_call (.inr trivial) (.inr ⟨⟨l', rfl⟩, rfl⟩)]
      simpa using hl3
  obtain ⟨ρ3, v', w3, g3, r3, hl3⟩ := hcall
  -- the way out
  have hp3 := g3.ext _ _ hp
  obtain ⟨lr, hlr, h_fn, h_ts, h_ps, h_as, h_bd, h_st⟩ := r3.blk _ _ _ _ _ hp3 h2
  have hstate : lr.state ≠ .busy ∧ lr.pending = jump := by
    rcases hst with ⟨rfl, rfl⟩ | ⟨j, rfl, rfl⟩
    · exact ⟨by rw [h_st.1]; simp, h_st.2⟩
    · exact ⟨by rw [h_st.1]; simp, h_st.2⟩
  have hend := run_endLoop (P := P) hlr hstate.1
  have hbr4 : BR ρ3 (putO w3 w1.heap.size (.loop { lr with state := .exhausted })) w1.heap.size 0 0 (.loop fn n a params.toList assign body .over) :=
    ⟨_, putO_same (r3.lt _ _ _ _ (get_lt h2) hp3), h_fn, h_ts, h_ps, h_as, h_bd, trivial⟩
  obtain ⟨r4, g4⟩ := r3.setObj (N := N) _ _ hp3 hN h2 rfl rfl hbr4
  have hfree4 : Free ρ3 H2 (H2.setIfInBounds H.size (.loop fn n a params.toList assign body .over)) := fun i h1 h2 => by simp at h2; omega
  have gA := (g1.trans g2 (fun i h1 h2 => by omega))
  have gB := gA.trans g3 hfree1
  have gC := gB.trans g4 hf'
  refine ⟨ρ3, _, w.heap.size :: bs, gC, r4, fr.mono (fun i p h => g3.ext _ _ (hext _ _ h)), ?_, fun k cs => ?_⟩
  · -- the marks
    have dA : DS (H.push (.loop fn n a params.toList assign body .ready)) (upd ρ H.size (w1.heap.size, 0, 0)) w2 base (w.heap.size :: bs) := by
      have d0 := d.grow gA hfree1
      refine ⟨List.nodup_cons.2 ⟨fun hm => ?_, d.1⟩, fun b hbm => ?_⟩
      · have := (d.2 _ hm).2.1; omega
      · rcases List.mem_cons.1 hbm with rfl | hm
        · refine ⟨hb, Nat.lt_of_lt_of_le (by omega : w.heap.size < w1.heap.size) g2.size, ?_, fun i s E hi he => ?_⟩
          · show (w1.alloc (.loop lp)).heap[w.heap.size]? = _
            rw [heap_push_lt w1 _ _ (by omega)]; exact heap_push w _
          · unfold upd at he
            split at he
            · have := congrArg (fun x => x.map (·.1)) he
              simp only [Option.map_some, Option.some.injEq] at this
              omega
            · rename_i hne
              simp at hi
              have := r.lt i _ s E (by omega) he
              omega
        · exact d0.2 b hm
    have dB := dA.grow g3 hfree2
    exact dB.grow g4 hfree4
  · have h1 := steps_rangeFunc (P := P) (fn := fn) (ts := ts) (k := k) (ds := marks bs) (cs := cs) (w := w) (g := f) (ps := params) (assign := assign) (body := body) (v' := v') (w3 := w3) hl3
    refine h1.trans (.one ?_)
    have := stp_endRangeFunc (P := P) (fn := fn) (ts := ts) (k := k) (ds := marks (w.heap.size :: bs)) (rd := none) (cs := cs) (l := w.heap.size + 1) (jump := jump) (w := w3) (w' := putO w3 w1.heap.size (.loop { lr with state := .exhausted })) (by
      rw [← hs1, ← hstate.2]; exact hend)
    exact this

theorem Run.sound {P : Program} {C : CallRel} {N n : Nat} {fn : FuncId} {top : Bool} (hC : SimC P C) {code : Code} {a a' : AAct} {H H' : Heap} {e : AExit} (h : Run P C N fn n top code a H e a' H') : SoundR P N n fn top code a H e a' H' := by
  induction h with
  | skip a H => exact fun hN ρ w ts base bs hb hf r f d => ⟨ρ, ts, w, bs, Grow.refl N ρ H w, r, f, d, fun _ => rfl, fun k rd cs _ => .one stp_skip⟩
  | region ho =>
    intro hN ρ w ts base bs hb hf r f d
    obtain ⟨ρ', ts', w', g, r', f', st⟩ := ops_sound hC ho hN ρ w ts hf r f
    exact ⟨ρ', ts', w', bs, g, r', f', d.grow g hf, fun _ => rfl, fun k rd cs _ => .head stp_region ((st fn k (marks bs) rd cs).trans (.one stp_regionEnd))⟩
  | quiet hd hok hk hq ho =>
    rename_i id k ops a a1 a' H H1 H'
    intro hN ρ w ts base bs hb hf r f d
    obtain ⟨ρ', ts', w', g, r', f', st⟩ := late_sound hC (P.follows .mixedOrders) hd (drawOk_nil hok) hk hq ho hN hf (r.drawn (w.drawn + 1)) f (fun j hj => absurd hj (by simp)) (w.tape w.drawn (.order fn id))
    have g' : Grow N ρ ρ' H H' w w' := ⟨g.hsize, g.ext, g.new, g.fresh, g.os, g.tape, g.output, g.size, g.keep⟩
    exact ⟨ρ', ts', w', bs, g', r', f', d.grow g' hf, fun _ => rfl, fun k rd cs _ => .head stp_draw ((st fn k (marks bs) rd cs).trans (.one stp_regionEnd))⟩
  | late hd hok hk hN1 hN2 hfar hq ho =>
    rename_i id k N2 st0 ops a a1 a' H H1 H'
    intro hN ρ w ts base bs hb hf r f d
    obtain ⟨ρ', ts', w', g, r', f', st⟩ := late_sound hC (P.follows .mixedOrders) hd hok hk hq ho hN2 hf (r.drawn (w.drawn + 1)) f hfar (w.tape w.drawn (.order fn id))
    have g' : Grow N ρ ρ' H H' w w' := ⟨g.hsize, g.ext, g.new, fun i b s E h1 h2 h3 => (let ⟨i0, s0, E0, k1, k2, k3⟩ := g.fresh i b s E h1 h2 h3; ⟨i0, s0, E0, k1, Nat.le_trans hN1 k2, k3⟩), g.os, g.tape, g.output, g.size, fun b hb hh => g.keep b hb fun i s E hi hr => Nat.lt_of_lt_of_le (hh i s E hi hr) hN1⟩
    exact ⟨ρ', ts', w', bs, g', r', f', d.grow g' hf, fun _ => rfl, fun k rd cs _ => .head stp_draw ((st fn k (marks bs) rd cs).trans (.one stp_regionEnd))⟩
  | calm A HH V hd hok hk hq ho hst =>
    rename_i id k st ops
    intro hN ρ w ts base bs hb hf r f d
    have T : Tr P C N n k st ops A HH V := ⟨⟨hC, hN, hk, DrawOk.ofC hok, hq, ho⟩, fun j o hj hs _ => hst j o hj hs⟩
    obtain ⟨ρ', ts', w', g, r', f', st'⟩ := trace_sound (P.follows .mixedOrders) hd T hf (r.drawn (w.drawn + 1)) f (w.tape w.drawn (.order fn id))
    have g' : Grow N ρ ρ' (HH 0) (HH ops.size) w w' := ⟨g.hsize, g.ext, g.new, g.fresh, g.os, g.tape, g.output, g.size, g.keep⟩
    exact ⟨ρ', ts', w', bs, g', r', f', d.grow g' hf, fun _ => rfl, fun k rd cs _ => .head stp_draw ((st' fn k (marks bs) rd cs).trans (.one stp_regionEnd))⟩
  | draw ho =>
    rename_i id ops a a' H H'
    intro hN ρ w ts base bs hb hf r f d
    obtain ⟨ρ', ts', w', g, r', f', st⟩ := ops_sound hC (ho (w.tape w.drawn (.order fn id))) hN ρ _ ts hf (r.drawn (w.drawn + 1)) f
    have g' : Grow N ρ ρ' H H' w w' := ⟨g.hsize, g.ext, g.new, g.fresh, g.os, g.tape, g.output, g.size, g.keep⟩
    exact ⟨ρ', ts', w', bs, g', r', f', d.grow g' hf, fun _ => rfl, fun k rd cs _ => .head stp_draw ((st fn k (marks bs) rd cs).trans (.one stp_regionEnd))⟩
  | seq hx hy ih1 ih2 =>
    intro hN ρ w ts base bs hb hf r f d
    have p1 := hx.prot hC hN
    have p2 := hy.prot hC (Nat.le_trans hN p1.1)
    obtain ⟨ρ1, ts1, w1, bs1, g1, r1, f1, d1, t1, st1⟩ := ih1 hN ρ w ts base bs hb (hf.left p2.1) r f d
    obtain ⟨ρ2, ts2, w2, bs2, g2, r2, f2, d2, t2, st2⟩ := ih2 (Nat.le_trans hN p1.1) ρ1 w1 ts1 base bs1 (Nat.le_trans hb g1.size) (hf.right g1) r1 f1 d1
    refine ⟨ρ2, ts2, w2, bs2, g1.trans g2 (hf.left p2.1), r2, f2, d2, fun h => (t2 h).trans (t1 h), fun k rd cs hrd => ?_⟩
    rename_i x y e _ _ _ _ _ _
    have s0 : ∀ {m}, Steps P (lone (mkF fn ts1 (.code y :: k) (marks bs1) rd) cs w1) m → Steps P (lone (mkF fn ts (.code (.seq x y) :: k) (marks bs) rd) cs w) m := fun h => .head stp_seq ((st1 _ rd cs hrd).trans h)
    have s2 := st2 k rd cs hrd
    cases e with
    | normal => exact s0 s2
    | exit id => obtain ⟨k2, hk2, s2⟩ := s2; exact ⟨k2, hk2, s0 s2⟩
    | ret => obtain ⟨k2, s2⟩ := s2; exact ⟨k2, s0 s2⟩
  | seqx hx hne ih =>
    intro hN ρ w ts base bs hb hf r f d
    obtain ⟨ρ1, ts1, w1, bs1, g1, r1, f1, d1, t1, st1⟩ := ih hN ρ w ts base bs hb hf r f d
    refine ⟨ρ1, ts1, w1, bs1, g1, r1, f1, d1, t1, fun k rd cs hrd => ?_⟩
    rename_i x y e _ _ _ _
    have s2 := st1 (.code y :: k) rd cs hrd
    cases e with
    | normal => exact absurd rfl hne
    | exit id => obtain ⟨k2, hk2, s2⟩ := s2; exact ⟨k2, by rw [hk2]; rfl, .head stp_seq s2⟩
    | ret => obtain ⟨k2, s2⟩ := s2; exact ⟨k2, .head stp_seq s2⟩
  | cond hev hx ih =>
    intro hN ρ w ts base bs hb hf r f d
    obtain ⟨ρ1, ts1, w1, bs1, g1, r1, f1, d1, t1, st1⟩ := ih hN ρ w ts base bs hb hf r f d
    refine ⟨ρ1, ts1, w1, bs1, g1, r1, f1, d1, t1, fun k rd cs hrd => ?_⟩
    rename_i c x y b e _ _ _ _
    have hcb := f.ev c
    rw [hev] at hcb
    have hcb' : evC ts c = .bool b := by
      generalize evC ts c = z at hcb
      cases hcb; rfl
    have s2 := st1 k rd cs hrd
    cases e with
    | normal => exact .head (stp_cond hcb') s2
    | exit id => obtain ⟨k2, hk2, s2⟩ := s2; exact ⟨k2, hk2, .head (stp_cond hcb') s2⟩
    | ret => obtain ⟨k2, s2⟩ := s2; exact ⟨k2, .head (stp_cond hcb') s2⟩
  | block hx ih =>
    intro hN ρ w ts base bs hb hf r f d
    obtain ⟨ρ1, ts1, w1, bs1, g1, r1, f1, d1, t1, st1⟩ := ih hN ρ w ts base bs hb hf r f d
    refine ⟨ρ1, ts1, w1, bs1, g1, r1, f1, d1, t1, fun k rd cs hrd => ?_⟩
    rename_i id c e _ _ _ _
    have s2 := st1 (.inBlock id :: k) rd cs hrd
    cases e with
    | normal => rw [if_neg (by simp)]; exact .head stp_block (s2.trans (.one stp_inBlock))
    | exit id' =>
      obtain ⟨k2, hk2, s2⟩ := s2
      by_cases hid : id' = id
      · subst hid
        rw [if_pos rfl]
        refine .head stp_block (s2.trans (.one (stp_exit ?_)))
        rw [hk2]; simp [exitTo]
      · rw [if_neg (by simpa using hid)]
        refine ⟨k2, ?_, .head stp_block s2⟩
        rw [hk2]; simp [exitTo, Ne.symm hid]
    | ret => rw [if_neg (by simp)]; obtain ⟨k2, s2⟩ := s2; exact ⟨k2, .head stp_block s2⟩
  | loop hx hy ih1 ih2 =>
    rename_i c e a a1 a' H H1 H'
    intro hN ρ w ts base bs hb hf r f d
    have p1 := hx.prot hC hN
    have p2 := hy.prot hC (Nat.le_trans hN p1.1)
    obtain ⟨ρ1, ts1, w1, bs1, g1, r1, f1, d1, t1, st1⟩ := ih1 hN ρ w ts base bs hb (hf.left p2.1) r f d
    obtain ⟨ρ2, ts2, w2, bs2, g2, r2, f2, d2, t2, st2⟩ := ih2 (Nat.le_trans hN p1.1) ρ1 w1 ts1 base bs1 (Nat.le_trans hb g1.size) (hf.right g1) r1 f1 d1
    refine ⟨ρ2, ts2, w2, bs2, g1.trans g2 (hf.left p2.1), r2, f2, d2, fun h => (t2 h).trans (t1 h), fun k rd cs hrd => ?_⟩
    -- the second round begins at '.inLoop': one step to the state that '.loop' steps to
    have s1 : Steps P (lone (mkF fn ts (.code (.loop c) :: k) (marks bs) rd) cs w) (lone (mkF fn ts1 (.inLoop c :: k) (marks bs1) rd) cs w1) := .head stp_loop (st1 _ rd cs hrd)
    have s2 := st2 k rd cs hrd
    have swap : ∀ (ts3 : Array Value) (todo : List Item) (ds : List Deferred) (w3 : World), todo ≠ .code (.loop c) :: k →
        Steps P (lone (mkF fn ts1 (.code (.loop c) :: k) (marks bs1) rd) cs w1) (lone (mkF fn ts3 todo ds rd) cs w3) → Steps P (lone (mkF fn ts (.code (.loop c) :: k) (marks bs) rd) cs w) (lone (mkF fn ts3 todo ds rd) cs w3) := by
      intro ts3 todo ds w3 hne hs
      rcases hs.inv with heq | ⟨m1, h1, h2⟩
      · have := congrArg (fun m => (m.gs[0]?).map fun g => g.frame.todo) heq
        simp [lone, mkF] at this
        exact absurd this.symm hne
      · rw [stp_loop] at h1
        cases h1
        exact s1.trans (.head stp_inLoop h2)
    cases e with
    | normal => exact swap _ _ _ _ (fun h => by have := congrArg List.length h; simp at this) s2
    | exit id => obtain ⟨k2, hk2, s2⟩ := s2; exact ⟨k2, hk2, swap _ _ _ _ (fun h => by cases h) s2⟩
    | ret => obtain ⟨k2, s2⟩ := s2; exact ⟨k2, swap _ _ _ _ (fun h => by cases h) s2⟩
  | loopx hx hne ih =>
    intro hN ρ w ts base bs hb hf r f d
    obtain ⟨ρ1, ts1, w1, bs1, g1, r1, f1, d1, t1, st1⟩ := ih hN ρ w ts base bs hb hf r f d
    refine ⟨ρ1, ts1, w1, bs1, g1, r1, f1, d1, t1, fun k rd cs hrd => ?_⟩
    rename_i c e _ _ _ _
    have s2 := st1 (.inLoop c :: k) rd cs hrd
    cases e with
    | normal => exact absurd rfl hne
    | exit id => obtain ⟨k2, hk2, s2⟩ := s2; exact ⟨k2, by rw [hk2]; rfl, .head stp_loop s2⟩
    | ret => obtain ⟨k2, s2⟩ := s2; exact ⟨k2, .head stp_loop s2⟩
  | exit id a H => exact fun hN ρ w ts base bs hb hf r f d => ⟨ρ, ts, w, bs, Grow.refl N ρ H w, r, f, d, fun _ => rfl, fun k rd cs _ => ⟨k, rfl, Steps.refl _ _⟩⟩
  | ret a H => exact fun hN ρ w ts base bs hb hf r f d => ⟨ρ, ts, w, bs, Grow.refl N ρ H w, r, f, d, fun _ => rfl, fun k rd cs _ => ⟨k, Steps.refl _ _⟩⟩
  | rangeDone ht hev hc h2 =>
    intro hN ρ w ts base bs hb hf r f d
    obtain ⟨ρ', w', bs', g', r', f', d', st⟩ := range_sound hC none hev hc h2 (.inl ⟨rfl, rfl⟩) hN ρ w ts base bs hb hf r f d
    exact ⟨ρ', ts, w', bs', g', r', f', d', fun h => (by rw [ht] at h; cases h), fun k rd cs hrd => by rw [hrd ht]; exact st k cs⟩
  | rangeRet ht hev hc h2 =>
    intro hN ρ w ts base bs hb hf r f d
    obtain ⟨ρ', w', bs', g', r', f', d', st⟩ := range_sound hC (some .ret) hev hc h2 (.inr ⟨_, rfl, rfl⟩) hN ρ w ts base bs hb hf r f d
    exact ⟨ρ', ts, w', bs', g', r', f', d', fun h => (by rw [ht] at h; cases h), fun k rd cs hrd => by rw [hrd ht]; exact ⟨k, st k cs⟩⟩
  | rangeExit ht hev hc h2 =>
    rename_i id
    intro hN ρ w ts base bs hb hf r f d
    obtain ⟨ρ', w', bs', g', r', f', d', st⟩ := range_sound hC (some (.exit id)) hev hc h2 (.inr ⟨_, rfl, rfl⟩) hN ρ w ts base bs hb hf r f d
    exact ⟨ρ', ts, w', bs', g', r', f', d', fun h => (by rw [ht] at h; cases h), fun k rd cs hrd => by rw [hrd ht]; exact ⟨k, rfl, st k cs⟩⟩

end Go.Proofs.Ytcapjjmikapmfaa.M
