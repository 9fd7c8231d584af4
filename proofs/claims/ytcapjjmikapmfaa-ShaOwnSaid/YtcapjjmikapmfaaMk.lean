/- A list of operations whose order is drawn: M's one run stands for all orders. -/
import Derived.Test.YtcapjjmikapmfaaMj
import Derived.Orders
set_option linter.unusedVariables false
set_option linter.unusedSimpArgs false
namespace Go.Proofs.Ytcapjjmikapmfaa.M
open Go

/-! ### What stands ahead of an operation -/

theorem before_foldl : ∀ (l : List Oper) (acc : Array Nat),
    let r := l.foldl (init := acc) fun acc o => acc.push (o.after.foldl (fun s e => if Region.binds .any e then s ||| 2 ^ e.on ||| acc.getD e.on 0 else s) 0)
    r.size = acc.size + l.length ∧ (∀ i, i < acc.size → r[i]? = acc[i]?) ∧
      ∀ (q : Nat) (o : Oper), l[q]? = some o → r[acc.size + q]? = some (o.after.foldl (fun s e => if Region.binds .any e then s ||| 2 ^ e.on ||| (if e.on < acc.size + q then r.getD e.on 0 else 0) else s) 0)
  | [], acc => by simp
  | o :: l, acc => by
    simp only [List.foldl_cons]
    have ih := before_foldl l (acc.push (o.after.foldl (fun s e => if Region.binds .any e then s ||| 2 ^ e.on ||| acc.getD e.on 0 else s) 0))
    simp only at ih
    obtain ⟨h1, h2, h3⟩ := ih
    have hold : ∀ i, i < acc.size → (l.foldl (init := acc.push (o.after.foldl (fun s e => if Region.binds .any e then s ||| 2 ^ e.on ||| acc.getD e.on 0 else s) 0)) fun acc o => acc.push (o.after.foldl (fun s e => if Region.binds .any e then s ||| 2 ^ e.on ||| acc.getD e.on 0 else s) 0))[i]? = acc[i]? := by
      intro i hi
      rw [h2 i (by simp; omega), Array.getElem?_push, if_neg (by omega)]
    refine ⟨by rw [h1]; simp; omega, hold, fun q o' hq => ?_⟩
    cases q with
    | zero =>
      simp at hq
      subst hq
      rw [Nat.add_zero, h2 acc.size (by simp), Array.getElem?_push, if_pos rfl]
      congr 1
      congr 1
      funext s e
      have key : ∀ (R : Array Nat), (∀ i, i < acc.size → R[i]? = acc[i]?) → acc.getD e.on 0 = if e.on < acc.size + 0 then R.getD e.on 0 else 0 := by
        intro R hR
        by_cases hlt : e.on < acc.size
        · rw [if_pos (by omega), Array.getD_eq_getD_getElem?, Array.getD_eq_getD_getElem?, hR _ hlt]
        · rw [if_neg (by omega), Array.getD_eq_getD_getElem?, Array.getElem?_eq_none (Nat.le_of_not_lt hlt)]
          rfl
      rw [key _ hold]
      rfl
    | succ q =>
      have := h3 q o' (by simpa using hq)
      simp only [Array.size_push] at this
      rw [show acc.size + (q + 1) = acc.size + 1 + q by omega]
      exact this

theorem before_at {ops : Array Oper} {i : Nat} {o : Oper} (h : ops[i]? = some o) :
    (Region.before ops)[i]? = some (o.after.foldl (fun s e => if Region.binds .any e then s ||| 2 ^ e.on ||| (if e.on < i then (Region.before ops).getD e.on 0 else 0) else s) 0) := by
  have := (before_foldl ops.toList #[]).2.2 i o (by simpa using h)
  simp only [Array.size_empty, Nat.zero_add] at this
  unfold Region.before
  rw [← Array.foldl_toList]
  exact this

theorem testBit_fold (es : List Edge) (g : Edge → Nat) (j : Nat) : ∀ s : Nat, (es.foldl (fun s e => if Region.binds .any e then s ||| 2 ^ e.on ||| g e else s) s).testBit j = true →
    s.testBit j = true ∨ ∃ e ∈ es, Region.binds .any e = true ∧ (e.on = j ∨ (g e).testBit j = true) := by
  induction es with
  | nil => intro s h; exact .inl h
  | cons e es ih =>
    intro s h
    simp only [List.foldl_cons] at h
    rcases ih _ h with h1 | ⟨e', he', h2⟩
    · split at h1
      · rename_i hb
        simp only [Nat.testBit_or, Nat.testBit_two_pow, Bool.or_eq_true, decide_eq_true_eq] at h1
        rcases h1 with (h1 | h1) | h1
        · exact .inl h1
        · exact .inr ⟨e, by simp, hb, .inl h1⟩
        · exact .inr ⟨e, by simp, hb, .inr h1⟩
      · exact .inl h1
    · exact .inr ⟨e', by simp [he'], h2⟩

/-- Edges lead back. -/
def Back (ops : Array Oper) : Prop := ∀ (i : Nat) (o : Oper), ops[i]? = some o → ∀ e ∈ o.after, Region.binds .any e = true → e.on < i

/-- A set of operations that holds, with each, what its edges name. -/
def Closed (ops : Array Oper) (D : Nat → Prop) : Prop := ∀ (i : Nat) (o : Oper), D i → ops[i]? = some o → ∀ e ∈ o.after, Region.binds .any e = true → D e.on

theorem closed_before {ops : Array Oper} (hb : Back ops) {D : Nat → Prop} (hD : Closed ops D) : ∀ (i : Nat) (o : Oper), ops[i]? = some o → (∀ e ∈ o.after, Region.binds .any e = true → D e.on) → ∀ j, ((Region.before ops).getD i 0).testBit j = true → D j := by
  intro i
  induction i using Nat.strongRecOn with
  | _ i ih =>
    intro o ho hdir j hj
    rw [Array.getD_eq_getD_getElem?, before_at ho, Option.getD_some, ← Array.foldl_toList] at hj
    rcases testBit_fold o.after.toList (fun e => if e.on < i then (Region.before ops).getD e.on 0 else 0) j 0 hj with h | ⟨e, he, hbind, h⟩
    · simp at h
    · have he' : e ∈ o.after := by simpa using he
      have hlt := hb i o ho e he' hbind
      have hDe := hdir e he' hbind
      rcases h with rfl | h
      · exact hDe
      · rw [if_pos hlt] at h
        cases hoe : ops[e.on]? with
        | none =>
          have : (Region.before ops).getD e.on 0 = 0 := by
            have hs : (Region.before ops).size = ops.size := by
              have := (before_foldl ops.toList #[]).1
              unfold Region.before
              rw [← Array.foldl_toList]
              simpa using this
            rw [Array.getD_eq_getD_getElem?, Array.getElem?_eq_none]
            · rfl
            · rw [hs]
              rcases Nat.lt_or_ge e.on ops.size with h' | h'
              · rw [Array.getElem?_eq_getElem h'] at hoe; cases hoe
              · exact h'
          rw [this] at h; simp at h
        | some oe => exact ih e.on hlt oe hoe (fun e2 h2 h3 => hD e.on oe hDe hoe e2 h2 h3) j h

/-! ### What an operation looks at -/

theorem ev_congr {a b : AAct} {x : Operand} (h : ∀ t, x = .tmp t → a t = b t) : ev a x = ev b x := by
  cases x with
  | tmp t => exact h t rfl
  | _ => rfl

/-- Two frames that agree where an operation looks. -/
def Agree (op : Op) (a b : AAct) : Prop := ∀ x ∈ op.operands, ev a x = ev b x

theorem map_agree {a b : AAct} {l : List Operand} (h : ∀ x ∈ l, ev a x = ev b x) : l.map (ev a) = l.map (ev b) := List.map_congr_left h

theorem pmap_agree {a b : AAct} {l : List (Nat × Operand)} (h : ∀ p ∈ l, ev a p.2 = ev b p.2) : (l.map fun p => (p.1, ev a p.2)) = l.map fun p => (p.1, ev b p.2) :=
  List.map_congr_left fun p hp => by rw [h p hp]

theorem omap_agree {a b : AAct} {x : Option Operand} (h : ∀ y, x = some y → ev a y = ev b y) : x.map (ev a) = x.map (ev b) := by
  cases x with
  | none => rfl
  | some y => simp [h y rfl]

theorem OpStep.agree {P : Program} {C : CallRel} {N : Nat} {a b : AAct} {H H' : Heap} {op : Op} {v : Value} (h : OpStep P C N a H op v H') (e : Agree op a b) : OpStep P C N b H op v H' := by
  unfold OpStep at h ⊢
  unfold Agree at e
  cases op with
  | move x => simp [Op.operands] at e; simpa [← e] using h
  | assign x => simp [Op.operands] at e; simpa [← e] using h
  | pick c x y => simp [Op.operands] at e; obtain ⟨e1, e2, e3⟩ := e; simpa [← e1, ← e2, ← e3] using h
  | alloc t => exact h
  | box t x => simp [Op.operands] at e; simpa [← e] using h
  | build t ps =>
    have := pmap_agree (a := a) (b := b) (l := ps.toList) (fun p hp => e p.2 (by simp [Op.operands]; exact ⟨p.1, by simpa using hp⟩))
    simp only at h ⊢
    rw [← this]; exact h
  | buildSlice t len ps =>
    have := pmap_agree (a := a) (b := b) (l := ps.toList) (fun p hp => e p.2 (by simp [Op.operands]; exact ⟨p.1, by simpa using hp⟩))
    simp only at h ⊢
    rw [← this]; exact h
  | load t x => simp [Op.operands] at e; simpa [← e] using h
  | store t x y => simp [Op.operands] at e; obtain ⟨e1, e2⟩ := e; simpa [← e1, ← e2] using h
  | nilCheck x => simp [Op.operands] at e; simpa [← e] using h
  | binOp bop t x y yt => simp [Op.operands] at e; obtain ⟨e1, e2⟩ := e; simpa [← e1, ← e2] using h
  | unOp uop t x => simp [Op.operands] at e; simpa [← e] using h
  | convert src dst x => simp [Op.operands] at e; simpa [← e] using h
  | makeInterface t x => simp [Op.operands] at e; simp only at h ⊢; rw [← e]; exact h
  | makeFunc fn first captured =>
    have : captured.map (ev a) = captured.map (ev b) := by
      apply Array.toList_inj.1
      simp only [Array.toList_map]
      exact map_agree (fun x hx => e x (by simp only [Op.operands, Array.mem_append]; right; simpa using hx))
    simp only at h ⊢
    rw [← this]; exact h
  | makeMap t r => exact h
  | makeSlice t l c => simp [Op.operands] at e; obtain ⟨e1, e2⟩ := e; simpa [← e1, ← e2] using h
  | slice t x lo hi mx =>
    have h1 : ev a x = ev b x := e x (by simp [Op.operands])
    have h2 := omap_agree (a := a) (b := b) (x := lo) (fun y hy => e y (by subst hy; simp [Op.operands]))
    have h3 := omap_agree (a := a) (b := b) (x := hi) (fun y hy => e y (by subst hy; simp [Op.operands]))
    have h4 := omap_agree (a := a) (b := b) (x := mx) (fun y hy => e y (by subst hy; simp [Op.operands]))
    simp only at h ⊢
    rw [← h1, ← h2, ← h3, ← h4]; exact h
  | fieldAddr t x f => simp [Op.operands] at e; simpa [← e] using h
  | field t x f => simp [Op.operands] at e; simpa [← e] using h
  | indexAddr t x i => simp [Op.operands] at e; obtain ⟨e1, e2⟩ := e; simpa [← e1, ← e2] using h
  | index t x i => simp [Op.operands] at e; obtain ⟨e1, e2⟩ := e; simpa [← e1, ← e2] using h
  | lookup t m k ok => simp [Op.operands] at e; obtain ⟨e1, e2⟩ := e; simpa [← e1, ← e2] using h
  | mapUpdate t m k x => simp [Op.operands] at e; obtain ⟨e1, e2, e3⟩ := e; simpa [← e1, ← e2, ← e3] using h
  | extract x i => simp [Op.operands] at e; simpa [← e] using h
  | call c =>
    have hargs : ∀ x ∈ c.args, ev a x = ev b x := fun x hx => e x (by simp only [Op.operands, Call.operands, Array.mem_append]; right; exact hx)
    simp only at h ⊢
    split at h
    · rename_i x hcal
      obtain ⟨fn, cap, hx, hc⟩ := h
      have h1 : ev a x = ev b x := e x (by simp [Op.operands, Call.operands, hcal])
      have h2 : c.args.toList.map (ev a) = c.args.toList.map (ev b) := map_agree (fun x hx => hargs x (by simpa using hx))
      exact ⟨fn, cap, by rw [← h1]; exact hx, by rw [← h2]; exact hc⟩
    · rename_i hcal
      obtain ⟨t, x, m, ht, hx, e', rfl, hh⟩ := h
      have h1 := hargs x (Array.mem_of_getElem? hx)
      exact ⟨t, x, m, ht, hx, e', rfl, by rw [← h1]; exact hh⟩
    · rename_i hcal
      rcases h with ⟨t, t', s, x, hts, hni, has, hA⟩ | ⟨t, t', k, s, x, hts, hti, has, hA⟩
      · have h1 := hargs s (by simp [has]); have h2 := hargs x (by simp [has])
        exact .inl ⟨t, t', s, x, hts, hni, has, by rw [← h1, ← h2]; exact hA⟩
      · have h1 := hargs s (by simp [has]); have h2 := hargs x (by simp [has])
        exact .inr ⟨t, t', k, s, x, hts, hti, has, by rw [← h1, ← h2]; exact hA⟩
    · rename_i hcal
      obtain ⟨t, t', d, x, hts, has, hA⟩ := h
      have h1 := hargs d (by simp [has]); have h2 := hargs x (by simp [has])
      exact ⟨t, t', d, x, hts, has, by rw [← h1, ← h2]; exact hA⟩
    · rename_i hcal
      obtain ⟨x, y, k, m, n', has, hx, hy, rfl, e'⟩ := h
      have h1 := hargs x (by simp [has]); have h2 := hargs y (by simp [has])
      exact ⟨x, y, k, m, n', has, by rw [← h1]; exact hx, by rw [← h2]; exact hy, rfl, e'⟩
    · rename_i hcal
      obtain ⟨x, y, k, m, n', has, hx, hy, rfl, e'⟩ := h
      have h1 := hargs x (by simp [has]); have h2 := hargs y (by simp [has])
      exact ⟨x, y, k, m, n', has, by rw [← h1]; exact hx, by rw [← h2]; exact hy, rfl, e'⟩
    · rename_i hcal
      obtain ⟨t, t', m, k, kt, e', i, es, q, hts, has, hu, hm, hNi, hi, hk, hq, rfl, rfl⟩ := h
      have h1 := hargs m (by simp [has]); have h2 := hargs k (by simp [has])
      exact ⟨t, t', m, k, kt, e', i, es, q, hts, has, hu, by rw [← h1]; exact hm, hNi, hi, by rw [← h2]; exact hk, by rw [← h2]; exact hq, rfl, rfl⟩
    · rename_i hcal
      obtain ⟨t, x, el, hts, has, hu, hx, rfl, e'⟩ := h
      have h1 := hargs x (by simp [has])
      exact ⟨t, x, el, hts, has, hu, by rw [← h1]; exact hx, rfl, e'⟩
    · exact h.elim
  | _ => exact h.elim

/-- Operations that look at no memory do the same at every heap. -/
theorem OpStep.pure {P : Program} {C : CallRel} {N : Nat} {a : AAct} {H H' : Heap} {op : Op} {v : Value} (h : OpStep P C N a H op v H') (hp : pureOp op = true) : H' = H ∧ ∀ N2 H2, OpStep P C N2 a H2 op v H2 := by
  cases op <;> simp only [pureOp, Bool.false_eq_true] at hp <;> unfold OpStep at h <;> simp only at h <;> first
    | exact ⟨h.2, fun N2 H2 => ⟨h.1, rfl⟩⟩
    | exact ⟨h.2.2, fun N2 H2 => ⟨h.1, h.2.1, rfl⟩⟩
    | exact ⟨h.2.2.2, fun N2 H2 => ⟨h.1, h.2.1, h.2.2.1, rfl⟩⟩
    | skip
  split at h <;> rename_i hcal <;> simp only [hcal, Bool.false_eq_true] at hp
  · obtain ⟨x, y, k, m, n', has, hx, hy, rfl, e'⟩ := h
    refine ⟨e', fun N2 H2 => ?_⟩
    unfold OpStep
    simp only [hcal]
    exact ⟨x, y, k, m, n', has, hx, hy, rfl, trivial⟩
  · obtain ⟨x, y, k, m, n', has, hx, hy, rfl, e'⟩ := h
    refine ⟨e', fun N2 H2 => ?_⟩
    unfold OpStep
    simp only [hcal]
    exact ⟨x, y, k, m, n', has, hx, hy, rfl, trivial⟩

end Go.Proofs.Ytcapjjmikapmfaa.M
