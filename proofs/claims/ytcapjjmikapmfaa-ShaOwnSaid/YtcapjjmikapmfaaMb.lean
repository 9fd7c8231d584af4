/- The relation between the abstract heap and a world of the model, and what a step may do to it. -/
import Derived.Test.YtcapjjmikapmfaaMa
set_option linter.unusedVariables false
set_option linter.unusedSimpArgs false
namespace Go.Proofs.Ytcapjjmikapmfaa.M
open Go

/-- Where an abstract block lies: a block, a place in it, and how many cells that block has. -/
abbrev Pl := Nat → Option (Nat × Nat × Nat)

inductive VR (ρ : Pl) : Value → Value → Prop
  | any (c : Value) : VR ρ (.chan (some 0)) c
  | bool (b : Bool) : VR ρ (.bool b) (.bool b)
  | int (k : IntKind) (n : Int) : VR ρ (.int k n) (.int k n)
  | string (s : ByteArray) : VR ρ (.string s) (.string s)
  | nilPtr : VR ρ (.pointer none) (.pointer none)
  | ptr {i o b s E : Nat} : ρ i = some (b, s, E) → VR ρ (.pointer (some ⟨i, o, none⟩)) (.pointer (some ⟨b, s + o, none⟩))
  | nilSlice : VR ρ (.slice none 0 0) (.slice none 0 0)
  | slice {i o z b s E n c c' : Nat} : ρ i = some (b, s, E) → n ≤ c → c ≤ c' → s + o + c' * z ≤ E → VR ρ (.slice (some ⟨i, o, some z⟩) n c) (.slice (some ⟨b, s + o, none⟩) n c')
  | slice0 (a a' : Addr) : VR ρ (.slice (some a) 0 0) (.slice (some a') 0 0)
  | nilMap : VR ρ (.map none) (.map none)
  | map {i b s E : Nat} : ρ i = some (b, s, E) → VR ρ (.map (some i)) (.map (some b))
  | nilFunc : VR ρ .nilFunc .nilFunc
  | func (f : FuncId) {c c' : Array Value} : c.size = c'.size → (∀ (j : Nat) (x y : Value), c[j]? = some x → c'[j]? = some y → VR ρ x y) → VR ρ (.func (.func f) #[] c) (.func (.func f) #[] c')
  | yield {l l' s E : Nat} : ρ l = some (l', s, E) → VR ρ (.func (.yield l) #[] #[]) (.func (.yield l') #[] #[])
  | nilIface : VR ρ .nilIface .nilIface
  | iface (t : TypeId) {x y : Value} : VR ρ x y → VR ρ (.iface t x) (.iface t y)
  | agg {c c' : Array Value} : c.size = c'.size → (∀ (j : Nat) (x y : Value), c[j]? = some x → c'[j]? = some y → VR ρ x y) → VR ρ (.agg c) (.agg c')
  | tuple {c c' : Array Value} : c.size = c'.size → (∀ (j : Nat) (x y : Value), c[j]? = some x → c'[j]? = some y → VR ρ x y) → VR ρ (.tuple c) (.tuple c')

def VL (ρ : Pl) (xs ys : List Value) : Prop := xs.length = ys.length ∧ ∀ (j : Nat) (x y : Value), xs[j]? = some x → ys[j]? = some y → VR ρ x y

theorem VR.mono {ρ ρ' : Pl} (h : ∀ i p, ρ i = some p → ρ' i = some p) {x y : Value} (hv : VR ρ x y) : VR ρ' x y := by
  induction hv with
  | any c => exact .any c
  | bool b => exact .bool b
  | int k n => exact .int k n
  | string s => exact .string s
  | nilPtr => exact .nilPtr
  | ptr e => exact .ptr (h _ _ e)
  | nilSlice => exact .nilSlice
  | slice e a b c => exact .slice (h _ _ e) a b c
  | slice0 a a' => exact .slice0 a a'
  | nilMap => exact .nilMap
  | map e => exact .map (h _ _ e)
  | nilFunc => exact .nilFunc
  | func f e _ ih => exact .func f e ih
  | yield e => exact .yield (h _ _ e)
  | nilIface => exact .nilIface
  | iface t _ ih => exact .iface t ih
  | agg e _ ih => exact .agg e ih
  | tuple e _ ih => exact .tuple e ih

theorem VL.mono {ρ ρ' : Pl} (h : ∀ i p, ρ i = some p → ρ' i = some p) {x y : List Value} (hv : VL ρ x y) : VL ρ' x y :=
  ⟨hv.1, fun j a b ha hb => (hv.2 j a b ha hb).mono h⟩

theorem VL.nil (ρ : Pl) : VL ρ [] [] := ⟨rfl, fun j x y h => by simp at h⟩
theorem VL.cons {ρ : Pl} {x y : Value} {xs ys : List Value} (h : VR ρ x y) (hs : VL ρ xs ys) : VL ρ (x :: xs) (y :: ys) := by
  refine ⟨by simp [hs.1], fun j a b ha hb => ?_⟩
  cases j with
  | zero => simp at ha hb; subst ha; subst hb; exact h
  | succ j => simp at ha hb; exact hs.2 j a b ha hb
theorem VL.append {ρ : Pl} {xs ys xs' ys' : List Value} (h : VL ρ xs ys) (h' : VL ρ xs' ys') : VL ρ (xs ++ xs') (ys ++ ys') := by
  refine ⟨by simp [h.1, h'.1], fun j a b ha hb => ?_⟩
  rw [List.getElem?_append] at ha hb
  rw [← h.1] at hb
  split at ha
  · rename_i hj; rw [if_pos hj] at hb; exact h.2 j a b ha hb
  · rename_i hj; rw [if_neg hj] at hb; exact h'.2 _ a b ha hb
theorem VL.drop {ρ : Pl} {xs ys : List Value} (h : VL ρ xs ys) (n : Nat) : VL ρ (xs.drop n) (ys.drop n) := by
  refine ⟨by simp [h.1], fun j a b ha hb => ?_⟩
  rw [List.getElem?_drop] at ha hb
  exact h.2 _ a b ha hb
theorem VL.take {ρ : Pl} {xs ys : List Value} (h : VL ρ xs ys) (n : Nat) : VL ρ (xs.take n) (ys.take n) := by
  refine ⟨by simp [h.1], fun j a b ha hb => ?_⟩
  rw [List.getElem?_take] at ha hb
  split at ha
  · rename_i hj; rw [if_pos hj] at hb; exact h.2 j a b ha hb
  · cases ha
theorem VL.get {ρ : Pl} {xs ys : List Value} (h : VL ρ xs ys) {j : Nat} {x : Value} (hx : xs[j]? = some x) : ∃ y, ys[j]? = some y ∧ VR ρ x y := by
  have hj : j < xs.length := by
    rcases Nat.lt_or_ge j xs.length with h' | h'
    · exact h'
    · rw [List.getElem?_eq_none h'] at hx; cases hx
  have hj' : j < ys.length := h.1 ▸ hj
  exact ⟨ys[j], List.getElem?_eq_getElem hj', h.2 j x _ hx (List.getElem?_eq_getElem hj')⟩

theorem VR.scal {ρ : Pl} {v : Value} (h : scal v = true) : VR ρ v v := by
  unfold M.scal at h
  split at h <;> first | exact .bool _ | exact .int _ _ | exact .string _ | exact .nilPtr | exact .nilSlice | exact .nilMap | exact .nilFunc | exact .nilIface | cases h

theorem VR.scal_eq {ρ : Pl} {v v' : Value} (h : M.scal v = true) (hv : VR ρ v v') : v' = v := by
  unfold M.scal at h
  split at h <;> first | (cases hv; rfl) | cases h

theorem VL.scal {ρ : Pl} {l : List Value} (h : l.all M.scal = true) : VL ρ l l := by
  refine ⟨rfl, fun j x y hx hy => ?_⟩
  rw [hx] at hy; cases hy
  exact VR.scal (List.all_eq_true.1 h x (List.mem_of_getElem? hx))

theorem VL.scal_eq {ρ : Pl} : ∀ {l l' : List Value}, l.all M.scal = true → VL ρ l l' → l' = l
  | [], [], _, _ => rfl
  | [], _ :: _, _, h => by have := h.1; simp at this
  | _ :: _, [], _, h => by have := h.1; simp at this
  | x :: l, y :: l', h, hv => by
    simp only [List.all_cons, Bool.and_eq_true] at h
    have h1 := VR.scal_eq h.1 (hv.2 0 x y rfl rfl)
    have h2 : l' = l := VL.scal_eq h.2 ⟨by have := hv.1; simpa using this, fun j a b ha hb => hv.2 (j + 1) a b (by simpa using ha) (by simpa using hb)⟩
    rw [h1, h2]

theorem VR.undef (ρ : Pl) : VR ρ undef undef := .tuple rfl (fun j x y h => by simp at h)

theorem VR.flat {ρ : Pl} {v : Value} (h : flat v = true) : VR ρ v v := by
  unfold M.flat at h
  split at h
  · rename_i vs
    exact .tuple rfl (fun j x y hx hy => by rw [hx] at hy; cases hy; exact VR.scal (List.all_eq_true.1 h x (by simpa using Array.mem_of_getElem? hx)))
  · exact VR.scal h

/-- Cells of related values. -/
theorem VR.cells {ρ : Pl} {v v' : Value} (hu : isU v = false) (h : VR ρ v v') : VL ρ v.cells.toList v'.cells.toList := by
  cases h with
  | any c => simp [isU] at hu
  | agg e hh => exact ⟨by simpa [Value.cells] using e, fun j x y hx hy => hh j x y (by simpa [Value.cells] using hx) (by simpa [Value.cells] using hy)⟩
  | bool b => exact VL.cons (.bool b) (VL.nil ρ)
  | int k n => exact VL.cons (.int k n) (VL.nil ρ)
  | string s => exact VL.cons (.string s) (VL.nil ρ)
  | nilPtr => exact VL.cons .nilPtr (VL.nil ρ)
  | ptr e => exact VL.cons (.ptr e) (VL.nil ρ)
  | nilSlice => exact VL.cons .nilSlice (VL.nil ρ)
  | slice e a b c => exact VL.cons (.slice e a b c) (VL.nil ρ)
  | slice0 a a' => exact VL.cons (.slice0 a a') (VL.nil ρ)
  | nilMap => exact VL.cons .nilMap (VL.nil ρ)
  | map e => exact VL.cons (.map e) (VL.nil ρ)
  | nilFunc => exact VL.cons .nilFunc (VL.nil ρ)
  | func f e hh => exact VL.cons (.func f e hh) (VL.nil ρ)
  | yield e => exact VL.cons (.yield e) (VL.nil ρ)
  | nilIface => exact VL.cons .nilIface (VL.nil ρ)
  | iface t hh => exact VL.cons (.iface t hh) (VL.nil ρ)
  | tuple e hh => exact VL.cons (.tuple e hh) (VL.nil ρ)

/-- Frames. -/
def FR (ρ : Pl) (n : Nat) (a : AAct) (ts : Array Value) : Prop := ts.size = n ∧ ∀ t, VR ρ (a t) (ts.getD t undef)

theorem FR.mono {ρ ρ' : Pl} (h : ∀ i p, ρ i = some p → ρ' i = some p) {n : Nat} {a : AAct} {ts : Array Value} (hf : FR ρ n a ts) : FR ρ' n a ts :=
  ⟨hf.1, fun t => (hf.2 t).mono h⟩

theorem getD_set (ts : Array Value) (d t : Nat) (v : Value) : (ts.setIfInBounds d v).getD t undef = if t = d ∧ d < ts.size then v else ts.getD t undef := by
  simp only [Array.getD_eq_getD_getElem?, Array.getElem?_setIfInBounds]
  by_cases h : d = t
  · subst h
    by_cases hd : d < ts.size
    · simp [hd]
    · simp [hd, Array.getElem?_eq_none (Nat.le_of_not_lt hd)]
  · have : ¬ (t = d ∧ d < ts.size) := fun e => h e.1.symm
    simp [h, this]

def setT (ts : Array Value) (d : Option Nat) (v : Value) : Array Value :=
  match d with
  | some d => ts.setIfInBounds d v
  | none => ts

theorem FR.put {ρ : Pl} {n : Nat} {a : AAct} {ts : Array Value} (hf : FR ρ n a ts) (d : Option Nat) {v v' : Value} (hv : VR ρ v v') : FR ρ n (put n a d v) (setT ts d v') := by
  cases d with
  | none => exact hf
  | some d =>
    refine ⟨by simp [setT, hf.1], fun t => ?_⟩
    have h0 := hf.2 t
    simp only [setT, getD_set, M.put, hf.1]
    by_cases hd : d < n
    · simp only [hd, if_true, and_true]
      by_cases ht : t = d
      · rw [if_pos ht, if_pos ht]; exact hv
      · rw [if_neg ht, if_neg ht]; exact h0
    · simp only [hd, if_false, and_false]; exact h0

/-- What the frame gives for an operand. -/
def evC (ts : Array Value) : Operand → Value
  | .tmp t => ts.getD t undef
  | .const v => v
  | .global g => .pointer (some ⟨g, 0, none⟩)
  | .func f => .func (.func f) #[] #[]

theorem FR.ev {ρ : Pl} {n : Nat} {a : AAct} {ts : Array Value} (hf : FR ρ n a ts) (x : Operand) : VR ρ (ev a x) (evC ts x) := by
  cases x with
  | tmp t => exact hf.2 t
  | const v =>
    simp only [M.ev, evC]
    split
    · rename_i h; exact VR.scal h
    · exact .any _
  | global g => exact .any _
  | func f => exact .func f rfl (fun j x y h => by simp at h)

/-! ### Blocks -/

/-- The record of a loop over a function, as the model has it. -/
def LoopR (ρ : Pl) (fn : FuncId) (n : Nat) (a : AAct) (params : List Nat) (assign body : Code) (st : LoopSt) (l : Loop) : Prop :=
  l.fn = fn ∧ FR ρ n a l.tmps ∧ l.params.toList = params ∧ l.assign = assign ∧ l.body = body ∧
  (match st with
    | .ready => l.state = .ready ∧ l.pending = none
    | .busy => l.state = .busy
    | .done j => l.state = .done ∧ l.pending = some j
    | .over => True)

def BR (ρ : Pl) (w : World) (b s E : Nat) : Blk → Prop
  | .cells vs ex tl => ∃ carr ty fz, w.heap[b]? = some (.cells carr ty fz) ∧ carr.size = E ∧ s + vs.length ≤ E ∧
      (∀ (k : Nat) (v : Value), vs[k]? = some v → ∃ v', carr[s + k]? = some v' ∧ VR ρ v v') ∧
      (ex = true → ∀ k, s ≤ k → k < s + vs.length → ¬ (fz.1 ≤ k ∧ k < fz.2)) ∧ (tl = true → fz.1 = fz.2)
  | .map es => ∃ ces clk, w.heap[b]? = some (.map ces clk) ∧ es.length = ces.size ∧ ∀ (j : Nat) (e : Value × Value) (c : MapEntry), es[j]? = some e → ces[j]? = some c →
      VR ρ e.1 c.key ∧ scal e.1 = true ∧ VR ρ e.2 c.val
  | .loop fn n a params assign body st => ∃ l, w.heap[b]? = some (.loop l) ∧ LoopR ρ fn n a params assign body st l
  | .dead => True

/-- Two abstract blocks in one block of the model. -/
def Sep (s : Nat) (x : Blk) (s' : Nat) (y : Blk) : Prop :=
  match x, y with
  | .cells vs ex tl, .cells vs' _ tl' =>
    (ex = true → ∀ k, s ≤ k → k < s + vs.length → s' ≤ k → k < s' + vs'.length → False) ∧ (tl = true → s' + vs'.length ≤ s + vs.length ∧ tl' = false)
  | .dead, _ | _, .dead => True
  | _, _ => False

structure Rel (ρ : Pl) (H : Heap) (w : World) : Prop where
  lt : ∀ i b s E, i < H.size → ρ i = some (b, s, E) → b < w.heap.size
  blk : ∀ i b s E x, ρ i = some (b, s, E) → H[i]? = some x → BR ρ w b s E x
  sep : ∀ i j b s s' E E' x y, i ≠ j → ρ i = some (b, s, E) → ρ j = some (b, s', E') → H[i]? = some x → H[j]? = some y → Sep s x s' y

structure Grow (N : Nat) (ρ ρ' : Pl) (H H' : Heap) (w w' : World) : Prop where
  hsize : H.size ≤ H'.size
  ext : ∀ i p, ρ i = some p → ρ' i = some p
  new : ∀ i p, ρ' i = some p → ρ i = none → H.size ≤ i ∧ i < H'.size
  fresh : ∀ i b s E, ρ' i = some (b, s, E) → ρ i = none → b < w.heap.size → ∃ i0 s0 E0, i0 < H.size ∧ N ≤ i0 ∧ ρ i0 = some (b, s0, E0)
  os : w'.os = w.os
  tape : w'.tape = w.tape
  output : w'.output = w.output
  size : w.heap.size ≤ w'.heap.size
  keep : ∀ b, b < w.heap.size → (∀ i s E, i < H.size → ρ i = some (b, s, E) → i < N) → w'.heap[b]? = w.heap[b]?

theorem Grow.refl (N : Nat) (ρ : Pl) (H : Heap) (w : World) : Grow N ρ ρ H H w w where
  hsize := Nat.le_refl _
  ext _ _ h := h
  new i p h h' := by rw [h] at h'; cases h'
  fresh i b s E h h' := by rw [h] at h'; cases h'
  os := rfl
  tape := rfl
  output := rfl
  size := Nat.le_refl _
  keep _ _ _ := rfl

/-- Nothing lies where new blocks come to lie. -/
def Free (ρ : Pl) (H H' : Heap) : Prop := ∀ i, H.size ≤ i → i < H'.size → ρ i = none

theorem Grow.trans {N : Nat} {ρ ρ1 ρ2 : Pl} {H H1 H2 : Heap} {w w1 w2 : World} (g : Grow N ρ ρ1 H H1 w w1) (k : Grow N ρ1 ρ2 H1 H2 w1 w2) (hf : Free ρ H H1) : Grow N ρ ρ2 H H2 w w2 where
  hsize := Nat.le_trans g.hsize k.hsize
  ext i p h := k.ext i p (g.ext i p h)
  new i p h h' := by
    cases e : ρ1 i with
    | none => have := k.new i p h e; have := g.hsize; omega
    | some q => have := g.new i q e h'; have := k.hsize; omega
  fresh i b s E h h' hb := by
    cases e : ρ1 i with
    | none =>
      obtain ⟨i0, s0, E0, h0, hn, hr⟩ := k.fresh i b s E h e (Nat.lt_of_lt_of_le hb g.size)
      cases e0 : ρ i0 with
      | some q =>
        have := g.ext _ _ e0
        rw [hr] at this; cases this
        by_cases hlt : i0 < H.size
        · exact ⟨i0, s0, E0, hlt, hn, e0⟩
        · rw [hf i0 (by omega) h0] at e0; cases e0
      | none => exact g.fresh i0 b s0 E0 hr e0 hb
    | some q =>
      have := k.ext _ _ e
      rw [h] at this; cases this
      exact g.fresh i b s E e h' hb
  os := k.os.trans g.os
  tape := k.tape.trans g.tape
  output := k.output.trans g.output
  size := Nat.le_trans g.size k.size
  keep b hb hh := by
    rw [k.keep b (Nat.lt_of_lt_of_le hb g.size) ?_, g.keep b hb hh]
    intro i s E hi hr
    cases e : ρ i with
    | some q =>
      have := g.ext _ _ e
      rw [hr] at this; cases this
      by_cases hlt : i < H.size
      · exact hh i s E hlt e
      · rw [hf i (by omega) hi] at e; cases e
    | none =>
      obtain ⟨i0, s0, E0, h0, hn, hr0⟩ := g.fresh i b s E hr e hb
      have := hh i0 s0 E0 h0 hr0
      omega

theorem Free.left {ρ : Pl} {H H1 H2 : Heap} (h : Free ρ H H2) (h2 : H1.size ≤ H2.size) : Free ρ H H1 := fun i a b => h i a (by omega)
theorem Free.right {N : Nat} {ρ ρ1 : Pl} {H H1 H2 : Heap} {w w1 : World} (h : Free ρ H H2) (g : Grow N ρ ρ1 H H1 w w1) : Free ρ1 H1 H2 := by
  intro i a b
  cases e : ρ1 i with
  | none => rfl
  | some p =>
    cases e0 : ρ i with
    | none => have := g.new i p e e0; omega
    | some q => rw [h i (by have := g.hsize; omega) b] at e0; cases e0

/-- Worlds that differ in what has been drawn alone. -/
theorem Rel.drawn {ρ : Pl} {H : Heap} {w : World} (r : Rel ρ H w) (m : Nat) : Rel ρ H { w with drawn := m } :=
  ⟨r.lt, fun i b s E x h h' => by
    have := r.blk i b s E x h h'
    cases x <;> exact this, r.sep⟩

theorem Grow.drawn {N : Nat} {ρ ρ' : Pl} {H H' : Heap} {w w' : World} (g : Grow N ρ ρ' H H' w w') (m : Nat) : Grow N ρ ρ' H H' w { w' with drawn := m } :=
  ⟨g.hsize, g.ext, g.new, g.fresh, g.os, g.tape, g.output, g.size, g.keep⟩
theorem Grow.drawn0 (N : Nat) (ρ : Pl) (H : Heap) (w : World) (m : Nat) : Grow N ρ ρ H H w { w with drawn := m } := (Grow.refl N ρ H w).drawn m

end Go.Proofs.Ytcapjjmikapmfaa.M
