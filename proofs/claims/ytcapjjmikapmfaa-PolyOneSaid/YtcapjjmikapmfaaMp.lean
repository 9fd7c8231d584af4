/- How M is walked: what must hold ahead of a code for what is to hold behind it. -/
import Derived.Test.YtcapjjmikapmfaaMo
set_option linter.unusedVariables false
set_option linter.unusedSimpArgs false
namespace Go.Proofs.Ytcapjjmikapmfaa.M
open Go

/-! ### A weaker bound -/

theorem ConvA.weaken {P : Program} {N M : Nat} (hM : M ≤ N) {H H' : Heap} {s t : TypeId} {x v : Value} (h : ConvA P N H s t x v H') : ConvA P M H s t x v H' := by
  cases h with
  | int k k' n a1 a2 a3 => exact .int k k' n a1 a2 a3
  | same s a1 a2 a3 => exact .same s a1 a2 a3
  | str e vs ex tl i o n c l a1 a2 a3 a4 a5 a6 a7 => exact .str e vs ex tl i o n c l a1 a2 a3 a4 a5 a6 a7
  | strNil e a1 a2 a3 a4 => exact .strNil e a1 a2 a3 a4
  | bytes e s a1 a2 a3 a4 => exact .bytes e s a1 a2 a3 a4
  | row e vs ex i o n c a1 a2 a3 a4 a5 a6 a7 => exact .row e vs ex i o n c a1 a2 a3 a4 a5 (by omega) a7

theorem OpStep.weaken {P : Program} {C D : CallRel} {N M : Nat} (hM : M ≤ N) (hD : ∀ f args H v H', D N f args H v H' → C M f args H v H') {a : AAct} {H H' : Heap} {op : Op} {v : Value} (h : OpStep P D N a H op v H') : OpStep P C M a H op v H' := by
  unfold OpStep at h ⊢
  split at h <;> try exact h
  · obtain ⟨i, o', vs, tl, m, new, hx, hNi, h⟩ := h
    exact ⟨i, o', vs, tl, m, new, hx, by omega, h⟩
  · exact ConvA.weaken hM h
  · obtain ⟨kt, e, i, es, q, hu, hm, hNi, h⟩ := h
    exact ⟨kt, e, i, es, q, hu, hm, by omega, h⟩
  split at h <;> try exact h
  · obtain ⟨fn, cap, h1, h2⟩ := h
    exact ⟨fn, cap, h1, hD _ _ _ _ _ h2⟩
  · rcases h with ⟨t, t', s, x, h1, h2, h3, hA⟩ | h
    · refine .inl ⟨t, t', s, x, h1, h2, h3, ?_⟩
      cases hA with
      | nothing e z b n c a1 a2 a3 a4 => exact .nothing e z b n c a1 a2 a3 a4
      | new e z bt zs xs n a1 a2 a3 a4 a5 a6 a7 a8 a9 a10 a11 a12 => exact .new e z bt zs xs n a1 a2 a3 a4 a5 a6 a7 a8 a9 a10 a11 a12
      | share e z bt zs xs vs i o len c n ex a1 a2 a3 a4 a5 a6 a7 a8 a9 a10 a11 a12 a13 a14 a15 a16 a17 => exact .share e z bt zs xs vs i o len c n ex a1 a2 a3 a4 a5 a6 a7 a8 a9 a10 a11 a12 a13 a14 (by omega) a16 a17
      | move e z bt zs xs vs i o len c n a1 a2 a3 a4 a5 a6 a7 a8 a9 a10 a11 a12 a13 a14 a15 a16 a17 => exact .move e z bt zs xs vs i o len c n a1 a2 a3 a4 a5 a6 a7 a8 a9 a10 a11 a12 a13 a14 (by omega) a16 a17
      | fits e z xs vs i o len c n tl a1 a2 a3 a4 a5 a6 a7 a8 a9 a10 a11 a12 => exact .fits e z xs vs i o len c n tl a1 a2 a3 a4 a5 a6 a7 a8 a9 (by omega) a11 a12
    · obtain ⟨t, t', k, s, x, h1, h2, h3, hA⟩ := h
      refine .inr ⟨t, t', k, s, x, h1, h2, h3, ?_⟩
      cases hA with
      | mk e z bt k zs kd a1 a2 a3 a4 a5 a6 a7 a8 a9 a10 => exact .mk e z bt k zs kd a1 a2 a3 a4 a5 a6 a7 a8 a9 a10
      | nothing e z b n c kd a1 a2 a3 a4 => exact .nothing e z b n c kd a1 a2 a3 a4
      | share e z bt zs vs i o len c n ex kd a1 a2 a3 a4 a5 a6 a7 a8 a9 a10 a11 a12 a13 a14 a15 => exact .share e z bt zs vs i o len c n ex kd a1 a2 a3 a4 a5 a6 a7 a8 a9 a10 a11 a12 (by omega) a14 a15
  · obtain ⟨t, t', d, x, h1, h2, hA⟩ := h
    refine ⟨t, t', d, x, h1, h2, ?_⟩
    cases hA with
    | nothing e z b n c m a1 a2 a3 a4 a5 => exact .nothing e z b n c m a1 a2 a3 a4 a5
    | some e z xs vs i o len c m tl a1 a2 a3 a4 a5 a6 a7 a8 a9 a10 => exact .some e z xs vs i o len c m tl a1 a2 a3 a4 a5 a6 a7 (by omega) a9 a10
  · obtain ⟨t, t', m, k, kt, e, i, es, q, h1, h2, h3, h4, hNi, h⟩ := h
    exact ⟨t, t', m, k, kt, e, i, es, q, h1, h2, h3, h4, by omega, h⟩

theorem OpsRun.weaken {P : Program} {C D : CallRel} {N M n : Nat} (hM : M ≤ N) (hD : ∀ f args H v H', D N f args H v H' → C M f args H v H') {ops : Array Oper} {l : List Nat} {a a' : AAct} {H H' : Heap} (h : OpsRun P D N n ops l a H a' H') : OpsRun P C M n ops l a H a' H' := by
  induction h with
  | nil => exact .nil _ _
  | op h1 h2 h3 _ ih => exact .op h1 h2 (h3.weaken hM hD) ih
  | skip h1 h2 _ ih => exact .skip h1 h2 ih

theorem At.weaken {P : Program} {C D : CallRel} {N M : Nat} (hM : M ≤ N) (hD : ∀ f args H v H', D N f args H v H' → C M f args H v H') {n : Nat} {ops : Array Oper} {A : Nat → AAct} {HH : Nat → Heap} {V : Nat → Value} {i : Nat} (h : At P D n ops N A HH V i) : At P C n ops M A HH V i := by
  obtain ⟨o, e1, e2, e3⟩ := h
  exact ⟨o, e1, e2, e3.imp (fun h => ⟨h.1, h.2.weaken hM hD⟩) id⟩

theorem Run.weaken {P : Program} {C D : CallRel} {N M n : Nat} {fn : FuncId} {top : Bool} (hM : M ≤ N) (hD : ∀ f args H v H', D N f args H v H' → C M f args H v H') (hs : Sub D C) {code : Code} {a a' : AAct} {H H' : Heap} {e : AExit} (h : Run P D N fn n top code a H e a' H') : Run P C M fn n top code a H e a' H' := by
  induction h with
  | skip => exact .skip _ _
  | region h => exact .region (h.weaken hM hD)
  | quiet h1 h2 h3 h4 h5 => exact .quiet h1 h2 h3 (h4.mono hs) (h5.weaken hM hD)
  | late h1 h2 h3 h4 h5 h6 h7 h8 => exact .late h1 h2 h3 (Nat.le_trans hM h4) h5 h6 (h7.mono hs) (h8.mono hs)
  | calm A HH V h1 h2 h3 h4 h5 h6 =>
    exact .calm A HH V h1 h2 h3 (fun i hi => (h4 i hi).mono hs) (fun i a b => (h5 i a b).weaken hM hD) (fun j o a b c => ⟨(h6 j o a b c).1, fun q q1 q2 q3 => ((h6 j o a b c).2 q q1 q2 q3).mono hs⟩)
  | draw h => exact .draw fun t => (h t).weaken hM hD
  | seq _ _ i1 i2 => exact .seq i1 i2
  | seqx _ h2 i1 => exact .seqx i1 h2
  | cond h1 _ i => exact .cond h1 i
  | block _ i => exact .block i
  | loop _ _ i1 i2 => exact .loop i1 i2
  | loopx _ h2 i1 => exact .loopx i1 h2
  | exit => exact .exit _ _ _
  | ret => exact .ret _ _
  | rangeDone h1 h2 h3 h4 => exact .rangeDone h1 h2 (hD _ _ _ _ _ h3) h4
  | rangeRet h1 h2 h3 h4 => exact .rangeRet h1 h2 (hD _ _ _ _ _ h3) h4
  | rangeExit h1 h2 h3 h4 => exact .rangeExit h1 h2 (hD _ _ _ _ _ h3) h4

theorem Call.weaken {P : Program} {N M : Nat} (hM : M ≤ N) {fn : Fn} {args : List Value} {H H' : Heap} {v : Value} (h : Call P N fn args H v H') : Call P M fn args H v H' := by
  let D : CallRel := fun N fn args H v H' => ∀ M, M ≤ N → Call P M fn args H v H'
  have hs : Sub D (Call P) := fun N fn args H v H' h => h N (Nat.le_refl _)
  refine h D (fun N fn args H v H' hF M hM => Call.fold ?_) M hM
  have hD : ∀ f args H v H', D N f args H v H' → Call P M f args H v H' := fun f args H v H' h => h M hM
  unfold CallF at hF ⊢
  split at hF
  · rcases hF with ⟨func, code, e, a', h1, h2, h3, h4, h5, h6⟩ | h
    · exact .inl ⟨func, code, e, a', h1, h2, h3, h4, h5.weaken hM hD hs, h6⟩
    · exact .inr h
  · obtain ⟨fn, n, a, ps, as, bd, e, a1, a2, H1, H3, h1, h2, h3, h4, h5, h6, h7⟩ := hF
    exact ⟨fn, n, a, ps, as, bd, e, a1, a2, H1, H3, by omega, h2, h3, h4.weaken hM hD hs, h5, h6.weaken hM hD hs, h7⟩
  · exact hF

/-! ### What must hold ahead -/

abbrev Post := AExit → AAct → Heap → Prop

section
variable (P : Program)

def callK (N : Nat) (fn : Fn) (args : List Value) (H : Heap) (K : Value → Heap → Prop) : Prop := ∃ v H', Call P N fn args H v H' ∧ K v H'

def optK (v : Option Value) (H : Heap) (K : Value → Heap → Prop) : Prop :=
  match v with
  | some v => K v H
  | none => False

def pickK (c : Value) (x y : Value) (H : Heap) (K : Value → Heap → Prop) : Prop :=
  match c with
  | .bool b => K (if b then x else y) H
  | _ => False

def loadK (t : TypeId) (x : Value) (H : Heap) (K : Value → Heap → Prop) : Prop :=
  match x with
  | .pointer (some ⟨i, o, none⟩) =>
    match H[i]?, kindOf P t with
    | some (.cells vs _ _), some k => optK (ldv vs k o) H K
    | _, _ => False
  | _ => False

def storeK (N : Nat) (t : TypeId) (x y : Value) (H : Heap) (K : Value → Heap → Prop) : Prop :=
  match x with
  | .pointer (some ⟨i, o, none⟩) =>
    match H[i]?, szOf P t with
    | some (.cells vs true tl), some n =>
      match stc n y with
      | some new => N ≤ i ∧ o + new.length ≤ vs.length ∧ K undef (H.setIfInBounds i (.cells (wr vs o new) true tl))
      | none => False
    | _, _ => False
  | _ => False

def allocK (t : TypeId) (H : Heap) (K : Value → Heap → Prop) : Prop :=
  match zc P t with
  | some z => K (.pointer (some ⟨H.size, 0, none⟩)) (H.push (.cells z true false))
  | none => False

def boxK (v : Value) (H : Heap) (K : Value → Heap → Prop) : Prop := isU v = false ∧ K (.pointer (some ⟨H.size, 0, none⟩)) (H.push (.cells v.cells.toList true false))

def buildSliceK (t : TypeId) (len : Nat) (parts : List (Nat × Value)) (H : Heap) (K : Value → Heap → Prop) : Prop :=
  match buildSliceA P t len parts with
  | some (cs, z) => K (.slice (some ⟨H.size, 0, some z⟩) len len) (H.push (.cells cs true true))
  | none => False

def nilCheckK (x : Value) (H : Heap) (K : Value → Heap → Prop) : Prop :=
  match x with
  | .pointer (some ad) => K x H
  | _ => False

def extractK (x : Value) (i : Nat) (H : Heap) (K : Value → Heap → Prop) : Prop :=
  match x with
  | .tuple vs => optK vs[i]? H K
  | _ => False

def lenK (t : TypeId) (x : Value) (H : Heap) (K : Value → Heap → Prop) : Prop :=
  match P.underlying t with
  | some .string => ∃ s, x = .string s ∧ K (.int .i64 (s.size : Nat)) H
  | some (.slice _) => match x with | .slice _ n _ => K (.int .i64 (n : Nat)) H | _ => False
  | some (.array m _) => K (.int .i64 (m : Nat)) H
  | some (.map _ _) => match entriesA H x with | some es => K (.int .i64 (es.length : Nat)) H | none => False
  | _ => False

def minK (x y : Value) (H : Heap) (K : Value → Heap → Prop) : Prop :=
  match x, y with
  | .int k m, .int k' n => k = k' ∧ K (.int k (if n < m then n else m)) H
  | _, _ => False
def maxK (x y : Value) (H : Heap) (K : Value → Heap → Prop) : Prop :=
  match x, y with
  | .int k m, .int k' n => k = k' ∧ K (.int k (if n > m then n else m)) H
  | _, _ => False

def appendK (N : Nat) (t t' : TypeId) (s x : Value) (H : Heap) (K : Value → Heap → Prop) : Prop := nonInt P t' ∧ ∃ v H', AppendA P N H t s x v H' ∧ K v H'
def appendZK (N : Nat) (t : TypeId) (s x : Value) (H : Heap) (K : Value → Heap → Prop) : Prop := ∃ v H', AppendZ P N H t s x v H' ∧ K v H'
def copyK (N : Nat) (t : TypeId) (d x : Value) (H : Heap) (K : Value → Heap → Prop) : Prop := ∃ v H', CopyA P N H t d x v H' ∧ K v H'
/-- Whole numbers are turned at once. -/
def convTo (dst src : Option TypeDesc) (x : Value) (H : Heap) (K : Value → Heap → Prop) (rest : Prop) : Prop :=
  match x, dst, src with
  | .int _ n, some (.int k), some _ => K (.int k (k.wrap n)) H
  | _, _, _ => rest
/-- A conversion, as 'ConvA' has it. -/
def restK (N : Nat) (src dst : TypeId) (x : Value) (H : Heap) (K : Value → Heap → Prop) : Prop := ∃ v H', ConvA P N H src dst x v H' ∧ K v H'
def convK (N : Nat) (src dst : TypeId) (x : Value) (H : Heap) (K : Value → Heap → Prop) : Prop := convTo (P.underlying dst) (P.underlying src) x H K (restK P N src dst x H K)
/-- The operations that are used seldom: as 'OpStep' has them. -/
def otherK (N : Nat) (a : AAct) (op : Op) (H : Heap) (K : Value → Heap → Prop) : Prop := ∃ v H', OpStep P (Call P) N a H op v H' ∧ K v H'

def wcall (N : Nat) (c : Go.Call) (a : AAct) (H : Heap) (K : Value → Heap → Prop) : Prop :=
  match c.callee with
  | .value f =>
    match ev a f with
    | .func fn ⟨[]⟩ cap => callK P N fn (c.args.toList.map (ev a) ++ cap.toList) H K
    | _ => False
  | .builtin .len =>
    match c.argTypes.toList, c.args.toList with
    | [t], [x] => lenK P t (ev a x) H K
    | _, _ => False
  | .builtin .append =>
    match c.argTypes.toList, c.args.toList with
    | [t, t'], [s, x] => match P.underlying t' with
      | some (.int _) => appendZK P N t (ev a s) (ev a x) H K
      | _ => appendK P N t t' (ev a s) (ev a x) H K
    | _, _ => False
  | .builtin .copy =>
    match c.argTypes.toList, c.args.toList with
    | [t, t'], [d, x] => copyK P N t (ev a d) (ev a x) H K
    | _, _ => False
  | .builtin .min =>
    match c.args.toList with
    | [x, y] => minK (ev a x) (ev a y) H K
    | _ => False
  | .builtin .max =>
    match c.args.toList with
    | [x, y] => maxK (ev a x) (ev a y) H K
    | _ => False
  | _ => otherK P N a (.call c) H K

def wop (N : Nat) (op : Op) (a : AAct) (H : Heap) (K : Value → Heap → Prop) : Prop :=
  match op with
  | .move x | .assign x => K (ev a x) H
  | .pick c x y => pickK (ev a c) (ev a x) (ev a y) H K
  | .alloc t => allocK P t H K
  | .box _ x => boxK (ev a x) H K
  | .build t ps => optK (buildA P t (ps.toList.map fun p => (p.1, ev a p.2))) H K
  | .buildSlice t len ps => buildSliceK P t len (ps.toList.map fun p => (p.1, ev a p.2)) H K
  | .load t x => loadK P t (ev a x) H K
  | .store t x y => storeK P N t (ev a x) (ev a y) H K
  | .nilCheck x => nilCheckK (ev a x) H K
  | .binOp op t x y _ => optK (binA P op t (ev a x) (ev a y)) H K
  | .unOp op _ x => optK (unA op (ev a x)) H K
  | .convert src dst x => convK P N src dst (ev a x) H K
  | .slice t x lo hi mx => optK (sliceA P t (ev a x) (lo.map (ev a)) (hi.map (ev a)) (mx.map (ev a))) H K
  | .fieldAddr t x f => optK (fieldAddrA P t (ev a x) f) H K
  | .field t x f => optK (fieldA P t (ev a x) f) H K
  | .indexAddr t x i => optK (indexAddrA P t (ev a x) (ev a i)) H K
  | .index t x i => optK (indexA P t (ev a x) (ev a i)) H K
  | .extract x i => extractK (ev a x) i H K
  | .call c => wcall P N c a H K
  | op => otherK P N a op H K

/-- A list of operations. 'N = none': each leaves all that is there as it is. -/
def wl (N : Option Nat) (n : Nat) (ops : Array Oper) : List Oper → (AAct → Heap → Prop) → AAct → Heap → Prop
  | [], Q, a, H => Q a H
  | o :: rest, Q, a, H =>
    match wantedA ops o a with
    | some true => wop P (N.getD H.size) o.op a H (fun v H' => wl N n ops rest Q (put n a o.dst v) H')
    | some false => wl N n ops rest Q (put n a o.dst undef) H
    | none => False

/-- What comes behind an operation. -/
def nextK (N : Option Nat) (n : Nat) (ops : Array Oper) (rest : List Oper) (d : Option Nat) (a : AAct) (Q : AAct → Heap → Prop) (v : Value) (H : Heap) : Prop := wl P N n ops rest Q (put n a d v) H
end

def seqK (K : AAct → Heap → Prop) (Q : Post) : Post := fun e a H =>
  match e with
  | .normal => K a H
  | e => Q e a H

def blockK (id : Nat) (Q : Post) : Post := fun e a H => Q (if e = .exit id then .normal else e) a H

/-- A run in the text's order that is whatever the order drawn. -/
def traceK (P : Program) (N n : Nat) (ops : Array Oper) (Q : AAct → Heap → Prop) (a : AAct) (H : Heap) : Prop :=
  ∃ (k : Nat) (st : List Nat) (A : Nat → AAct) (HH : Nat → Heap) (V : Nat → Value), (Region.departs ops = false ∨ P.follows .mixedOrders = true) ∧ drawOkC ops k st = true ∧ k ≤ ops.size ∧ A 0 = a ∧ HH 0 = H ∧
    (∀ i, i < k → At P (Call P) n ops (HH i).size A HH V i) ∧ (∀ i, k ≤ i → i < ops.size → At P (Call P) n ops N A HH V i) ∧ (∀ j o, ops[j]? = some o → st.contains j = true → Calm P (Call P) ops k st A HH V j o) ∧ Q (A ops.size) (HH ops.size)

def drawK (P : Program) (N n : Nat) (ops : Array Oper) (Q : AAct → Heap → Prop) (a : AAct) (H : Heap) : Prop :=
  (∃ k, (k ≤ ops.size ∧ (Region.departs ops = false ∨ P.follows .mixedOrders = true) ∧ drawOk ops k = true) ∧ wl P none n ops (ops.toList.take k) (wl P (some N) n ops (ops.toList.drop k) Q) a H) ∨
  (∃ k st N2, (k ≤ ops.size ∧ (Region.departs ops = false ∨ P.follows .mixedOrders = true) ∧ drawOkS ops k st = true ∧ N ≤ N2 ∧ N2 ≤ H.size ∧ (∀ j ∈ st, ∀ t r, (ops.getD j default).op = .load t (.tmp r) → ∃ b o, a r = .pointer (some ⟨b, o, none⟩) ∧ b < N2)) ∧
    wl P none n ops (ops.toList.take k) (wl P (some N2) n ops (ops.toList.drop k) Q) a H) ∨
  traceK P N n ops Q a H

def condK (c : Value) (X Y : AAct → Heap → Prop) (a : AAct) (H : Heap) : Prop :=
  match c with
  | .bool b => (b = true → X a H) ∧ (b = false → Y a H)
  | _ => False

def wp (P : Program) (N : Nat) (fn : FuncId) (n : Nat) (top : Bool) : Code → Post → AAct → Heap → Prop
  | .skip, Q => Q .normal
  | .region _ ops false, Q => wl P (some N) n ops ops.toList (Q .normal)
  | .region _ ops true, Q => drawK P N n ops (Q .normal)
  | .seq x y, Q => wp P N fn n top x (seqK (wp P N fn n top y Q) Q)
  | .cond c x y, Q => fun a H => condK (ev a c) (wp P N fn n top x Q) (wp P N fn n top y Q) a H
  | .block id c, Q => wp P N fn n top c (blockK id Q)
  | .exit id, Q => Q (.exit id)
  | .ret, Q => Q .ret
  | c, Q => fun a H => ∃ e a' H', Run P (Call P) N fn n top c a H e a' H' ∧ Q e a' H'

/-! ### It is sound -/

theorem optK_sound {v : Option Value} {H : Heap} {K : Value → Heap → Prop} (h : optK v H K) : ∃ x, v = some x ∧ K x H := by
  cases v with
  | none => exact h.elim
  | some x => exact ⟨x, rfl, h⟩

theorem arr1 {α : Type} {xs : Array α} {x : α} (h : xs.toList = [x]) : xs = #[x] := by apply Array.toList_inj.1; simpa using h
theorem arr2 {α : Type} {xs : Array α} {x y : α} (h : xs.toList = [x, y]) : xs = #[x, y] := by apply Array.toList_inj.1; simpa using h

theorem wcall_sound {P : Program} {N : Nat} {c : Go.Call} {a : AAct} {H : Heap} {K : Value → Heap → Prop} (h : wcall P N c a H K) : ∃ v H', OpStep P (Call P) N a H (.call c) v H' ∧ K v H' := by
  obtain ⟨callee, args, argTypes⟩ := c
  unfold wcall at h
  dsimp only at h
  split at h <;> simp only [OpStep]
  · rename_i f hf
    split at h
    · rename_i fn cap hx
      obtain ⟨v, H', h1, h2⟩ := h
      exact ⟨v, H', ⟨fn, cap, hx, h1⟩, h2⟩
    · exact h.elim
  · split at h
    · rename_i t x ht hx
      have hx' := arr1 hx
      have ht' := arr1 ht
      unfold lenK at h
      split at h
      · rename_i hu
        obtain ⟨s, hs, hk⟩ := h
        exact ⟨_, H, ⟨t, x, s.size, by simp [ht'], by simp [hx'], rfl, rfl, by rw [hu]; exact ⟨s, hs, rfl⟩⟩, hk⟩
      · rename_i hu
        split at h
        · rename_i b m k hs
          exact ⟨_, H, ⟨t, x, m, by simp [ht'], by simp [hx'], rfl, rfl, by rw [hu]; exact ⟨b, k, hs⟩⟩, h⟩
        · exact h.elim
      · rename_i hu
        exact ⟨_, H, ⟨t, x, _, by simp [ht'], by simp [hx'], rfl, rfl, by rw [hu]⟩, h⟩
      · rename_i hu
        split at h
        · rename_i es hes
          exact ⟨_, H, ⟨t, x, es.length, by simp [ht'], by simp [hx'], rfl, rfl, by rw [hu]; exact ⟨es, hes, rfl⟩⟩, h⟩
        · exact h.elim
      · exact h.elim
    · exact h.elim
  · split at h
    · rename_i t t' s x ht hx
      have hx' := arr2 hx
      have ht' := arr2 ht
      split at h
      · rename_i k hu
        obtain ⟨v, H', h1, h2⟩ := h
        exact ⟨v, H', .inr ⟨t, t', k, s, x, ht', hu, hx', h1⟩, h2⟩
      · obtain ⟨hn, v, H', h1, h2⟩ := h
        exact ⟨v, H', .inl ⟨t, t', s, x, ht', hn, hx', h1⟩, h2⟩
    · exact h.elim
  · split at h
    · rename_i t t' s x ht hx
      obtain ⟨v, H', h1, h2⟩ := h
      exact ⟨v, H', ⟨t, t', s, x, arr2 ht, arr2 hx, h1⟩, h2⟩
    · exact h.elim
  · split at h
    · rename_i x y hx
      unfold minK at h
      split at h
      · rename_i k m k' n h1 h2
        obtain ⟨rfl, h⟩ := h
        exact ⟨_, H, ⟨x, y, k, m, n, arr2 hx, h1, h2, rfl, rfl⟩, h⟩
      · exact h.elim
    · exact h.elim
  · split at h
    · rename_i x y hx
      unfold maxK at h
      split at h
      · rename_i k m k' n h1 h2
        obtain ⟨rfl, h⟩ := h
        exact ⟨_, H, ⟨x, y, k, m, n, arr2 hx, h1, h2, rfl, rfl⟩, h⟩
      · exact h.elim
    · exact h.elim
  · exact h

theorem wop_sound {P : Program} {N : Nat} {op : Op} {a : AAct} {H : Heap} {K : Value → Heap → Prop} (h : wop P N op a H K) : ∃ v H', OpStep P (Call P) N a H op v H' ∧ K v H' := by
  unfold wop at h
  split at h
  · exact ⟨_, H, ⟨rfl, rfl⟩, h⟩
  · exact ⟨_, H, ⟨rfl, rfl⟩, h⟩
  · unfold pickK at h
    split at h
    · rename_i b hb; exact ⟨_, H, ⟨⟨b, hb, rfl⟩, rfl⟩, h⟩
    · exact h.elim
  · unfold allocK at h
    split at h
    · rename_i z hz; exact ⟨_, _, ⟨z, hz, rfl, rfl⟩, h⟩
    · exact h.elim
  · obtain ⟨hu, h⟩ := h
    exact ⟨_, _, ⟨hu, rfl, rfl⟩, h⟩
  · obtain ⟨v, hv, h⟩ := optK_sound h; exact ⟨v, H, ⟨hv, rfl⟩, h⟩
  · unfold buildSliceK at h
    split at h
    · rename_i cs z hz; exact ⟨_, _, ⟨cs, z, hz, rfl, rfl⟩, h⟩
    · exact h.elim
  · unfold loadK at h
    split at h
    · rename_i i o hx
      split at h
      · rename_i vs ex tl k hi hk
        obtain ⟨v, hv, h⟩ := optK_sound h
        exact ⟨v, H, ⟨i, o, vs, ex, tl, k, hx, hi, hk, hv, rfl⟩, h⟩
      · exact h.elim
    · exact h.elim
  · unfold storeK at h
    split at h
    · rename_i i o hx
      split at h
      · rename_i vs tl m hi hk
        split at h
        · rename_i new hn
          obtain ⟨h1, h2, h3⟩ := h
          exact ⟨_, _, ⟨i, o, vs, tl, m, new, hx, h1, hi, hk, hn, h2, rfl, rfl⟩, h3⟩
        · exact h.elim
      · exact h.elim
    · exact h.elim
  · unfold nilCheckK at h
    split at h
    · rename_i ad hx; exact ⟨_, H, ⟨⟨ad, hx⟩, rfl, rfl⟩, h⟩
    · exact h.elim
  · obtain ⟨v, hv, h⟩ := optK_sound h; exact ⟨v, H, ⟨hv, rfl⟩, h⟩
  · obtain ⟨v, hv, h⟩ := optK_sound h; exact ⟨v, H, ⟨hv, rfl⟩, h⟩
  · unfold convK convTo at h
    split at h
    · rename_i k n k' d hx hd hs
      exact ⟨_, H, ConvA.int _ _ _ hd ⟨_, hs⟩ hx, h⟩
    · obtain ⟨v, H', h1, h2⟩ := h; exact ⟨v, H', h1, h2⟩
  · obtain ⟨v, hv, h⟩ := optK_sound h; exact ⟨v, H, ⟨hv, rfl⟩, h⟩
  · obtain ⟨v, hv, h⟩ := optK_sound h; exact ⟨v, H, ⟨hv, rfl⟩, h⟩
  · obtain ⟨v, hv, h⟩ := optK_sound h; exact ⟨v, H, ⟨hv, rfl⟩, h⟩
  · obtain ⟨v, hv, h⟩ := optK_sound h; exact ⟨v, H, ⟨hv, rfl⟩, h⟩
  · obtain ⟨v, hv, h⟩ := optK_sound h; exact ⟨v, H, ⟨hv, rfl⟩, h⟩
  · unfold extractK at h
    split at h
    · rename_i vs hx
      obtain ⟨v, hv, h⟩ := optK_sound h
      exact ⟨v, H, ⟨⟨vs, hx, hv⟩, rfl⟩, h⟩
    · exact h.elim
  · exact wcall_sound h
  · exact h

theorem wl_sound {P : Program} {N n : Nat} {ops : Array Oper} : ∀ (is : List Nat) (l : List Oper) (Q : AAct → Heap → Prop) (a : AAct) (H : Heap), is.map (ops[·]?) = l.map some → wl P (some N) n ops l Q a H →
    ∃ a' H', OpsRun P (Call P) N n ops is a H a' H' ∧ Q a' H'
  | [], [], Q, a, H, _, h => ⟨a, H, .nil a H, h⟩
  | [], o :: l, _, _, _, he, _ => by simp at he
  | i :: is, [], _, _, _, he, _ => by simp at he
  | i :: is, o :: l, Q, a, H, he, h => by
    simp only [List.map_cons, List.cons.injEq] at he
    unfold wl at h
    split at h
    · rename_i hw
      obtain ⟨v, H1, hs, h⟩ := wop_sound h
      obtain ⟨a', H', h1, h2⟩ := wl_sound is l Q _ H1 he.2 h
      exact ⟨a', H', .op he.1 hw hs h1, h2⟩
    · rename_i hw
      obtain ⟨a', H', h1, h2⟩ := wl_sound is l Q _ H he.2 h
      exact ⟨a', H', .skip he.1 hw h1, h2⟩
    · exact h.elim

theorem wl_quiet {P : Program} {n : Nat} {ops : Array Oper} : ∀ (is : List Nat) (l : List Oper) (Q : AAct → Heap → Prop) (a : AAct) (H : Heap), is.map (ops[·]?) = l.map some → wl P none n ops l Q a H →
    ∃ a' H', QuietRun P (Call P) n ops is a H a' H' ∧ Q a' H'
  | [], [], Q, a, H, _, h => ⟨a, H, .nil a H, h⟩
  | [], o :: l, _, _, _, he, _ => by simp at he
  | i :: is, [], _, _, _, he, _ => by simp at he
  | i :: is, o :: l, Q, a, H, he, h => by
    simp only [List.map_cons, List.cons.injEq] at he
    unfold wl at h
    split at h
    · rename_i hw
      obtain ⟨v, H1, hs, h⟩ := wop_sound h
      obtain ⟨a', H', h1, h2⟩ := wl_quiet is l Q _ H1 he.2 h
      exact ⟨a', H', .op he.1 hw hs h1, h2⟩
    · rename_i hw
      obtain ⟨a', H', h1, h2⟩ := wl_quiet is l Q _ H he.2 h
      exact ⟨a', H', .skip he.1 hw h1, h2⟩
    · exact h.elim

theorem range_get (ops : Array Oper) : (List.range ops.size).map (ops[·]?) = ops.toList.map some := by
  apply List.ext_getElem?
  intro i
  simp only [List.getElem?_map, List.getElem?_range, Array.getElem?_toList]
  by_cases h : i < ops.size
  · simp [h]
  · simp [h, Array.getElem?_eq_none (Nat.le_of_not_lt h)]

theorem wp_sound {P : Program} {N : Nat} {fn : FuncId} {n : Nat} {top : Bool} : ∀ (c : Code) (Q : Post) (a : AAct) (H : Heap), wp P N fn n top c Q a H → ∃ e a' H', Run P (Call P) N fn n top c a H e a' H' ∧ Q e a' H'
  | .skip, Q, a, H, h => ⟨_, a, H, .skip a H, h⟩
  | .region id ops false, Q, a, H, h => by
    obtain ⟨a', H', h1, h2⟩ := wl_sound (List.range ops.size) ops.toList _ a H (range_get ops) h
    exact ⟨_, a', H', .region h1, h2⟩
  | .region id ops true, Q, a, H, h => by
    rcases h with ⟨k, ⟨hk, hd, hok⟩, h⟩ | ⟨k, st, N2, ⟨hk, hd, hok, g1, g2, g3⟩, h⟩ | ⟨k, st, A, HH, V, hd, hok, hk, rfl, rfl, h1, h2, h3, h4⟩
    · have hr := range_get ops
      obtain ⟨a1, H1, h1, h⟩ := wl_quiet (List.range k) (ops.toList.take k) _ a H (by
        have : List.range k = (List.range ops.size).take k := by rw [List.take_range, Nat.min_eq_left hk]
        rw [this, List.map_take, hr, List.map_take]) h
      obtain ⟨a', H', h2, h3⟩ := wl_sound ((List.range ops.size).drop k) (ops.toList.drop k) _ a1 H1 (by rw [List.map_drop, hr, List.map_drop]) h
      exact ⟨_, a', H', .quiet hd hok hk h1 h2, h3⟩
    · have hr := range_get ops
      obtain ⟨a1, H1, h1, h⟩ := wl_quiet (List.range k) (ops.toList.take k) _ a H (by
        have : List.range k = (List.range ops.size).take k := by rw [List.take_range, Nat.min_eq_left hk]
        rw [this, List.map_take, hr, List.map_take]) h
      obtain ⟨a', H', h2, h3⟩ := wl_sound ((List.range ops.size).drop k) (ops.toList.drop k) _ a1 H1 (by rw [List.map_drop, hr, List.map_drop]) h
      exact ⟨_, a', H', .late hd hok hk g1 g2 g3 h1 h2, h3⟩
    · exact ⟨_, _, _, .calm A HH V hd hok hk h1 h2 h3, h4⟩
  | .seq x y, Q, a, H, h => by
    obtain ⟨e, a1, H1, h1, h⟩ := wp_sound x _ a H h
    cases e with
    | normal =>
      obtain ⟨e, a', H', h2, h3⟩ := wp_sound y Q a1 H1 h
      exact ⟨e, a', H', .seq h1 h2, h3⟩
    | exit id => exact ⟨_, a1, H1, .seqx h1 (by simp), h⟩
    | ret => exact ⟨_, a1, H1, .seqx h1 (by simp), h⟩
  | .cond c x y, Q, a, H, h => by
    simp only [wp, condK] at h
    split at h
    · rename_i b hb
      cases b with
      | true => obtain ⟨e, a', H', h1, h2⟩ := wp_sound x Q a H (h.1 rfl); exact ⟨e, a', H', .cond hb (by simpa using h1), h2⟩
      | false => obtain ⟨e, a', H', h1, h2⟩ := wp_sound y Q a H (h.2 rfl); exact ⟨e, a', H', .cond hb (by simpa using h1), h2⟩
    · exact h.elim
  | .block id c, Q, a, H, h => by
    obtain ⟨e, a', H', h1, h2⟩ := wp_sound c _ a H h
    exact ⟨_, a', H', .block h1, h2⟩
  | .exit id, Q, a, H, h => ⟨_, a, H, .exit id a H, h⟩
  | .ret, Q, a, H, h => ⟨_, a, H, .ret a H, h⟩
  | .loop c, Q, a, H, h => h
  | .rangeFunc f ps as bd, Q, a, H, h => h
  | .scope c, Q, a, H, h => h
  | .label l, Q, a, H, h => h
  | .goto l, Q, a, H, h => h
  | .refuse s, Q, a, H, h => h

/-! ### Loops -/

/-- Back at a loop's head: the measure is less. -/
def backK (I : Nat → AAct → Heap → Prop) (m : Nat) (Q : Post) : Post := fun e a H =>
  match e with
  | .normal => ∃ m', m' < m ∧ I m' a H
  | e => Q e a H

theorem wp_loop {P : Program} {N : Nat} {fn : FuncId} {n : Nat} {top : Bool} {c : Code} {Q : Post} (I : Nat → AAct → Heap → Prop) (hstep : ∀ m a H, I m a H → wp P N fn n top c (backK I m Q) a H) : ∀ (m : Nat) {a : AAct} {H : Heap}, I m a H → wp P N fn n top (.loop c) Q a H := by
  intro m
  induction m using Nat.strongRecOn with
  | _ m ih =>
    intro a H h
    obtain ⟨e, a1, H1, h1, h2⟩ := wp_sound c _ a H (hstep m a H h)
    cases e with
    | normal =>
      obtain ⟨m', hm, hI⟩ := h2
      obtain ⟨e, a', H', h3, h4⟩ := ih m' hm hI
      exact ⟨e, a', H', .loop h1 h3, h4⟩
    | exit id => exact ⟨_, a1, H1, .loopx h1 (by simp), h2⟩
    | ret => exact ⟨_, a1, H1, .loopx h1 (by simp), h2⟩

/-! ### Functions -/

/-- A function that leaves what is there as it is. -/
def Fun (P : Program) (f : FuncId) (args : List Value) (H : Heap) (Q : Value → Heap → Prop) : Prop := ∃ v H', Call P H.size (.func f) args H v H' ∧ Q v H'

/-- What a body leaves. -/
def retK (P : Program) (rs : List ResultVar) (Q : Value → Heap → Prop) : Post := fun e a H => (e = .normal ∨ e = .ret) ∧ optK (resA P rs a H) H Q

theorem body_of {P : Program} {N : Nat} {f : FuncId} {func : Func} {code : Code} {args : List Value} {H : Heap} {Q : Value → Heap → Prop} (hf : P.funcs[f]? = some func) (hb : func.body = some code) (hn : (func.name == "runtime.NumGoroutine") = false) (hl : args.length ≤ func.ntmps)
    (h : wp P N f func.ntmps true code (retK P func.results.toList Q) (enterA args) H) : ∃ v H', Body P (Call P) N f args H v H' ∧ Q v H' := by
  obtain ⟨e, a', H', h1, h2, h3⟩ := wp_sound _ _ _ _ h
  obtain ⟨v, hv, h4⟩ := optK_sound h3
  exact ⟨v, H', ⟨func, code, e, a', hf, hb, hn, hl, h1, h2, hv⟩, h4⟩

theorem call_of {P : Program} {N : Nat} {f : FuncId} {func : Func} {code : Code} {args : List Value} {H : Heap} {Q : Value → Heap → Prop} (hf : P.funcs[f]? = some func) (hb : func.body = some code) (hn : (func.name == "runtime.NumGoroutine") = false) (hl : args.length ≤ func.ntmps)
    (h : wp P N f func.ntmps true code (retK P func.results.toList Q) (enterA args) H) : callK P N (.func f) args H Q := by
  obtain ⟨v, H', h1, h2⟩ := body_of hf hb hn hl h
  exact ⟨v, H', Call.fold (.inl h1), h2⟩

theorem fun_of {P : Program} {f : FuncId} {func : Func} {code : Code} {args : List Value} {H : Heap} {Q : Value → Heap → Prop} (hf : P.funcs[f]? = some func) (hb : func.body = some code) (hn : (func.name == "runtime.NumGoroutine") = false) (hl : args.length ≤ func.ntmps)
    (h : wp P H.size f func.ntmps true code (retK P func.results.toList Q) (enterA args) H) : Fun P f args H Q := call_of hf hb hn hl h

/-- A call of such a function. -/
theorem Fun.call {P : Program} {f : FuncId} {args : List Value} {H : Heap} {Q : Value → Heap → Prop} (h : Fun P f args H Q) {N : Nat} {K : Value → Heap → Prop} (hN : N ≤ H.size) (hK : ∀ v H', H.size ≤ H'.size → (∀ i, i < H.size → H'[i]? = H[i]?) → Q v H' → K v H') : callK P N (.func f) args H K := by
  obtain ⟨v, H', h1, h2⟩ := h
  obtain ⟨p1, p2⟩ := (Call.simC P).prot _ _ _ _ _ _ h1 (Nat.le_refl _)
  exact ⟨v, H', h1.weaken hN, hK v H' p1 p2 h2⟩

theorem callK.mono {P : Program} {N : Nat} {f : Fn} {args : List Value} {H : Heap} {K K' : Value → Heap → Prop} (h : callK P N f args H K) (hK : ∀ v H', K v H' → K' v H') : callK P N f args H K' := by
  obtain ⟨v, H', h1, h2⟩ := h
  exact ⟨v, H', h1, hK _ _ h2⟩

end Go.Proofs.Ytcapjjmikapmfaa.M
