/- The abstract machine M: definitions. Values of the model over an abstract heap whose blocks are windows; no tape, no capacities, no draws. -/
import Derived.Calls
import Derived.Below
import Derived.KernelRfl
set_option linter.unusedVariables false
namespace Go.Proofs.Ytcapjjmikapmfaa.M
open Go

/-- The value of which nothing is known. -/
abbrev U : Value := .chan (some 0)

def isU : Value → Bool
  | .chan _ => true
  | _ => false

/-- Values that hold no address. -/
def scal : Value → Bool
  | .bool _ | .int _ _ | .string _ | .pointer none | .slice none 0 0 | .map none | .nilFunc | .nilIface => true
  | _ => false

/-- What one cell may hold. -/
def cellOk : Value → Bool
  | .chan _ | .agg _ | .tuple _ => false
  | _ => true

abbrev AAct := Nat → Value

def ev (a : AAct) : Operand → Value
  | .tmp t => a t
  | .const v => if scal v then v else U
  | .global _ => U
  | .func f => .func (.func f) #[] #[]

def put (n : Nat) (a : AAct) (d : Option Nat) (v : Value) : AAct :=
  match d with
  | some d => if d < n then (fun t => if t = d then v else a t) else a
  | none => a

inductive LoopSt where
  | ready | busy | done (jump : Code) | over

inductive Blk where
  | cells (vs : List Value) (ex tl : Bool)
  | map (es : List (Value × Value))
  | loop (fn : FuncId) (n : Nat) (a : AAct) (params : List Nat) (assign body : Code) (st : LoopSt)
  | dead

abbrev Heap := Array Blk
abbrev CallRel := Nat → Fn → List Value → Heap → Value → Heap → Prop

section
variable (P : Program)

def szOf (t : TypeId) : Option Nat := (P.info? t).map (·.size)
def bytesOf (t : TypeId) : Option Nat := (P.info? t).map (·.bytes)
def zc (t : TypeId) : Option (List Value) :=
  match (P.info? t).bind (·.zero) with
  | some z => if z.cells.toList.all scal then some z.cells.toList else none
  | none => none
/-- none: no type; some none: one cell; some (some n): an aggregate of n cells. -/
def kindOf (t : TypeId) : Option (Option Nat) :=
  match P.underlying t with
  | some (.struct _) | some (.array _ _) => (szOf P t).map some
  | some _ => some none
  | none => none
end

def ldv (vs : List Value) (k : Option Nat) (off : Nat) : Option Value :=
  match k with
  | none => vs[off]?
  | some n => if off + n ≤ vs.length then some (.agg ((vs.drop off).take n).toArray) else none

def wr (vs : List Value) (off : Nat) (new : List Value) : List Value := vs.take off ++ new ++ vs.drop (off + new.length)

/-- The cells of a value that is stored as a type of n cells. -/
def stc (n : Nat) (v : Value) : Option (List Value) :=
  if v.cells.size = n ∧ v.cells.toList.all cellOk ∧ isU v = false then some v.cells.toList else none

/-- Whole numbers, bools, texts; a comparison with nil. -/
def binA (P : Program) (op : BinOp) (t : TypeId) (x y : Value) : Option Value :=
  match x, y with
  | .int k a, .int k' b =>
    match op with
    | .shl => if b < 0 then none else some (.int k (k.wrap (a * 2 ^ min b.toNat k.bits)))
    | .shr => if b < 0 then none else some (.int k (a.fdiv (2 ^ min b.toNat k.bits)))
    | op =>
      if k ≠ k' then none else
      match op with
      | .add => some (.int k (k.wrap (a + b)))
      | .sub => some (.int k (k.wrap (a - b)))
      | .mul => some (.int k (k.wrap (a * b)))
      | .quo => if b = 0 then none else some (.int k (k.wrap (a.tdiv b)))
      | .rem => if b = 0 then none else some (.int k (a.tmod b))
      | .and => some (.int k (k.wrap (BitVec.ofInt k.bits a &&& BitVec.ofInt k.bits b).toNat))
      | .or => some (.int k (k.wrap (BitVec.ofInt k.bits a ||| BitVec.ofInt k.bits b).toNat))
      | .xor => some (.int k (k.wrap (BitVec.ofInt k.bits a ^^^ BitVec.ofInt k.bits b).toNat))
      | .andNot => some (.int k (k.wrap (BitVec.ofInt k.bits a &&& ~~~(BitVec.ofInt k.bits b)).toNat))
      | .eql => some (.bool (a == b))
      | .neq => some (.bool (a != b))
      | .lss => some (.bool (a < b))
      | .leq => some (.bool (a ≤ b))
      | .gtr => some (.bool (a > b))
      | .geq => some (.bool (a ≥ b))
      | _ => none
  | .string a, .string b =>
    match op with
    | .add => if ((a.size + b.size : Nat) : Int) > IntKind.i64.max then none else some (.string (a ++ b))
    | .eql => some (.bool (a.toList == b.toList))
    | .neq => some (.bool !(a.toList == b.toList))
    | _ => none
  | .bool a, .bool b =>
    match op, P.underlying t with
    | .eql, some .bool => some (.bool (a == b))
    | .neq, some .bool => some (.bool !(a == b))
    | _, _ => none
  | .pointer a, .pointer none =>
    match op, P.underlying t with
    | .eql, some (.pointer _) => some (.bool a.isNone)
    | .neq, some (.pointer _) => some (.bool !a.isNone)
    | _, _ => none
  | .slice a _ _, .slice none _ _ =>
    match op, P.underlying t with
    | .eql, some (.slice _) => some (.bool a.isNone)
    | .neq, some (.slice _) => some (.bool !a.isNone)
    | _, _ => none
  | _, _ => none

def unA (op : UnOp) (x : Value) : Option Value :=
  match op, x with
  | .neg, .int k n => some (.int k (k.wrap (0 - n)))
  | .xor, .int k n => some (.int k (k.wrap (BitVec.ofInt k.bits (if k.signed then -1 else k.max) ^^^ BitVec.ofInt k.bits n).toNat))
  | .not, .bool b => some (.bool !b)
  | _, _ => none

def intA : Value → Option Int
  | .int _ n => some n
  | _ => none

/-- One bound of a slice expression. -/
def boundA (v : Option Value) (y dflt : Nat) : Option Nat :=
  match v with
  | none => some dflt
  | some v =>
    match intA v with
    | some i => if 0 ≤ i ∧ i ≤ y then some i.toNat else none
    | none => none

/-- A slice expression's bounds: low, high, max; 'cap' is what is surely there. -/
def boundsA (len cap : Nat) (low high max : Option Value) : Option (Nat × Nat × Nat) :=
  match boundA max cap cap with
  | none => none
  | some m =>
    match (if max.isSome && high.isNone then none else boundA high m len) with
    | none => none
    | some h =>
      match boundA low h 0 with
      | none => none
      | some l => some (l, h, m)

def sliceA (P : Program) (t : TypeId) (x : Value) (low high max : Option Value) : Option Value :=
  match P.underlying t, x with
  | some .string, .string s =>
    match boundsA s.size s.size low high max with
    | some (l, h, _) => if max.isSome then none else some (.string (s.extract l h))
    | none => none
  | some (.slice e), .slice (some ⟨i, o, some z'⟩) len cap =>
    match szOf P e, boundsA len cap low high max with
    | some z, some (l, h, m) => if z = z' then some (.slice (some ⟨i, o + l * z, some z⟩) (h - l) (m - l)) else none
    | _, _ => none
  | some (.slice e), .slice none 0 0 =>
    match szOf P e, boundsA 0 0 low high max with
    | some z, some (l, h, m) => some (.slice none 0 0)
    | _, _ => none
  | _, _ => none

def indexAddrA (P : Program) (t : TypeId) (x i : Value) : Option Value :=
  match P.underlying t, x, intA i with
  | some (.array len e), .pointer (some ⟨b, o, none⟩), some i =>
    match szOf P e with
    | some z => if 0 ≤ i ∧ i < len then some (.pointer (some ⟨b, o + i.toNat * z, none⟩)) else none
    | none => none
  | some (.slice e), .slice (some ⟨b, o, some _⟩) len _, some i =>
    match szOf P e with
    | some z => if 0 ≤ i ∧ i < len then some (.pointer (some ⟨b, o + i.toNat * z, none⟩)) else none
    | none => none
  | _, _, _ => none

def partA (P : Program) (t : TypeId) (cs : Array Value) (off : Nat) : Option Value :=
  match kindOf P t with
  | some (some n) => some (.agg (cs.extract off (off + n)))
  | some none => cs[off]?
  | none => none

def indexA (P : Program) (t : TypeId) (x i : Value) : Option Value :=
  match P.underlying t, x, intA i with
  | some (.array len e), .agg cs, some i =>
    match szOf P e with
    | some z => if 0 ≤ i ∧ i < len then partA P e cs (i.toNat * z) else none
    | none => none
  | some .string, .string s, some i =>
    if 0 ≤ i then
      match s[i.toNat]? with
      | some b => some (.int .u8 b.toNat)
      | none => none
    else none
  | _, _, _ => none

def fieldAddrA (P : Program) (t : TypeId) (x : Value) (f : Nat) : Option Value :=
  match P.underlying t, x with
  | some (.struct fs), .pointer (some ⟨b, o, none⟩) =>
    match fs[f]? with
    | some f =>
      match szOf P f.type with
      | some z => if z = 0 then none else some (.pointer (some ⟨b, o + f.offset, none⟩))
      | none => none
    | none => none
  | _, _ => none

def fieldA (P : Program) (t : TypeId) (x : Value) (f : Nat) : Option Value :=
  match P.underlying t, x with
  | some (.struct fs), .agg cs =>
    match fs[f]? with
    | some f => partA P f.type cs f.offset
    | none => none
  | _, _ => none

/-- The places of a literal's parts. -/
def placesA (P : Program) (t : TypeId) : Option (Nat → Option (Nat × Nat)) :=
  match P.underlying t with
  | some (.struct fs) =>
    match fs.toList.mapM fun f => (szOf P f.type).map fun z => (f.offset, z) with
    | some l => some fun i => l[i]?
    | none => none
  | some (.array _ e) =>
    match szOf P e with
    | some z => some fun i => some (i * z, z)
    | none => none
  | _ => none

def buildA (P : Program) (t : TypeId) (parts : List (Nat × Value)) : Option Value :=
  match zc P t, placesA P t with
  | some z, some pl => if parts.all (fun p => !isU p.2) then (Instr.fill pl z.toArray parts).map .agg else none
  | _, _ => none

def buildSliceA (P : Program) (t : TypeId) (len : Nat) (parts : List (Nat × Value)) : Option (List Value × Nat) :=
  match P.underlying t with
  | some (.slice e) =>
    match szOf P e, zc P e with
    | some z, some zs =>
      if len * z ≤ 2 ^ 24 ∧ parts.all (fun p => !isU p.2) then
        (Instr.fill (fun i => some (i * z, z)) ((Array.range (len * z)).map (fun i => zs.toArray[i % zs.toArray.size]!)) parts).map (fun c => (c.toList, z))
      else none
    | _, _ => none
  | _ => none

/-- The cells that a source of append or copy gives: n elements of z cells. -/
def srcA (H : Heap) (z n : Nat) (x : Value) : Option (List Value) :=
  match x with
  | .slice (some ⟨i, o, some _⟩) _ _ =>
    match H[i]? with
    | some (.cells vs _ _) => if o + n * z ≤ vs.length then some ((vs.drop o).take (n * z)) else none
    | _ => none
  | .slice none _ _ => some []
  | .string s => some ((s.extract 0 n).data.map fun b => Value.int .u8 b.toNat).toList
  | _ => none

def lenA : Value → Option Nat
  | .slice _ n _ => some n
  | .string s => some s.size
  | _ => none

/-- append(s, x...): what comes of it, and the heap behind it. -/
inductive AppendA (P : Program) (N : Nat) (H : Heap) (t : TypeId) (s x : Value) : Value → Heap → Prop
  | nothing (e z : Nat) (b : Option Addr) (n c : Nat) : P.underlying t = some (.slice e) → szOf P e = some z → s = .slice b n c → lenA x = some 0 → AppendA P N H t s x s H
  | new (e z bt : Nat) (zs xs : List Value) (n : Nat) : P.underlying t = some (.slice e) → szOf P e = some z → bytesOf P e = some bt → zc P e = some zs → zs.length = z →
      s = .slice none 0 0 → lenA x = some n → srcA H z n x = some xs → xs.length = n * z → 0 < n → n ≤ 2 ^ 48 → (n + n / 4 + 192) * bt ≤ 281474976710656 →
      AppendA P N H t s x (.slice (some ⟨H.size, 0, some z⟩) n n) (H.push (.cells xs true true))
  | share (e z bt : Nat) (zs xs vs : List Value) (i o len c n : Nat) (ex : Bool) : P.underlying t = some (.slice e) → szOf P e = some z → bytesOf P e = some bt → zc P e = some zs → zs.length = z →
      s = .slice (some ⟨i, o, some z⟩) len c → lenA x = some n → srcA H z n x = some xs → xs.length = n * z → xs.all cellOk → 0 < z → 0 < n → len + n ≤ 2 ^ 48 → (len + n + (len + n) / 4 + 192) * bt ≤ 281474976710656 →
      N ≤ i → H[i]? = some (.cells vs ex true) → o + len * z = vs.length →
      AppendA P N H t s x (.slice (some ⟨H.size, 0, some z⟩) (len + n) (len + n))
        ((H.setIfInBounds i (.cells vs (ex && len * z == 0) false)).push (.cells (vs.drop o ++ xs) (len * z == 0) true))
  | move (e z bt : Nat) (zs xs vs : List Value) (i o len c n : Nat) : P.underlying t = some (.slice e) → szOf P e = some z → bytesOf P e = some bt → zc P e = some zs → zs.length = z →
      s = .slice (some ⟨i, o, some z⟩) len c → lenA x = some n → srcA H z n x = some xs → xs.length = n * z → xs.all cellOk → 0 < z → 0 < n → len + n ≤ 2 ^ 48 → (len + n + (len + n) / 4 + 192) * bt ≤ 281474976710656 →
      N ≤ i → H[i]? = some (.cells vs true true) → o + len * z = vs.length →
      AppendA P N H t s x (.slice (some ⟨H.size, 0, some z⟩) (len + n) (len + n))
        ((H.setIfInBounds i .dead).push (.cells (vs.drop o ++ xs) true true))
  | fits (e z : Nat) (xs vs : List Value) (i o len c n : Nat) (tl : Bool) : P.underlying t = some (.slice e) → szOf P e = some z →
      s = .slice (some ⟨i, o, some z⟩) len c → lenA x = some n → srcA H z n x = some xs → xs.length = n * z → xs.all cellOk → 0 < n → len + n ≤ c →
      N ≤ i → H[i]? = some (.cells vs true tl) → o + (len + n) * z ≤ vs.length →
      AppendA P N H t s x (.slice (some ⟨i, o, some z⟩) (len + n) c) (H.setIfInBounds i (.cells (wr vs (o + len * z) xs) true tl))

/-- 'append(nil, make([]T, k)...)': the second operand is a number. -/
inductive AppendZ (P : Program) (N : Nat) (H : Heap) (t : TypeId) (s x : Value) : Value → Heap → Prop
  | mk (e z bt k : Nat) (zs : List Value) (kd : IntKind) : P.underlying t = some (.slice e) → szOf P e = some z → bytesOf P e = some bt → zc P e = some zs → zs.length = z →
      s = .slice none 0 0 → x = .int kd (k : Nat) → 0 < k → k ≤ 2 ^ 48 → k * bt ≤ 281474976710656 → 
      AppendZ P N H t s x (.slice (some ⟨H.size, 0, some z⟩) k k) (H.push (.cells ((Builtin.zeroCells zs.toArray k).toList) true true))
  | nothing (e z : Nat) (b : Option Addr) (n c : Nat) (kd : IntKind) : P.underlying t = some (.slice e) → szOf P e = some z → s = .slice b n c → x = .int kd (0 : Nat) → AppendZ P N H t s x s H
  | share (e z bt : Nat) (zs vs : List Value) (i o len c n : Nat) (ex : Bool) (kd : IntKind) : P.underlying t = some (.slice e) → szOf P e = some z → bytesOf P e = some bt → zc P e = some zs → zs.length = z →
      s = .slice (some ⟨i, o, some z⟩) len c → x = .int kd (n : Nat) → (Builtin.zeroCells zs.toArray n).toList.all cellOk → 0 < z → 0 < n → len + n ≤ 2 ^ 48 → (len + n + (len + n) / 4 + 192) * bt ≤ 281474976710656 →
      N ≤ i → H[i]? = some (.cells vs ex true) → o + len * z = vs.length →
      AppendZ P N H t s x (.slice (some ⟨H.size, 0, some z⟩) (len + n) (len + n))
        ((H.setIfInBounds i (.cells vs (ex && len * z == 0) false)).push (.cells (vs.drop o ++ (Builtin.zeroCells zs.toArray n).toList) (len * z == 0) true))

/-- copy(d, x): how many, and the heap behind it. -/
inductive CopyA (P : Program) (N : Nat) (H : Heap) (t : TypeId) (d x : Value) : Value → Heap → Prop
  | nothing (e z : Nat) (b : Option Addr) (n c m : Nat) : P.underlying t = some (.slice e) → szOf P e = some z → d = .slice b n c → lenA x = some m → (n = 0 ∨ m = 0) → CopyA P N H t d x (.int .i64 0) H
  | some (e z : Nat) (xs vs : List Value) (i o len c m : Nat) (tl : Bool) : P.underlying t = some (.slice e) → szOf P e = some z →
      d = .slice (some ⟨i, o, some z⟩) len c → lenA x = some m → srcA H z (min m len) x = some xs → xs.length = min m len * z → xs.all cellOk →
      N ≤ i → H[i]? = some (.cells vs true tl) → o + len * z ≤ vs.length →
      CopyA P N H t d x (.int .i64 (min m len : Nat)) (H.setIfInBounds i (.cells (wr vs o xs) true tl))

/-- A string out of bytes. -/
def strA : List Value → Option (List UInt8)
  | [] => some []
  | .int .u8 n :: l => (strA l).map (UInt8.ofNat n.toNat :: ·)
  | _ => none

inductive ConvA (P : Program) (N : Nat) (H : Heap) (src dst : TypeId) (x : Value) : Value → Heap → Prop
  | int (k k' : IntKind) (n : Int) : P.underlying dst = some (.int k) → (∃ d, P.underlying src = some d) → x = .int k' n → ConvA P N H src dst x (.int k (k.wrap n)) H
  | same (s : ByteArray) : P.underlying dst = some .string → P.underlying src = some .string → x = .string s → ConvA P N H src dst x x H
  | str (e : Nat) (vs : List Value) (ex tl : Bool) (i o n c : Nat) (l : List UInt8) : P.underlying src = some (.slice e) → P.underlying dst = some .string → P.underlying e = some (.int .u8) →
      x = .slice (some ⟨i, o, some 1⟩) n c → (n ≠ 0 → H[i]? = some (.cells vs ex tl) ∧ o + n ≤ vs.length) → strA ((vs.drop o).take n) = some l → l.length = n → ConvA P N H src dst x (.string ⟨l.toArray⟩) H
  | strNil (e : Nat) : P.underlying src = some (.slice e) → P.underlying dst = some .string → P.underlying e = some (.int .u8) → x = .slice none 0 0 → ConvA P N H src dst x (.string .empty) H
  | bytes (e : Nat) (s : ByteArray) : P.underlying src = some .string → P.underlying dst = some (.slice e) → P.underlying e = some (.int .u8) → x = .string s →
      ConvA P N H src dst x (.slice (some ⟨H.size, 0, some 1⟩) s.size s.size) (H.push (.cells (s.data.toList.map fun b => .int .u8 b.toNat) false false))
  | row (e : Nat) (vs : List Value) (ex : Bool) (i o n c : Nat) : P.underlying src = some (.slice e) → dst = src → P.underlying e = some (.int .u8) → x = .slice (some ⟨i, o, some 1⟩) n c → 0 < n → N ≤ i → H[i]? = some (.cells vs ex true) →
      ConvA P N H src dst x x (H.setIfInBounds i (.cells vs ex false))

/-- Keys of maps: whole numbers and texts. -/
def keyEq : Value → Value → Option Bool
  | .int k a, .int k' b => if k = k' then some (a == b) else none
  | .string a, .string b => some (a == b)
  | _, _ => none

def findA (k : Value) : List (Value × Value) → Nat → Option (Option (Nat × Value))
  | [], _ => some none
  | (k', v) :: es, i =>
    match keyEq k k' with
    | some true => some (some (i, v))
    | some false => findA k es (i + 1)
    | none => none

def keyTy (P : Program) (t : TypeId) : Value → Bool
  | .int k _ => match P.underlying t with | some (.int k') => k == k' | _ => false
  | .string _ => match P.underlying t with | some .string => true | _ => false
  | _ => false

def entriesA (H : Heap) : Value → Option (List (Value × Value))
  | .map none => some []
  | .map (some i) => match H[i]? with | some (.map es) => some es | _ => none
  | _ => none

/-- What a look-up, a store and a deletion make of a search's answer. -/
def lookV (ok : Bool) (z : Value) (q : Option (Nat × Value)) : Value :=
  match q with
  | some (_, x) => if ok then .tuple #[x, .bool true] else x
  | none => if ok then .tuple #[z, .bool false] else z
def updM (es : List (Value × Value)) (q : Option (Nat × Value)) (k x : Value) : List (Value × Value) :=
  match q with
  | some (j, _) => es.set j (k, x)
  | none => es ++ [(k, x)]
def delM (es : List (Value × Value)) (q : Option (Nat × Value)) : List (Value × Value) :=
  match q with
  | some (j, _) => es.eraseIdx j
  | none => es

/-- A struct or array, or a value that is one: its zero as a value. -/
def zeroV (P : Program) (t : TypeId) : Option Value :=
  match (P.info? t).bind (·.zero) with
  | some z => if scal z then some z else match z with | .agg cs => if cs.toList.all scal then some z else none | _ => none
  | none => none

/-- A value, or a tuple, that holds no address. -/
def flat : Value → Bool
  | .tuple vs => vs.toList.all scal
  | v => scal v

/-- A function without a body of Go's, at these arguments. -/
def ExternOk (P : Program) (f : FuncId) (args : List Value) (v : Value) : Prop :=
  args.all scal = true ∧ flat v = true ∧ ∀ w, (callFunc f args.toArray).run P w = .ok (.value v) w

def nonInt (P : Program) (t : TypeId) : Prop :=
  match P.underlying t with
  | some (.int _) | none => False
  | _ => True

def OpStep (P : Program) (C : CallRel) (N : Nat) (a : AAct) (H : Heap) (op : Op) (v : Value) (H' : Heap) : Prop :=
  match op with
  | .move x | .assign x => v = ev a x ∧ H' = H
  | .pick c x y => (∃ b, ev a c = .bool b ∧ v = if b then ev a x else ev a y) ∧ H' = H
  | .alloc t => ∃ z, zc P t = some z ∧ v = .pointer (some ⟨H.size, 0, none⟩) ∧ H' = H.push (.cells z true false)
  | .box t x => isU (ev a x) = false ∧ v = .pointer (some ⟨H.size, 0, none⟩) ∧ H' = H.push (.cells (ev a x).cells.toList true false)
  | .build t ps => buildA P t (ps.toList.map fun p => (p.1, ev a p.2)) = some v ∧ H' = H
  | .buildSlice t len ps => ∃ cs z, buildSliceA P t len (ps.toList.map fun p => (p.1, ev a p.2)) = some (cs, z) ∧
      v = .slice (some ⟨H.size, 0, some z⟩) len len ∧ H' = H.push (.cells cs true true)
  | .load t x => ∃ i o vs ex tl k, ev a x = .pointer (some ⟨i, o, none⟩) ∧ H[i]? = some (.cells vs ex tl) ∧ kindOf P t = some k ∧ ldv vs k o = some v ∧ H' = H
  | .store t x y => ∃ i o vs tl n new, ev a x = .pointer (some ⟨i, o, none⟩) ∧ N ≤ i ∧ H[i]? = some (.cells vs true tl) ∧ szOf P t = some n ∧ stc n (ev a y) = some new ∧
      o + new.length ≤ vs.length ∧ v = undef ∧ H' = H.setIfInBounds i (.cells (wr vs o new) true tl)
  | .nilCheck x => (∃ ad, ev a x = .pointer (some ad)) ∧ v = ev a x ∧ H' = H
  | .binOp op t x y _ => binA P op t (ev a x) (ev a y) = some v ∧ H' = H
  | .unOp op _ x => unA op (ev a x) = some v ∧ H' = H
  | .convert src dst x => ConvA P N H src dst (ev a x) v H'
  | .makeInterface t x => (match P.underlying t with | some (.interface _) | none => False | _ => True) ∧ v = .iface t (ev a x) ∧ H' = H
  | .makeFunc fn first captured => (∃ f, fn = .func f) ∧ first = #[] ∧ v = .func fn #[] (captured.map (ev a)) ∧ H' = H
  | .makeMap t r => r = none ∧ v = .map (some H.size) ∧ H' = H.push (.map [])
  | .makeSlice t l c => ∃ e z bt zs kl kc n m, P.underlying t = some (.slice e) ∧ szOf P e = some z ∧ bytesOf P e = some bt ∧ zc P e = some zs ∧
      ev a l = .int kl (n : Nat) ∧ ev a c = .int kc (m : Nat) ∧ n ≤ m ∧ m ≤ 2 ^ 48 ∧ m * bt ≤ 281474976710656 ∧
      v = .slice (some ⟨H.size, 0, some z⟩) n m ∧ H' = H.push (.cells (((Array.range (m * z)).map (fun i => zs.toArray[i % zs.toArray.size]!)).toList) true true)
  | .slice t x lo hi mx => sliceA P t (ev a x) (lo.map (ev a)) (hi.map (ev a)) (mx.map (ev a)) = some v ∧ H' = H
  | .fieldAddr t x f => fieldAddrA P t (ev a x) f = some v ∧ H' = H
  | .field t x f => fieldA P t (ev a x) f = some v ∧ H' = H
  | .indexAddr t x i => indexAddrA P t (ev a x) (ev a i) = some v ∧ H' = H
  | .index t x i => indexA P t (ev a x) (ev a i) = some v ∧ H' = H
  | .lookup t m k ok => ∃ kt e es z r, P.underlying t = some (.map kt e) ∧ entriesA H (ev a m) = some es ∧ keyTy P kt (ev a k) = true ∧ zeroV P e = some z ∧
      findA (ev a k) es 0 = some r ∧ v = lookV ok z r ∧ H' = H
  | .mapUpdate t m k x => ∃ kt e i es r, P.underlying t = some (.map kt e) ∧ ev a m = .map (some i) ∧ N ≤ i ∧ H[i]? = some (.map es) ∧ keyTy P kt (ev a k) = true ∧
      findA (ev a k) es 0 = some r ∧ v = undef ∧ 
      H' = H.setIfInBounds i (.map (updM es r (ev a k) (ev a x)))
  | .extract x i => (∃ vs, ev a x = .tuple vs ∧ vs[i]? = some v) ∧ H' = H
  | .call c =>
    match c.callee with
    | .value f => ∃ fn cap, ev a f = .func fn #[] cap ∧ C N fn (c.args.toList.map (ev a) ++ cap.toList) H v H'
    | .builtin .len => ∃ t x n, c.argTypes[0]? = some t ∧ c.args[0]? = some x ∧ H' = H ∧ v = .int .i64 (n : Nat) ∧
        (match P.underlying t with
          | some .string => ∃ s, ev a x = .string s ∧ n = s.size
          | some (.slice _) => ∃ b k, ev a x = .slice b n k
          | some (.array m _) => n = m
          | some (.map _ _) => ∃ es, entriesA H (ev a x) = some es ∧ n = es.length
          | _ => False)
    | .builtin .append => (∃ t t' s x, c.argTypes = #[t, t'] ∧ nonInt P t' ∧ c.args = #[s, x] ∧ AppendA P N H t (ev a s) (ev a x) v H')
        ∨ (∃ t t' k s x, c.argTypes = #[t, t'] ∧ P.underlying t' = some (.int k) ∧ c.args = #[s, x] ∧ AppendZ P N H t (ev a s) (ev a x) v H')
    | .builtin .copy => ∃ t t' d x, c.argTypes = #[t, t'] ∧ c.args = #[d, x] ∧ CopyA P N H t (ev a d) (ev a x) v H'
    | .builtin .min => ∃ x y k m n, c.args = #[x, y] ∧ ev a x = .int k m ∧ ev a y = .int k n ∧ v = .int k (if n < m then n else m) ∧ H' = H
    | .builtin .max => ∃ x y k m n, c.args = #[x, y] ∧ ev a x = .int k m ∧ ev a y = .int k n ∧ v = .int k (if n > m then n else m) ∧ H' = H
    | .builtin .delete => ∃ t t' m k kt e i es r, c.argTypes = #[t, t'] ∧ c.args = #[m, k] ∧ P.underlying t = some (.map kt e) ∧ ev a m = .map (some i) ∧ N ≤ i ∧
        H[i]? = some (.map es) ∧ keyTy P kt (ev a k) = true ∧ findA (ev a k) es 0 = some r ∧ v = .tuple #[] ∧
        H' = H.setIfInBounds i (.map (delM es r))
    | .builtin .cap => ∃ t x e, c.argTypes = #[t] ∧ c.args = #[x] ∧ P.underlying t = some (.slice e) ∧ ev a x = .slice none 0 0 ∧ v = .int .i64 0 ∧ H' = H
    | _ => False
  | _ => False

/-- Is a guarded operation carried out? -/
def wantedA (ops : Array Oper) (o : Oper) (a : AAct) : Option Bool :=
  match o.guard with
  | none => some true
  | some (j, want) =>
    match (ops[j]?).bind (·.dst) with
    | none => none
    | some d => match a d with
      | .bool b => some (b == want)
      | .tuple ⟨[]⟩ => some false
      | _ => none

inductive OpsRun (P : Program) (C : CallRel) (N n : Nat) (ops : Array Oper) : List Nat → AAct → Heap → AAct → Heap → Prop
  | nil (a : AAct) (H : Heap) : OpsRun P C N n ops [] a H a H
  | op {i : Nat} {rest : List Nat} {o : Oper} {a a' : AAct} {H H1 H' : Heap} {v : Value} : ops[i]? = some o → wantedA ops o a = some true → OpStep P C N a H o.op v H1 →
      OpsRun P C N n ops rest (put n a o.dst v) H1 a' H' → OpsRun P C N n ops (i :: rest) a H a' H'
  | skip {i : Nat} {rest : List Nat} {o : Oper} {a a' : AAct} {H H' : Heap} : ops[i]? = some o → wantedA ops o a = some false →
      OpsRun P C N n ops rest (put n a o.dst undef) H a' H' → OpsRun P C N n ops (i :: rest) a H a' H'

inductive AExit where
  | normal | exit (id : Nat) | ret
  deriving DecidableEq

/-- Operations that look at no memory. -/
def pureOp : Op → Bool
  | .move _ | .assign _ | .pick .. | .build .. | .nilCheck _ | .binOp .. | .unOp .. | .makeInterface .. | .makeFunc .. | .slice .. | .fieldAddr .. | .field .. | .indexAddr .. | .index .. | .extract .. => true
  | .call c => match c.callee with | .builtin .min | .builtin .max => true | _ => false
  | _ => false

/-- The temporaries that an operation names. -/
def looks (ops : Array Oper) (o : Oper) : List Nat :=
  o.dst.toList ++ (o.op.operands.toList.filterMap fun | .tmp t => some t | _ => none) ++
    (match o.guard with | some (g, _) => ((ops[g]?).bind (·.dst)).toList | none => [])

def ordered (b : Array Nat) (i j : Nat) : Bool := (b.getD (max i j) 0).testBit (min i j)

/-- Edges lead back; operations that meet in a temporary stand in one order; behind the first k operations each one that looks at memory stands behind all such ones ahead of it. -/
def drawOk (ops : Array Oper) (k : Nat) : Bool :=
  let b := Region.before ops
  let r := List.range ops.size
  (r.all fun i => (ops.getD i default).after.all fun e => !Region.binds .any e || e.on < i) &&
  (r.all fun i => match (ops.getD i default).dst with
    | none => true
    | some t => r.all fun j => i == j || !(looks ops (ops.getD j default)).contains t || ordered b i j) &&
  (r.all fun c => c < k || pureOp (ops.getD c default).op || (List.range c).all fun j => pureOp (ops.getD j default).op || (b.getD c 0).testBit j)

/-- As 'drawOk'; the loads in st may stand anywhere: they look where nothing is written. -/
def hush (st : List Nat) (i : Nat) (o : Oper) : Bool := pureOp o.op || st.contains i
def drawOkS (ops : Array Oper) (k : Nat) (st : List Nat) : Bool :=
  let b := Region.before ops
  let r := List.range ops.size
  (r.all fun i => (ops.getD i default).after.all fun e => !Region.binds .any e || e.on < i) &&
  (r.all fun i => match (ops.getD i default).dst with
    | none => true
    | some t => r.all fun j => i == j || !(looks ops (ops.getD j default)).contains t || ordered b i j) &&
  (r.all fun c => c < k || hush st c (ops.getD c default) || (List.range c).all fun j => hush st j (ops.getD j default) || (b.getD c 0).testBit j) &&
  (st.all fun j => Nat.blt j ops.size && (match (ops.getD j default).op with
    | .load _ (.tmp t) => r.all fun i => !((ops.getD i default).dst == some t)
    | _ => false))

/-- As 'drawOk'; the operations in st may stand elsewhere: what they give hangs on nothing that is written. -/
def drawOkC (ops : Array Oper) (k : Nat) (st : List Nat) : Bool :=
  let b := Region.before ops
  let r := List.range ops.size
  (r.all fun i => (ops.getD i default).after.all fun e => !Region.binds .any e || e.on < i) &&
  (r.all fun i => match (ops.getD i default).dst with
    | none => true
    | some t => r.all fun j => i == j || !(looks ops (ops.getD j default)).contains t || ordered b i j) &&
  (r.all fun c => c < k || hush st c (ops.getD c default) || (List.range c).all fun j => hush st j (ops.getD j default) || (b.getD c 0).testBit j)
/-- All that looks at memory, from k on and ahead of j, stands ahead of j. -/
def behind (ops : Array Oper) (k : Nat) (st : List Nat) (j : Nat) : Bool :=
  (List.range j).all fun i => i < k || hush st i (ops.getD i default) || ((Region.before ops).getD j 0).testBit i

/-- One place of a run in the text's order. -/
def At (P : Program) (C : CallRel) (n : Nat) (ops : Array Oper) (M : Nat) (A : Nat → AAct) (HH : Nat → Heap) (V : Nat → Value) (i : Nat) : Prop :=
  ∃ o, ops[i]? = some o ∧ A (i + 1) = put n (A i) o.dst (V i) ∧
    ((wantedA ops o (A i) = some true ∧ OpStep P C M (A i) (HH i) o.op (V i) (HH (i + 1))) ∨ (wantedA ops o (A i) = some false ∧ V i = undef ∧ HH (i + 1) = HH i))
/-- The operation j gives the same wherever it stands. -/
def Calm (P : Program) (C : CallRel) (ops : Array Oper) (k : Nat) (st : List Nat) (A : Nat → AAct) (HH : Nat → Heap) (V : Nat → Value) (j : Nat) (o : Oper) : Prop :=
  wantedA ops o (A j) = some true → HH (j + 1) = HH j ∧ ∀ c, k ≤ c → c ≤ ops.size → (behind ops k st j = true → j ≤ c) → OpStep P C (HH c).size (A j) (HH c) o.op (V j) (HH c)

/-- As 'OpsRun', each operation leaving what is there as it is. -/
inductive QuietRun (P : Program) (C : CallRel) (n : Nat) (ops : Array Oper) : List Nat → AAct → Heap → AAct → Heap → Prop
  | nil (a : AAct) (H : Heap) : QuietRun P C n ops [] a H a H
  | op {i : Nat} {rest : List Nat} {o : Oper} {a a' : AAct} {H H1 H' : Heap} {v : Value} : ops[i]? = some o → wantedA ops o a = some true → OpStep P C H.size a H o.op v H1 →
      QuietRun P C n ops rest (put n a o.dst v) H1 a' H' → QuietRun P C n ops (i :: rest) a H a' H'
  | skip {i : Nat} {rest : List Nat} {o : Oper} {a a' : AAct} {H H' : Heap} : ops[i]? = some o → wantedA ops o a = some false →
      QuietRun P C n ops rest (put n a o.dst undef) H a' H' → QuietRun P C n ops (i :: rest) a H a' H'

inductive Run (P : Program) (C : CallRel) (N : Nat) (fn : FuncId) (n : Nat) (top : Bool) : Code → AAct → Heap → AExit → AAct → Heap → Prop
  | skip (a : AAct) (H : Heap) : Run P C N fn n top .skip a H .normal a H
  | region {id : Nat} {ops : Array Oper} {a a' : AAct} {H H' : Heap} : OpsRun P C N n ops (List.range ops.size) a H a' H' → Run P C N fn n top (.region id ops false) a H .normal a' H'
  | quiet {id k : Nat} {ops : Array Oper} {a a1 a' : AAct} {H H1 H' : Heap} : (Region.departs ops = false ∨ P.follows .mixedOrders = true) → drawOk ops k = true → k ≤ ops.size →
      QuietRun P C n ops (List.range k) a H a1 H1 → OpsRun P C N n ops ((List.range ops.size).drop k) a1 H1 a' H' → Run P C N fn n top (.region id ops true) a H .normal a' H'
  | late {id k N2 : Nat} {st : List Nat} {ops : Array Oper} {a a1 a' : AAct} {H H1 H' : Heap} : (Region.departs ops = false ∨ P.follows .mixedOrders = true) → drawOkS ops k st = true → k ≤ ops.size → N ≤ N2 → N2 ≤ H.size →
      (∀ j ∈ st, ∀ t r, (ops.getD j default).op = .load t (.tmp r) → ∃ b o, a r = .pointer (some ⟨b, o, none⟩) ∧ b < N2) →
      QuietRun P C n ops (List.range k) a H a1 H1 → OpsRun P C N2 n ops ((List.range ops.size).drop k) a1 H1 a' H' → Run P C N fn n top (.region id ops true) a H .normal a' H'
  | calm {id k : Nat} {st : List Nat} {ops : Array Oper} (A : Nat → AAct) (HH : Nat → Heap) (V : Nat → Value) : (Region.departs ops = false ∨ P.follows .mixedOrders = true) → drawOkC ops k st = true → k ≤ ops.size →
      (∀ i, i < k → At P C n ops (HH i).size A HH V i) → (∀ i, k ≤ i → i < ops.size → At P C n ops N A HH V i) → (∀ j o, ops[j]? = some o → st.contains j = true → Calm P C ops k st A HH V j o) →
      Run P C N fn n top (.region id ops true) (A 0) (HH 0) .normal (A ops.size) (HH ops.size)
  | draw {id : Nat} {ops : Array Oper} {a a' : AAct} {H H' : Heap} : (∀ t, OpsRun P C N n ops (Region.schedule (P.follows .mixedOrders) ops t) a H a' H') → Run P C N fn n top (.region id ops true) a H .normal a' H'
  | seq {x y : Code} {e : AExit} {a a1 a' : AAct} {H H1 H' : Heap} : Run P C N fn n top x a H .normal a1 H1 → Run P C N fn n top y a1 H1 e a' H' → Run P C N fn n top (.seq x y) a H e a' H'
  | seqx {x y : Code} {e : AExit} {a a' : AAct} {H H' : Heap} : Run P C N fn n top x a H e a' H' → e ≠ .normal → Run P C N fn n top (.seq x y) a H e a' H'
  | cond {c : Operand} {x y : Code} {b : Bool} {e : AExit} {a a' : AAct} {H H' : Heap} : ev a c = .bool b → Run P C N fn n top (if b then x else y) a H e a' H' → Run P C N fn n top (.cond c x y) a H e a' H'
  | block {id : Nat} {c : Code} {e : AExit} {a a' : AAct} {H H' : Heap} : Run P C N fn n top c a H e a' H' → Run P C N fn n top (.block id c) a H (if e = .exit id then .normal else e) a' H'
  | loop {c : Code} {e : AExit} {a a1 a' : AAct} {H H1 H' : Heap} : Run P C N fn n top c a H .normal a1 H1 → Run P C N fn n top (.loop c) a1 H1 e a' H' → Run P C N fn n top (.loop c) a H e a' H'
  | loopx {c : Code} {e : AExit} {a a' : AAct} {H H' : Heap} : Run P C N fn n top c a H e a' H' → e ≠ .normal → Run P C N fn n top (.loop c) a H e a' H'
  | exit (id : Nat) (a : AAct) (H : Heap) : Run P C N fn n top (.exit id) a H (.exit id) a H
  | ret (a : AAct) (H : Heap) : Run P C N fn n top .ret a H .ret a H
  | rangeDone {f : Operand} {params : Array Nat} {assign body : Code} {a : AAct} {g : Fn} {cap : Array Value} {v : Value} {H H2 : Heap} : top = true → ev a f = .func g #[] cap →
      C N g (.func (.yield H.size) #[] #[] :: cap.toList) (H.push (.loop fn n a params.toList assign body .ready)) v H2 →
      H2[H.size]? = some (.loop fn n a params.toList assign body .ready) →
      Run P C N fn n top (.rangeFunc f params assign body) a H .normal a (H2.setIfInBounds H.size (.loop fn n a params.toList assign body .over))
  | rangeRet {f : Operand} {params : Array Nat} {assign body : Code} {a : AAct} {g : Fn} {cap : Array Value} {v : Value} {H H2 : Heap} : top = true → ev a f = .func g #[] cap →
      C N g (.func (.yield H.size) #[] #[] :: cap.toList) (H.push (.loop fn n a params.toList assign body .ready)) v H2 →
      H2[H.size]? = some (.loop fn n a params.toList assign body (.done .ret)) →
      Run P C N fn n top (.rangeFunc f params assign body) a H .ret a (H2.setIfInBounds H.size (.loop fn n a params.toList assign body .over))
  | rangeExit {f : Operand} {params : Array Nat} {assign body : Code} {a : AAct} {g : Fn} {cap : Array Value} {v : Value} {H H2 : Heap} {id : Nat} : top = true → ev a f = .func g #[] cap →
      C N g (.func (.yield H.size) #[] #[] :: cap.toList) (H.push (.loop fn n a params.toList assign body .ready)) v H2 →
      H2[H.size]? = some (.loop fn n a params.toList assign body (.done (.exit id))) →
      Run P C N fn n top (.rangeFunc f params assign body) a H (.exit id) a (H2.setIfInBounds H.size (.loop fn n a params.toList assign body .over))

def enterA (args : List Value) : AAct := fun t => args.getD t undef

/-- One result variable. -/
def resV (P : Program) (a : AAct) (H : Heap) : ResultVar → Option Value
  | .tmp t => some (a t)
  | .cell x ty =>
    match a x with
    | .pointer (some ⟨i, o, none⟩) =>
      match H[i]?, kindOf P ty with
      | some (.cells vs _ _), some k => ldv vs k o
      | _, _ => none
    | _ => none

def resA (P : Program) (rs : List ResultVar) (a : AAct) (H : Heap) : Option Value :=
  match rs.mapM (resV P a H) with
  | some [v] => some v
  | some vs => some (.tuple vs.toArray)
  | none => none

/-- One step of the calls' relation. -/
def CallF (P : Program) (C : CallRel) : CallRel := fun N fn args H v H' =>
  match fn with
  | .func f =>
    (∃ func code e a', P.funcs[f]? = some func ∧ func.body = some code ∧ (func.name == "runtime.NumGoroutine") = false ∧ args.length ≤ func.ntmps ∧
      Run P C N f func.ntmps true code (enterA args) H e a' H' ∧ (e = .normal ∨ e = .ret) ∧ resA P func.results.toList a' H' = some v) ∨
    (ExternOk P f args v ∧ H' = H)
  | .yield l =>
    ∃ fn n a params assign body e a1 a2 H1 H3, N ≤ l ∧ H[l]? = some (.loop fn n a params assign body .ready) ∧ args.length = params.length ∧
      Run P C N fn n false assign ((params.zip args).foldl (fun a p => put n a (some p.1) p.2) a) H .normal a1 H1 ∧ H1[l]? = some (.loop fn n a params assign body .ready) ∧
      Run P C N fn n false body a1 (H1.setIfInBounds l (.loop fn n a params assign body .busy)) e a2 H3 ∧ H3[l]? = some (.loop fn n a params assign body .busy) ∧
      ((e = .normal ∧ v = .bool true ∧ H' = H3.setIfInBounds l (.loop fn n a params assign body .ready)) ∨
       (e = .ret ∧ v = .bool false ∧ H' = H3.setIfInBounds l (.loop fn n a params assign body (.done .ret))) ∨
       (∃ id, e = .exit id ∧ v = .bool false ∧ H' = H3.setIfInBounds l (.loop fn n a params assign body (.done (.exit id)))))
  | _ => False

/-- The least relation that is closed under 'CallF'. -/
def Call (P : Program) : CallRel := fun N fn args H v H' =>
  ∀ C : CallRel, (∀ N fn args H v H', CallF P C N fn args H v H' → C N fn args H v H') → C N fn args H v H'

end Go.Proofs.Ytcapjjmikapmfaa.M
