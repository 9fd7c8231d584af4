/- Making, copying and changing slices of bytes; maps; closures: rules for the walk. -/
import Derived.Test.YtcapjjmikapmfaaMv
import Derived.Test.YtcapjjmikapmfaaMy
set_option linter.unusedVariables false
set_option linter.unusedSimpArgs false
namespace Go.Proofs.Ytcapjjmikapmfaa.M
open Go Go.Proofs

/-! ### Operations that are used seldom -/
def makeK (P : Program) (t : TypeId) (x y : Value) (H : Heap) (K : Value → Heap → Prop) : Prop :=
  ∃ v H', (∃ e z bt zs kl kc n m, P.underlying t = some (.slice e) ∧ szOf P e = some z ∧ bytesOf P e = some bt ∧ zc P e = some zs ∧
      x = .int kl (n : Nat) ∧ y = .int kc (m : Nat) ∧ n ≤ m ∧ m ≤ 2 ^ 48 ∧ m * bt ≤ 281474976710656 ∧
      v = .slice (some ⟨H.size, 0, some z⟩) n m ∧ H' = H.push (.cells (((Array.range (m * z)).map (fun i => zs.toArray[i % zs.toArray.size]!)).toList) true true)) ∧ K v H'
def lookK (P : Program) (t : TypeId) (m k : Value) (ok : Bool) (H : Heap) (K : Value → Heap → Prop) : Prop :=
  ∃ v H', (∃ kt e es z r, P.underlying t = some (.map kt e) ∧ entriesA H m = some es ∧ keyTy P kt k = true ∧ zeroV P e = some z ∧ findA k es 0 = some r ∧ v = lookV ok z r ∧ H' = H) ∧ K v H'
def updK (P : Program) (N : Nat) (t : TypeId) (m k x : Value) (H : Heap) (K : Value → Heap → Prop) : Prop :=
  ∃ v H', (∃ kt e i es r, P.underlying t = some (.map kt e) ∧ m = .map (some i) ∧ N ≤ i ∧ H[i]? = some (.map es) ∧ keyTy P kt k = true ∧ findA k es 0 = some r ∧ v = undef ∧
      H' = H.setIfInBounds i (.map (updM es r k x))) ∧ K v H'
def delK (P : Program) (N : Nat) (t : TypeId) (m k : Value) (H : Heap) (K : Value → Heap → Prop) : Prop :=
  ∃ v H', (∃ kt e i es r, P.underlying t = some (.map kt e) ∧ m = .map (some i) ∧ N ≤ i ∧ H[i]? = some (.map es) ∧ keyTy P kt k = true ∧ findA k es 0 = some r ∧ v = .tuple #[] ∧
      H' = H.setIfInBounds i (.map (delM es r))) ∧ K v H'

section
variable {P : Program} {N : Nat} {a : AAct} {H : Heap} {K : Value → Heap → Prop} (x y z : Operand)
@[go_sem] theorem wop_makeSlice (t : TypeId) : wop P N (.makeSlice t x y) a H K = makeK P t (ev a x) (ev a y) H K := (rfl)
@[go_sem] theorem wop_lookup (t : TypeId) (ok : Bool) : wop P N (.lookup t x y ok) a H K = lookK P t (ev a x) (ev a y) ok H K := (rfl)
@[go_sem] theorem wop_mapUpdate (t : TypeId) : wop P N (.mapUpdate t x y z) a H K = updK P N t (ev a x) (ev a y) (ev a z) H K := (rfl)
@[go_sem] theorem wop_makeMap (t : TypeId) : wop P N (.makeMap t none) a H K = K (.map (some H.size)) (H.push (.map [])) := by
  apply propext
  constructor
  · rintro ⟨v, H', ⟨_, rfl, rfl⟩, h⟩; exact h
  · intro h; exact ⟨_, _, ⟨rfl, rfl, rfl⟩, h⟩
@[go_sem] theorem wop_makeFunc (f : FuncId) (l : List Operand) : wop P N (.makeFunc (.func f) ⟨[]⟩ ⟨l⟩) a H K = K (.func (.func f) #[] ⟨l.map (ev a)⟩) H := by
  apply propext
  constructor
  · rintro ⟨v, H', ⟨_, _, rfl, rfl⟩, h⟩; simpa using h
  · intro h; exact ⟨_, _, ⟨⟨f, rfl⟩, rfl, by simp, rfl⟩, h⟩
@[go_sem] theorem wop_delete (t t' : TypeId) : wop P N (.call ⟨.builtin .delete, ⟨[x, y]⟩, ⟨[t, t']⟩⟩) a H K = delK P N t (ev a x) (ev a y) H K := by
  apply propext
  constructor
  · rintro ⟨v, H', ⟨t1, t1', m, k, kt, e, i, es, r, h1, h2, h3⟩, h⟩
    cases h1; cases h2
    exact ⟨v, H', ⟨kt, e, i, es, r, h3⟩, h⟩
  · rintro ⟨v, H', ⟨kt, e, i, es, r, h3⟩, h⟩
    exact ⟨v, H', ⟨t, t', x, y, kt, e, i, es, r, rfl, rfl, h3⟩, h⟩
end

theorem look_40 {H : Heap} {j : Nat} {es : List (Int × Int)} (hj : H[j]? = some (.map (es.map kv))) (k : Int) {K : Value → Heap → Prop} (h : K (.int .i64 (getM es k)) H) : lookK Try.prog 40 (.map (some j)) (.int .i64 k) false H K :=
  ⟨_, _, ⟨3, 3, es.map kv, .int .i64 0, _, Try.underlying40, by simp [entriesA, hj], by simp [keyTy, Try.underlying3], by kernel_rfl, findA_kv es k 0, (look_kv es k 0).symm, rfl⟩, h⟩
theorem upd_40 {N : Nat} {H : Heap} {j : Nat} {es : List (Int × Int)} (hN : N ≤ j) (hj : H[j]? = some (.map (es.map kv))) (k x : Int) {K : Value → Heap → Prop} (h : K undef (H.setIfInBounds j (.map ((setM es k x).map kv)))) : updK Try.prog N 40 (.map (some j)) (.int .i64 k) (.int .i64 x) H K :=
  ⟨_, _, ⟨3, 3, j, es.map kv, _, Try.underlying40, rfl, hN, hj, by simp [keyTy, Try.underlying3], findA_kv es k 0, rfl, by rw [upd_kv]⟩, h⟩
theorem del_40 {N : Nat} {H : Heap} {j : Nat} {es : List (Int × Int)} (hN : N ≤ j) (hj : H[j]? = some (.map (es.map kv))) (k : Int) {K : Value → Heap → Prop} (h : K (.tuple #[]) (H.setIfInBounds j (.map ((dropM es k).map kv)))) : delK Try.prog N 40 (.map (some j)) (.int .i64 k) H K :=
  ⟨_, _, ⟨3, 3, j, es.map kv, _, Try.underlying40, rfl, hN, hj, by simp [keyTy, Try.underlying3], findA_kv es k 0, rfl, by rw [del_kv]⟩, h⟩

/-! ### Bytes that may be changed -/

/-- A slice of the call's own that nobody else writes. -/
def OE (H : Heap) (B : Nat) (v : Value) (xs : List (BitVec 8)) : Prop :=
  ∃ i o c vs, v = .slice (some ⟨i, o, some 1⟩) xs.length c ∧ xs.length ≤ c ∧ B ≤ i ∧ H[i]? = some (.cells vs true true) ∧ vs.drop o = xs.map u8 ∧ o ≤ vs.length

theorem OE.ow {H : Heap} {B : Nat} {v : Value} {xs : List (BitVec 8)} (h : OE H B v xs) : Ow H B v xs := by
  obtain ⟨i, o, c, vs, h1, h2, h3, h4, h5, h6⟩ := h
  exact .inr ⟨i, o, c, true, vs, by simpa using h1, by simpa using h2, h3, h4, h5, h6⟩
theorem OE.sl {H : Heap} {B : Nat} {v : Value} {xs : List (BitVec 8)} (h : OE H B v xs) : Sl H v xs := OV.sv h.ow
theorem OE.keep {H H' : Heap} {B : Nat} {v : Value} {xs : List (BitVec 8)} (h : OE H B v xs) (hk : ∀ j, j < H.size → blockOf v = some j → H'[j]? = H[j]?) : OE H' B v xs := by
  obtain ⟨i, o, c, vs, h1, h2, h3, h4, h5, h6⟩ := h
  exact ⟨i, o, c, vs, h1, h2, h3, by rw [hk i (get_lt h4) (by rw [h1]; rfl)]; exact h4, h5, h6⟩
theorem OE.block {H : Heap} {B : Nat} {v : Value} {xs : List (BitVec 8)} (h : OE H B v xs) : ∃ i, blockOf v = some i ∧ B ≤ i ∧ i < H.size := by
  obtain ⟨i, o, c, vs, h1, h2, h3, h4, h5, h6⟩ := h
  exact ⟨i, by rw [h1]; rfl, h3, get_lt h4⟩
theorem OE.new {H : Heap} {B : Nat} (hB : B ≤ H.size) (xs : List (BitVec 8)) (c : Nat) (hc : xs.length ≤ c) : OE (H.push (.cells (xs.map u8) true true)) B (.slice (some ⟨H.size, 0, some 1⟩) xs.length c) xs :=
  ⟨H.size, 0, c, _, rfl, hc, hB, get_push_new, rfl, Nat.zero_le _⟩

theorem wr_one (vs : List Value) (o : Nat) (x : Value) (h : o < vs.length) : wr vs o [x] = vs.set o x := by
  unfold wr
  rw [List.set_eq_take_append_cons_drop, if_pos h]
  simp

theorem Rd.set {H H' : Heap} {i : Nat} {vs : List Value} {ex tl : Bool} (hs : H'.size = H.size) (hk : ∀ j, j ≠ i → H'[j]? = H[j]?) (hi : H'[i]? = some (.cells vs ex tl)) : True := trivial

/-- An element is changed. -/
theorem OE.elem {H : Heap} {B : Nat} {v : Value} {xs : List (BitVec 8)} (h : OE H B v xs) {k : Int} (h0 : 0 ≤ k) (hk : k.toNat < xs.length) :
    ∃ ad, indexAddrA Try.prog 47 v (.int .i64 k) = some (.pointer (some ad)) ∧ (∀ K, loadK Try.prog 5 (.pointer (some ad)) H K = K (u8 (xs[k.toNat])) H) ∧
      ∀ (N : Nat) (x : BitVec 8) (K : Value → Heap → Prop), N ≤ B → (∀ H', H'.size = H.size → (∀ j, blockOf v ≠ some j → H'[j]? = H[j]?) → OE H' B v (xs.set k.toNat x) → K undef H') → storeK Try.prog N 5 (.pointer (some ad)) (u8 x) H K := by
  obtain ⟨i, o, c, vs, rfl, hc, hB, hi, hd, ho⟩ := h
  have hlen : o + xs.length = vs.length := by have := congrArg List.length hd; simp at this; omega
  have hget : vs[o + k.toNat]? = some (u8 xs[k.toNat]) := by
    have := congrArg (fun l : List Value => l[k.toNat]?) hd
    simp only [List.getElem?_drop, List.getElem?_map] at this
    rw [this, List.getElem?_eq_getElem hk]; rfl
  refine ⟨⟨i, o + k.toNat * 1, none⟩, ?_, fun K => ?_, fun N x K hN hK => ?_⟩
  · simp only [indexAddrA, Try.underlying47, intA, sz_5]
    rw [if_pos ⟨h0, by omega⟩]
  · simp only [loadK, hi, kind_5, ldv, Nat.mul_one, hget, optK]
  · have hil := get_lt hi
    simp only [storeK, hi, sz_5, Nat.mul_one]
    have hst : stc 1 (u8 x) = some [u8 x] := rfl
    rw [hst]
    simp only [List.length_cons, List.length_nil]
    refine ⟨by omega, by omega, hK _ (by simp) (fun j hj => ?_) ?_⟩
    · rw [Array.getElem?_setIfInBounds_ne (fun hij => hj (by rw [hij]; rfl))]
    · refine ⟨i, o, c, vs.set (o + k.toNat) (u8 x), by simp, by simpa using hc, hB, ?_, ?_, by simpa using ho⟩
      · rw [wr_one _ _ _ (by omega), Array.getElem?_setIfInBounds, if_pos rfl, if_pos hil]
      · rw [List.drop_set, if_neg (by omega), hd, Nat.add_sub_cancel_left, List.map_set]

theorem zeros_47 (n : Nat) : ((Array.range (n * 1)).map (fun i => ([u8 0] : List Value).toArray[i % ([u8 0] : List Value).toArray.size]!)).toList = (List.replicate n (0#8 : BitVec 8)).map u8 := by
  apply List.ext_getElem?
  intro k
  by_cases h : k < n
  · simp [h, Nat.mod_one]
  · simp [h]

/-- make. -/
theorem make_bytes {n : Int} (h0 : 0 ≤ n) (h1 : n ≤ 281474976710656) {H : Heap} {K : Value → Heap → Prop} (hK : ∀ v H', H' = H.push (.cells ((List.replicate n.toNat (0#8 : BitVec 8)).map u8) true true) → OE H' H.size v (List.replicate n.toNat 0#8) → blockOf v = some H.size → K v H') : makeK Try.prog 47 (.int .i64 n) (.int .i64 n) H K := by
  obtain ⟨m, rfl⟩ := Int.eq_ofNat_of_zero_le h0
  have ho := OE.new (Nat.le_refl H.size) (List.replicate m (0#8 : BitVec 8)) m (by simp)
  rw [List.length_replicate] at ho
  refine ⟨_, _, ⟨5, 1, 1, [u8 0], .i64, .i64, m, m, Try.underlying47, sz_5, bt_5, zc_5, rfl, rfl, Nat.le_refl _, by omega, by omega, rfl, rfl⟩, ?_⟩
  rw [zeros_47]
  exact hK _ _ rfl ho rfl

theorem srcA_take {H : Heap} {n m : Nat} {x : Value} {xs : List Value} (h : srcA H 1 n x = some xs) (hm : m ≤ n) : srcA H 1 m x = some (xs.take m) := by
  unfold srcA at h
  split at h
  · split at h
    · rename_i hi'
      split at h
      · simp only [srcA, hi']
        rw [if_pos (by omega)]
        cases h
        rw [List.take_take]
        congr 2
        omega
      · cases h
    · cases h
  · cases h; simp [srcA]
  · rename_i s
    simp only [srcA]
    cases h
    congr 1
    apply List.ext_getElem?
    intro k
    have hd : ∀ n, (s.extract 0 n).data = s.data.extract 0 n := fun n => by simp [ByteArray.extract, ByteArray.copySlice]
    have hss : s.size = s.data.size := rfl
    simp only [hd, Array.getElem?_toList, Array.getElem?_map, List.getElem?_take, Array.getElem?_extract]
    by_cases hk : k < m
    · by_cases hk2 : k < s.data.size
      · have e1 : k < min m s.data.size - 0 := by omega
        have e2 : k < min n s.data.size - 0 := by omega
        rw [if_pos e1, if_pos e2, if_pos hk]
      · have e1 : ¬ k < min m s.data.size - 0 := by omega
        have e2 : ¬ k < min n s.data.size - 0 := by omega
        rw [if_neg e1, if_neg e2, if_pos hk]
    · have e1 : ¬ k < min m s.data.size - 0 := by omega
      rw [if_neg e1, if_neg hk]; rfl
  · cases h

/-- copy. -/
theorem copy_raw {N : Nat} {H : Heap} {i o len c : Nat} {vs : List Value} {tl : Bool} (hi : H[i]? = some (.cells vs true tl)) (hlen : o + len ≤ vs.length) (hN : N ≤ i) {x : Value} {ys : List (BitVec 8)} (hx : Sl H x ys) {K : Value → Heap → Prop}
    (hK : ∀ H', H'.size = H.size → (∀ j, j ≠ i → H'[j]? = H[j]?) → H'[i]? = some (.cells (wr vs o ((ys.take len).map u8)) true tl) → K (.int .i64 (min ys.length len : Nat)) H') : copyK Try.prog N 47 (.slice (some ⟨i, o, some 1⟩) len c) x H K := by
  obtain ⟨h1, h2⟩ := SV.src hx
  have hil := get_lt hi
  simp only [List.length_map] at h1 h2
  by_cases h0 : len = 0 ∨ ys.length = 0
  · refine ⟨_, _, .nothing 5 1 _ len c ys.length Try.underlying47 sz_5 rfl h1 h0, ?_⟩
    have hm : min ys.length len = 0 := by omega
    have ht : ys.take len = [] := by
      rcases h0 with h0 | h0
      · simp [h0]
      · have : ys = [] := List.eq_nil_of_length_eq_zero h0
        simp [this]
    have := hK H rfl (fun _ _ => rfl) (by rw [ht]; simpa [wr] using hi)
    rw [hm] at this
    exact this
  · have hne : ys.map u8 ≠ [] := by
      intro e
      have e2 : ys = [] := by simpa using e
      rw [e2] at h0; simp at h0
    have hs := h2 hne
    have hsrc : srcA H 1 (min ys.length len) x = some ((ys.take len).map u8) := by
      rw [srcA_take hs (Nat.min_le_left _ _), ← List.map_take]
      have e : ys.take (min ys.length len) = ys.take len := by rw [← List.take_take, List.take_of_length_le (by simp; omega)]
      rw [e]
    refine ⟨_, _, .some 5 1 ((ys.take len).map u8) vs i o len c ys.length tl Try.underlying47 sz_5 rfl h1 hsrc (by simp [Nat.min_comm]) (all_u8 _) hN hi (by omega), ?_⟩
    exact hK _ (by simp) (fun j hj => by rw [Array.getElem?_setIfInBounds_ne (fun e => hj e.symm)]) (by rw [Array.getElem?_setIfInBounds, if_pos rfl, if_pos hil])

/-- copy to what lies behind the first k bytes. -/
theorem OE.copy_at {H : Heap} {B : Nat} {v : Value} {xs : List (BitVec 8)} (h : OE H B v xs) {k : Int} (h0 : 0 ≤ k) (hk : k.toNat ≤ xs.length) :
    ∃ d, sliceA Try.prog 47 v (some (.int .i64 k)) none none = some d ∧ ∀ (N : Nat) (x : Value) (ys : List (BitVec 8)) (K : Value → Heap → Prop), N ≤ B → Sl H x ys →
      (∀ H', H'.size = H.size → (∀ j, blockOf v ≠ some j → H'[j]? = H[j]?) → OE H' B v (xs.take k.toNat ++ (ys.take (xs.length - k.toNat) ++ xs.drop (k.toNat + ys.length))) → K (.int .i64 (min ys.length (xs.length - k.toNat) : Nat)) H') → copyK Try.prog N 47 d x H K := by
  obtain ⟨i, o, c, vs, rfl, hc, hB, hi, hd, ho⟩ := h
  have hlen : o + xs.length = vs.length := by have := congrArg List.length hd; simp at this; omega
  have h2 : k ≤ xs.length := by omega
  refine ⟨.slice (some ⟨i, o + k.toNat * 1, some 1⟩) (xs.length - k.toNat) (c - k.toNat), by simp [sliceA, Try.underlying47, sz_5, boundsA, boundA, intA, h0, h2], fun N x ys K hN hx hK => ?_⟩
  refine copy_raw hi (by omega) (by omega) hx fun H' hs hj hi' => hK H' hs (fun j hne => hj j fun e => hne (by rw [e]; rfl)) ?_
  refine ⟨i, o, c, _, ?_, ?_, hB, hi', ?_, ?_⟩
  · congr 1
    simp; omega
  · simp; omega
  · unfold wr
    have e1 : (vs.take (o + k.toNat * 1)).length = o + k.toNat := by simp; omega
    rw [List.append_assoc, List.drop_append_of_le_length (by omega), List.drop_take, hd]
    simp only [List.map_append, List.map_take, List.map_drop, Nat.mul_one, Nat.add_sub_cancel_left]
    congr 2
    rw [← hd, List.drop_drop]
    simp only [List.length_take, List.length_map]
    by_cases hle : ys.length ≤ xs.length - k.toNat
    · congr 1; omega
    · rw [List.drop_eq_nil_of_le (by omega), List.drop_eq_nil_of_le (by omega)]
  · unfold wr; simp; omega

/-- copy. -/
theorem OE.copy {H : Heap} {B : Nat} {v : Value} {xs : List (BitVec 8)} (h : OE H B v xs) {N : Nat} {x : Value} {ys : List (BitVec 8)} {K : Value → Heap → Prop} (hN : N ≤ B) (hx : Sl H x ys)
      (hK : ∀ H', H'.size = H.size → (∀ j, blockOf v ≠ some j → H'[j]? = H[j]?) → OE H' B v (ys.take xs.length ++ xs.drop ys.length) → K (.int .i64 (min ys.length xs.length : Nat)) H') : copyK Try.prog N 47 v x H K := by
  obtain ⟨d, h1, h2⟩ := h.copy_at (k := 0) (Int.le_refl _) (Nat.zero_le _)
  obtain ⟨i, o, c, vs, rfl, hc, hB, hi, hd, ho⟩ := h
  have hd' : d = .slice (some ⟨i, o, some 1⟩) xs.length c := by
    simp [sliceA, Try.underlying47, sz_5, boundsA, boundA, intA] at h1
    exact h1.symm
  subst hd'
  refine h2 N x ys K hN hx fun H' g1 g2 g3 => ?_
  have := hK H' g1 g2 (by simpa using g3)
  simpa using this

/-- append of zeros. -/
theorem appendZ_bytes {N B : Nat} {H : Heap} {s : Value} {xs : List (BitVec 8)} {n : Int} {K : Value → Heap → Prop} (hs : Ow H B s xs) (h0 : 0 ≤ n) (hN : N ≤ B) (hB : B ≤ H.size) (hsz : xs.length + n ≤ 200000000000000)
    (hK : ∀ v' H', H.size ≤ H'.size → Rd H H' → (∀ j, j < H.size → blockOf s ≠ some j → H'[j]? = H[j]?) → Ow H' B v' (xs ++ List.replicate n.toNat 0#8) → K v' H') : appendZK Try.prog N 47 s (.int .i64 n) H K := by
  obtain ⟨m, rfl⟩ := Int.eq_ofNat_of_zero_le h0
  have hzc : (Builtin.zeroCells ([u8 0] : List Value).toArray m).toList = (List.replicate m (0#8 : BitVec 8)).map u8 := by
    apply List.ext_getElem?
    intro k
    by_cases h : k < m
    · simp [Builtin.zeroCells, h, Nat.mod_one]
    · simp [Builtin.zeroCells, h]
  by_cases hm : m = 0
  · subst hm
    obtain ⟨b, n, c, hse⟩ : ∃ b n c, s = .slice b n c := by
      rcases hs with ⟨rfl, _⟩ | ⟨i, o, c, ex, vs, rfl, _⟩ <;> exact ⟨_, _, _, rfl⟩
    exact ⟨s, H, .nothing 5 1 b n c .i64 Try.underlying47 sz_5 hse rfl, hK s H (Nat.le_refl _) (Rd.refl H) (fun _ _ _ => rfl) (by simpa using hs)⟩
  · rcases hs with ⟨rfl, hx⟩ | ⟨i, o, c, ex, vs, rfl, hc, hBi, hi, hd, ho⟩
    · have hx' : xs = [] := by simpa using hx
      subst hx'
      refine ⟨_, _, .mk 5 1 1 m [u8 0] .i64 Try.underlying47 sz_5 bt_5 zc_5 rfl rfl rfl (by omega) (by simp at hsz; omega) (by simp at hsz; omega), hK _ _ (by simp) (Rd.push H _) (fun j hj _ => get_push_old hj) ?_⟩
      rw [hzc]
      have := OV.new hB ((List.replicate m (0#8 : BitVec 8)).map u8) true m (by simp)
      simpa [Ow] using this
    · simp only [List.length_map] at hc hd
      have hvl : o + xs.length * 1 = vs.length := by have := congrArg List.length hd; simp at this; omega
      have hil := get_lt hi
      rw [List.length_map]
      refine ⟨_, _, .share 5 1 1 [u8 0] vs i o xs.length c m ex .i64 Try.underlying47 sz_5 bt_5 zc_5 rfl rfl rfl (by rw [hzc]; exact all_u8 _) (by omega) (by omega) (by omega) (by omega) (by omega) hi hvl, hK _ _ (by simp) ?_ (fun j hj hne => ?_) ?_⟩
      · intro j vs' ex' tl' hj
        have hjl := get_lt hj
        rw [get_push_old (by simpa using hjl), Array.getElem?_setIfInBounds]
        by_cases hji : i = j
        · subst hji
          rw [hi] at hj; cases hj
          rw [if_pos rfl, if_pos hil]
          exact ⟨_, _, rfl⟩
        · rw [if_neg hji]; exact ⟨ex', tl', hj⟩
      · rw [get_push_old (by simpa using hj), Array.getElem?_setIfInBounds_ne (fun hij => hne (by rw [hij]; rfl))]
      · rw [hd, hzc]
        have hpn : ∀ (h : Heap) (b : Blk), h.size = H.size → (h.push b)[H.size]? = some b := fun h b e => by rw [← e]; exact get_push_new
        exact .inr ⟨H.size, 0, xs.length + m, xs.length * 1 == 0, (xs.map u8) ++ (List.replicate m (0#8 : BitVec 8)).map u8, by simp, by simp, hB, hpn _ _ (by simp), by simp, Nat.zero_le _⟩

theorem appendK_mk {P : Program} {N : Nat} {t t' : TypeId} {s x : Value} {H : Heap} {K : Value → Heap → Prop} (h : nonInt P t') (k : ∃ v H', AppendA P N H t s x v H' ∧ K v H') : appendK P N t t' s x H K := ⟨h, k⟩

/-- Bytes appended to what is empty: nobody else writes what comes of it. -/
theorem append_fresh {N B : Nat} {H : Heap} {s x : Value} {ys : List (BitVec 8)} {K : Value → Heap → Prop} (hs : OE H B s []) (hx : Sl H x ys) (hN : N ≤ B) (hB : B ≤ H.size) (hsz : ys.length ≤ 200000000000000)
    (hK : ∀ v' H', H.size ≤ H'.size → Rd H H' → (∀ j, j < H.size → blockOf s ≠ some j → H'[j]? = H[j]?) → OE H' B v' ys → K v' H') : appendK Try.prog N 47 47 s x H K := by
  refine appendK_mk (by simp [nonInt, Try.underlying47]) ?_
  obtain ⟨hlen, hsrc⟩ := SV.src hx
  simp only [List.length_map] at hlen hsrc
  by_cases hy : ys = []
  · subst hy
    have hs2 := hs
    obtain ⟨i, o, c, vs, rfl, hc, hBi, hi, hd, ho⟩ := hs
    exact ⟨_, H, .nothing 5 1 _ _ c Try.underlying47 sz_5 rfl hlen, hK _ H (Nat.le_refl _) (Rd.refl H) (fun _ _ _ => rfl) hs2⟩
  · have hpos : 0 < ys.length := List.length_pos_iff.2 hy
    obtain ⟨i, o, c, vs, rfl, hc, hBi, hi, hd, ho⟩ := hs
    have hvl : o + 0 * 1 = vs.length := by have := congrArg List.length hd; simp at this; omega
    have hil := get_lt hi
    have hne : ys.map u8 ≠ [] := by simpa using hy
    refine ⟨_, _, .share 5 1 1 [u8 0] (ys.map u8) vs i o 0 c ys.length true Try.underlying47 sz_5 bt_5 zc_5 rfl rfl hlen (hsrc hne) (by simp) (all_u8 ys) (by omega) hpos (by omega) (by omega) (by omega) hi hvl, hK _ _ (by simp) ?_ (fun j hj hne => ?_) ?_⟩
    · intro j vs' ex' tl' hj
      have hjl := get_lt hj
      rw [get_push_old (by simpa using hjl), Array.getElem?_setIfInBounds]
      by_cases hji : i = j
      · subst hji
        rw [hi] at hj; cases hj
        rw [if_pos rfl, if_pos hil]
        exact ⟨_, _, rfl⟩
      · rw [if_neg hji]; exact ⟨ex', tl', hj⟩
    · rw [get_push_old (by simpa using hj), Array.getElem?_setIfInBounds_ne (fun hij => hne (by rw [hij]; rfl))]
    · have hpn : ∀ (h : Heap) (b : Blk), h.size = H.size → (h.push b)[H.size]? = some b := fun h b e => by rw [← e]; exact get_push_new
      exact ⟨H.size, 0, ys.length, vs.drop o ++ ys.map u8, by simp, Nat.le_refl _, hB, hpn _ _ (by simp), by simp [hd], Nat.zero_le _⟩

/-! ### Whole numbers, bit by bit; pointers -/
section
variable {P : Program} (t : TypeId) (m n : Int) (y : BitVec 64)
@[go_sem] theorem bin_shr_i : binA P .shr t (.int .i64 m) (u64 y) = some (.int .i64 (m.fdiv (2 ^ min y.toNat 64))) := by
  have h : ¬ ((y.toNat : Nat) : Int) < 0 := by omega
  simp [binA, u64, IntKind.bits]
@[go_sem] theorem bin_shl_i : binA P .shl t (.int .i64 m) (u64 y) = some (.int .i64 (IntKind.i64.wrap (m * 2 ^ min y.toNat 64))) := by
  have h : ¬ ((y.toNat : Nat) : Int) < 0 := by omega
  simp [binA, u64, IntKind.bits]
@[go_sem] theorem bin_or_i : binA P .or t (.int .i64 m) (.int .i64 n) = some (.int .i64 (IntKind.i64.wrap (BitVec.ofInt 64 m ||| BitVec.ofInt 64 n).toNat)) := (rfl)
@[go_sem] theorem bin_and_i : binA P .and t (.int .i64 m) (.int .i64 n) = some (.int .i64 (IntKind.i64.wrap (BitVec.ofInt 64 m &&& BitVec.ofInt 64 n).toNat)) := (rfl)
@[go_sem] theorem bin_xor_i : binA P .xor t (.int .i64 m) (.int .i64 n) = some (.int .i64 (IntKind.i64.wrap (BitVec.ofInt 64 m ^^^ BitVec.ofInt 64 n).toNat)) := (rfl)
end
@[go_sem] theorem eql_p31 (a : Option Addr) : binA Try.prog .eql 31 (.pointer a) (.pointer none) = some (.bool a.isNone) := by simp [binA, Try.underlying31]
@[go_sem] theorem eql_p33 (a : Option Addr) : binA Try.prog .eql 33 (.pointer a) (.pointer none) = some (.bool a.isNone) := by simp [binA, Try.underlying33]
@[go_sem] theorem eql_p74 (a : Option Addr) : binA Try.prog .eql 74 (.pointer a) (.pointer none) = some (.bool a.isNone) := by simp [binA, Try.underlying74]
@[go_sem] theorem eql_b4 (a b : Bool) : binA Try.prog .eql 4 (.bool a) (.bool b) = some (.bool (a == b)) := by simp [binA, Try.underlying4]
@[go_sem] theorem neq_b4 (a b : Bool) : binA Try.prog .neq 4 (.bool a) (.bool b) = some (.bool !(a == b)) := by simp [binA, Try.underlying4]
@[go_sem] theorem isNone_s (a : Addr) : (some a).isNone = false := (rfl)
@[go_sem] theorem isNone_n : (none : Option Addr).isNone = true := (rfl)

end Go.Proofs.Ytcapjjmikapmfaa.M
