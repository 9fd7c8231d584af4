/- Slices over M's heap: reading, slicing, appending. -/
import Derived.Test.YtcapjjmikapmfaaMt
set_option linter.unusedVariables false
set_option linter.unusedSimpArgs false
namespace Go.Proofs.Ytcapjjmikapmfaa.M
open Go Go.Proofs

/-! ### What can still be read -/

/-- Whatever could be read can be read as before. -/
def Rd (H H' : Heap) : Prop := ∀ (i : Nat) (vs : List Value) (ex tl : Bool), H[i]? = some (.cells vs ex tl) → ∃ ex' tl', H'[i]? = some (.cells vs ex' tl')

theorem Rd.refl (H : Heap) : Rd H H := fun i vs ex tl h => ⟨ex, tl, h⟩
theorem Rd.trans {H H1 H2 : Heap} (h : Rd H H1) (k : Rd H1 H2) : Rd H H2 := fun i vs ex tl e => let ⟨ex1, tl1, e1⟩ := h i vs ex tl e; k i vs ex1 tl1 e1
theorem Rd.keep {H H' : Heap} (h : ∀ i, i < H.size → H'[i]? = H[i]?) : Rd H H' := fun i vs ex tl e => ⟨ex, tl, by rw [h i (get_lt e)]; exact e⟩
theorem get_push_old {H : Heap} {b : Blk} {i : Nat} (h : i < H.size) : (H.push b)[i]? = H[i]? := by rw [Array.getElem?_push, if_neg (by omega)]
theorem get_push_new {H : Heap} {b : Blk} : (H.push b)[H.size]? = some b := by simp
theorem Rd.push (H : Heap) (b : Blk) : Rd H (H.push b) := .keep fun _ h => get_push_old h

theorem SV.mono {H H' : Heap} (r : Rd H H') {v : Value} {xs : List Value} (h : SV H v xs) : SV H' v xs := by
  rcases h with h | ⟨i, o, c, h1, h2, h3⟩
  · exact .inl h
  · refine .inr ⟨i, o, c, h1, h2, fun hne => ?_⟩
    obtain ⟨vs, ex, tl, h4, h5⟩ := h3 hne
    obtain ⟨ex', tl', h6⟩ := r i vs ex tl h4
    exact ⟨vs, ex', tl', h6, h5⟩
theorem Sl.mono {H H' : Heap} (r : Rd H H') {v : Value} {xs : List (BitVec 8)} (h : Sl H v xs) : Sl H' v xs := SV.mono r h

theorem SV.nil (H : Heap) : SV H (.slice none 0 0) [] := .inl ⟨rfl, rfl⟩
theorem Sl.nil (H : Heap) : Sl H (.slice none 0 0) [] := .inl ⟨rfl, rfl⟩

theorem SV.len {H : Heap} {v : Value} {xs : List Value} (h : SV H v xs) {P : Program} {t e : TypeId} (ht : P.underlying t = some (.slice e)) (H' : Heap) (K : Value → Heap → Prop) : lenK P t v H' K = K (.int .i64 (xs.length : Nat)) H' := by
  rcases h with ⟨rfl, rfl⟩ | ⟨i, o, c, rfl, _⟩ <;> simp [lenK, ht]
theorem Sl.len {H : Heap} {v : Value} {xs : List (BitVec 8)} (h : Sl H v xs) (H' : Heap) (K : Value → Heap → Prop) : lenK Try.prog 47 v H' K = K (.int .i64 (xs.length : Nat)) H' := by
  rw [SV.len h Try.underlying47]; simp

theorem SV.index {H : Heap} {v : Value} {xs : List Value} (h : SV H v xs) {P : Program} {t e : TypeId} (ht : P.underlying t = some (.slice e)) (hz : szOf P e = some 1) (hk : kindOf P e = some none) {k : Int} {x : Value} (h0 : 0 ≤ k) (hx : xs[k.toNat]? = some x) :
    ∃ ad, indexAddrA P t v (.int .i64 k) = some (.pointer (some ad)) ∧ ∀ K, loadK P e (.pointer (some ad)) H K = K x H := by
  have hlt := getL_lt hx
  rcases h with ⟨rfl, rfl⟩ | ⟨i, o, c, rfl, hc, hh⟩
  · simp at hx
  · obtain ⟨vs, ex, tl, h4, h5, h6⟩ := hh (by rintro rfl; simp at hx)
    refine ⟨⟨i, o + k.toNat * 1, none⟩, ?_, fun K => ?_⟩
    · simp only [indexAddrA, ht, intA, hz]
      rw [if_pos ⟨h0, by omega⟩]
    · simp only [loadK, h4, hk, ldv, Nat.mul_one, h6 _ _ hx, optK]

theorem Sl.index {H : Heap} {v : Value} {xs : List (BitVec 8)} (h : Sl H v xs) {k : Int} (h0 : 0 ≤ k) (hk : k.toNat < xs.length) :
    ∃ ad, indexAddrA Try.prog 47 v (.int .i64 k) = some (.pointer (some ad)) ∧ ∀ K, loadK Try.prog 5 (.pointer (some ad)) H K = K (u8 (xs[k.toNat])) H :=
  SV.index h Try.underlying47 sz_5 kind_5 h0 (by simp [hk])

theorem SV.slice {H : Heap} {v : Value} {xs : List Value} (hs : SV H v xs) {P : Program} {t e : TypeId} (ht : P.underlying t = some (.slice e)) (hz : szOf P e = some 1) {lo hi mx : Option Value} {l h : Nat} {m : Nat → Nat} (hl : l ≤ h) (hh : h ≤ xs.length)
    (hb : ∀ c, xs.length ≤ c → boundsA xs.length c lo hi mx = some (l, h, m c) ∧ h ≤ m c) : ∃ w, sliceA P t v lo hi mx = some w ∧ SV H w ((xs.take h).drop l) ∧ isNil w = isNil v := by
  rcases hs with ⟨rfl, rfl⟩ | ⟨i, o, c, rfl, hc, hx⟩
  · obtain ⟨h1, _⟩ := hb 0 (by simp)
    simp only [List.length_nil] at h1
    exact ⟨.slice none 0 0, by simp [sliceA, ht, hz, h1], .inl ⟨rfl, by simp⟩, rfl⟩
  · obtain ⟨h1, h2⟩ := hb c hc
    have hlen : ((xs.take h).drop l).length = h - l := by simp; omega
    refine ⟨.slice (some ⟨i, o + l * 1, some 1⟩) (h - l) (m c - l), by simp [sliceA, ht, hz, h1], .inr ⟨i, o + l * 1, m c - l, by rw [hlen], by omega, fun hne => ?_⟩, rfl⟩
    obtain ⟨vs, ex, tl, h4, h5, h6⟩ := hx (by rintro rfl; simp at hne)
    refine ⟨vs, ex, tl, h4, by omega, fun k x hk => ?_⟩
    rw [List.getElem?_drop, List.getElem?_take] at hk
    split at hk
    · have := h6 (l + k) x hk
      rw [← this]; congr 1; omega
    · cases hk

/-! ### Slices that may be appended to -/

def blockOf : Value → Option Nat
  | .slice (some a) _ _ => some a.block
  | _ => none

/-- A slice of the call's own, at the end of its window. -/
def OV (H : Heap) (B : Nat) (v : Value) (xs : List Value) : Prop :=
  (v = .slice none 0 0 ∧ xs = []) ∨
  ∃ i o c ex vs, v = .slice (some ⟨i, o, some 1⟩) xs.length c ∧ xs.length ≤ c ∧ B ≤ i ∧ H[i]? = some (.cells vs ex true) ∧ vs.drop o = xs ∧ o ≤ vs.length

theorem OV.nil (H : Heap) (B : Nat) : OV H B (.slice none 0 0) [] := .inl ⟨rfl, rfl⟩
theorem OV.new {H : Heap} {B : Nat} (hB : B ≤ H.size) (xs : List Value) (ex : Bool) (c : Nat) (hc : xs.length ≤ c) : OV (H.push (.cells xs ex true)) B (.slice (some ⟨H.size, 0, some 1⟩) xs.length c) xs :=
  .inr ⟨H.size, 0, c, ex, xs, rfl, hc, hB, get_push_new, rfl, Nat.zero_le _⟩

theorem OV.sv {H : Heap} {B : Nat} {v : Value} {xs : List Value} (h : OV H B v xs) : SV H v xs := by
  rcases h with h | ⟨i, o, c, ex, vs, h1, h2, h3, h4, h5, h6⟩
  · exact .inl h
  · refine .inr ⟨i, o, c, h1, h2, fun _ => ⟨vs, ex, true, h4, ?_, fun k x hk => ?_⟩⟩
    · have := congrArg List.length h5
      simp at this; omega
    · rw [← h5, List.getElem?_drop] at hk; exact hk

theorem OV.keep {H H' : Heap} {B : Nat} {v : Value} {xs : List Value} (h : OV H B v xs) (hk : ∀ j, j < H.size → blockOf v = some j → H'[j]? = H[j]?) : OV H' B v xs := by
  rcases h with h | ⟨i, o, c, ex, vs, h1, h2, h3, h4, h5, h6⟩
  · exact .inl h
  · refine .inr ⟨i, o, c, ex, vs, h1, h2, h3, ?_, h5, h6⟩
    rw [hk i (get_lt h4) (by rw [h1]; rfl)]; exact h4
theorem OV.push {H : Heap} {B : Nat} {v : Value} {xs : List Value} (h : OV H B v xs) (b : Blk) : OV (H.push b) B v xs := h.keep fun _ hj _ => get_push_old hj

theorem SV.src {H : Heap} {v : Value} {xs : List Value} (h : SV H v xs) : lenA v = some xs.length ∧ (xs ≠ [] → srcA H 1 xs.length v = some xs) := by
  rcases h with ⟨rfl, rfl⟩ | ⟨i, o, c, rfl, hc, hx⟩
  · exact ⟨rfl, fun h => absurd rfl h⟩
  · refine ⟨rfl, fun hne => ?_⟩
    obtain ⟨vs, ex, tl, h4, h5, h6⟩ := hx hne
    simp only [srcA, h4, Nat.mul_one, if_pos h5, Option.some.injEq]
    apply List.ext_getElem?
    intro k
    rw [List.getElem?_take]
    split
    · rename_i hk
      rw [List.getElem?_drop, List.getElem?_eq_getElem hk]
      exact h6 k _ (List.getElem?_eq_getElem hk)
    · rename_i hk
      rw [List.getElem?_eq_none (by omega)]

theorem appendK_own {P : Program} {N B : Nat} {t t' e bt : TypeId} {z0 : Value} {H : Heap} {s x : Value} {xs ys : List Value} {K : Value → Heap → Prop} (ht : P.underlying t = some (.slice e)) (hz : szOf P e = some 1) (hb : bytesOf P e = some bt) (hzc : zc P e = some [z0]) (hni : nonInt P t')
    (hs : OV H B s xs) (hx : SV H x ys) (hN : N ≤ B) (hB : B ≤ H.size) (hok : ys.all cellOk = true) (hsz : (xs.length + ys.length + (xs.length + ys.length) / 4 + 192) * bt ≤ 281474976710656) (hsz2 : xs.length + ys.length ≤ 2 ^ 48)
    (hK : ∀ v' H', H.size ≤ H'.size → Rd H H' → (∀ j, j < H.size → blockOf s ≠ some j → H'[j]? = H[j]?) → OV H' B v' (xs ++ ys) → ((v' = s ∧ H' = H ∧ ys = []) ∨ blockOf v' = some H.size) → K v' H') : appendK P N t t' s x H K := by
  refine ⟨hni, ?_⟩
  obtain ⟨hlen, hsrc⟩ := hx.src
  by_cases hy : ys = []
  · subst hy
    obtain ⟨b, n, c, hse⟩ : ∃ b n c, s = .slice b n c := by
      rcases hs with ⟨rfl, _⟩ | ⟨i, o, c, ex, vs, rfl, _⟩ <;> exact ⟨_, _, _, rfl⟩
    exact ⟨s, H, .nothing e 1 b n c ht hz hse hlen, hK s H (Nat.le_refl _) (Rd.refl H) (fun _ _ _ => rfl) (by simpa using hs) (.inl ⟨rfl, rfl, rfl⟩)⟩
  · have hpos : 0 < ys.length := List.length_pos_iff.2 hy
    rcases hs with ⟨rfl, rfl⟩ | ⟨i, o, c, ex, vs, rfl, hc, hBi, hi, hd, ho⟩
    · refine ⟨_, _, .new e 1 bt [z0] ys ys.length ht hz hb hzc rfl rfl hlen (hsrc hy) (by simp) hpos (by simpa using hsz2) (by simpa using hsz), hK _ _ (by simp) (Rd.push H _) (fun j hj _ => get_push_old hj) ?_ (.inr rfl)⟩
      exact OV.new hB ys true ys.length (Nat.le_refl _)
    · have hvl : o + xs.length * 1 = vs.length := by have := congrArg List.length hd; simp at this; omega
      have hil := get_lt hi
      refine ⟨_, _, .share e 1 bt [z0] ys vs i o xs.length c ys.length ex ht hz hb hzc rfl rfl hlen (hsrc hy) (by simp) hok (by omega) hpos hsz2 hsz (by omega) hi hvl, hK _ _ (by simp) ?_ (fun j hj hne => ?_) ?_ (.inr rfl)⟩
      · intro j vs' ex' tl' hj
        have hjl := get_lt hj
        rw [get_push_old (by simpa using hjl), Array.getElem?_setIfInBounds]
        by_cases hji : i = j
        · subst hji
          rw [hi] at hj; cases hj
          rw [if_pos rfl, if_pos hil]
          exact ⟨_, _, rfl⟩
        · rw [if_neg hji]; exact ⟨ex', tl', hj⟩
      · rw [get_push_old (by simpa using hj), Array.getElem?_setIfInBounds_ne (fun hij => hne (by rw [hij]; rfl))]
      · rw [hd]
        have hpn : ∀ (h : Heap) (b : Blk), h.size = H.size → (h.push b)[H.size]? = some b := fun h b e => by rw [← e]; exact get_push_new
        exact .inr ⟨H.size, 0, xs.length + ys.length, xs.length * 1 == 0, xs ++ ys, by simp, by simp, hB, hpn _ _ (by simp), rfl, Nat.zero_le _⟩

/-- The bytes that a call may append to. -/
def Ow (H : Heap) (B : Nat) (v : Value) (xs : List (BitVec 8)) : Prop := OV H B v (xs.map u8)

theorem all_u8 (xs : List (BitVec 8)) : (xs.map u8).all cellOk = true := by simp [List.all_eq_true, cellOk_u8]

theorem append_bytes {N B : Nat} {H : Heap} {s x : Value} {xs ys : List (BitVec 8)} {K : Value → Heap → Prop} (hs : Ow H B s xs) (hx : Sl H x ys) (hN : N ≤ B) (hB : B ≤ H.size) (hsz : xs.length + ys.length ≤ 200000000000000)
    (hK : ∀ v' H', H.size ≤ H'.size → Rd H H' → (∀ j, j < H.size → blockOf s ≠ some j → H'[j]? = H[j]?) → Ow H' B v' (xs ++ ys) → ((v' = s ∧ H' = H ∧ ys = []) ∨ blockOf v' = some H.size) → K v' H') : appendK Try.prog N 47 47 s x H K := by
  refine appendK_own (bt := 1) Try.underlying47 sz_5 bt_5 zc_5 ?_ hs hx hN hB (all_u8 ys) (by simp; omega) (by simp; omega) (fun v' H' h1 h2 h3 h4 h5 => hK v' H' h1 h2 h3 ?_ ?_)
  · simp [nonInt, Try.underlying47]
  · unfold Ow; rw [List.map_append]; exact h4
  · simpa using h5

@[go_sem] theorem buildSlice_1 (b : BitVec 8) (H : Heap) (K : Value → Heap → Prop) : buildSliceK Try.prog 47 1 [(0, u8 b)] H K = K (.slice (some ⟨H.size, 0, some 1⟩) 1 1) (H.push (.cells [u8 b] true true)) := by
  have : buildSliceA Try.prog 47 1 [(0, u8 b)] = some ([u8 b], 1) := by kernel_rfl
  simp only [buildSliceK, this]
@[go_sem] theorem buildSlice_0 (H : Heap) (K : Value → Heap → Prop) : buildSliceK Try.prog 47 0 [] H K = K (.slice (some ⟨H.size, 0, some 1⟩) 0 0) (H.push (.cells [] true true)) := by
  have : buildSliceA Try.prog 47 0 [] = some ([], 1) := by kernel_rfl
  simp only [buildSliceK, this]

/-- One byte appended. -/
theorem append_byte {N B : Nat} {H : Heap} {s : Value} {xs : List (BitVec 8)} {b : BitVec 8} {K : Value → Heap → Prop} (hs : Ow H B s xs) (hN : N ≤ B) (hB : B ≤ H.size) (hsz : xs.length + 1 ≤ 200000000000000)
    (hK : ∀ v' H', H.size ≤ H'.size → Rd H H' → (∀ j, j < H.size → blockOf s ≠ some j → H'[j]? = H[j]?) → Ow H' B v' (xs ++ [b]) → K v' H') : appendK Try.prog N 47 47 s (.slice (some ⟨H.size, 0, some 1⟩) 1 1) (H.push (.cells [u8 b] true true)) K := by
  refine append_bytes (ys := [b]) (OV.push hs _) (OV.new hB [u8 b] true 1 (by simp)).sv hN (by simp; omega) hsz (fun v' H' h1 h2 h3 h4 h5 => hK v' H' ?_ ((Rd.push H _).trans h2) (fun j hj hne => ?_) h4)
  · simp at h1; omega
  · rw [h3 j (by simp; omega) hne, get_push_old hj]

/-! ### Drawn regions -/

/-- The first k operations leave all as it is. -/
def wlq (P : Program) (N n : Nat) (ops : Array Oper) (k : Nat) (l : List Oper) (R : AAct → Heap → Prop) (a : AAct) (H : Heap) : Prop := wl P none n ops (l.take k) (wl P (some N) n ops (l.drop k) R) a H
def nextQ (P : Program) (N n : Nat) (ops : Array Oper) (k : Nat) (rest : List Oper) (d : Option Nat) (a : AAct) (R : AAct → Heap → Prop) (v : Value) (H : Heap) : Prop := wlq P N n ops k rest R (put n a d v) H
section
variable {P : Program} {N n k : Nat} {ops : Array Oper} {R : AAct → Heap → Prop} {a : AAct} {H : Heap}
@[go_sem] theorem wlq_0 (l : List Oper) : wlq P N n ops 0 l R a H = wl P (some N) n ops l R a H := (rfl)
@[go_sem] theorem wlq_nil : wlq P N n ops k [] R a H = R a H := by simp [wlq, wl]
@[go_sem] theorem wlq_s (d : Option Nat) (op : Op) (t : TypeId) (pos : String) (af : Array Edge) (rest : List Oper) :
    wlq P N n ops (k + 1) (⟨d, op, t, pos, af, none⟩ :: rest) R a H = wop P H.size op a H (nextQ P N n ops k rest d a R) := (rfl)
@[go_sem] theorem nextQ_eq (rest : List Oper) (d : Option Nat) (v : Value) : nextQ P N n ops k rest d a R v H = wlq P N n ops k rest R (put n a d v) H := (rfl)
@[congr] theorem nextQ_congr (rest : List Oper) (d : Option Nat) : nextQ P N n ops k rest d a R = nextQ P N n ops k rest d a R := rfl
@[congr] theorem wlq_congr (l : List Oper) {a' : AAct} {H' : Heap} (h1 : a = a') (h2 : H = H') : wlq P N n ops k l R a H = wlq P N n ops k l R a' H' := by rw [h1, h2]
/-- A guarded operation among the quiet ones. -/
def guardQ (P : Program) (N n : Nat) (ops : Array Oper) (k : Nat) (g : Option Value) (w : Bool) (d : Option Nat) (op : Op) (rest : List Oper) (R : AAct → Heap → Prop) (a : AAct) (H : Heap) : Prop :=
  match g with
  | some (.bool b) => (b = w → wop P H.size op a H (nextQ P N n ops k rest d a R)) ∧ (b ≠ w → wlq P N n ops k rest R (put n a d undef) H)
  | some (.tuple ⟨[]⟩) => wlq P N n ops k rest R (put n a d undef) H
  | _ => False
@[go_sem] theorem wlq_guard (d : Option Nat) (op : Op) (t : TypeId) (pos : String) (af : Array Edge) (j : Nat) (w : Bool) (rest : List Oper) :
    wlq P N n ops (k + 1) (⟨d, op, t, pos, af, some (j, w)⟩ :: rest) R a H = guardQ P N n ops k (((ops[j]?).bind (·.dst)).map a) w d op rest R a H :=
  wl_guard (No := none) ops d op t pos af j w (rest.take k)
@[go_sem] theorem guardQ_b (b w : Bool) (d : Option Nat) (op : Op) (rest : List Oper) : guardQ P N n ops k (some (.bool b)) w d op rest R a H =
    ((b = w → wop P H.size op a H (nextQ P N n ops k rest d a R)) ∧ (b ≠ w → wlq P N n ops k rest R (put n a d undef) H)) := (rfl)
@[go_sem] theorem guardQ_u (w : Bool) (d : Option Nat) (op : Op) (rest : List Oper) : guardQ P N n ops k (some undef) w d op rest R a H = wlq P N n ops k rest R (put n a d undef) H := (rfl)
@[congr] theorem guardQ_congr (w : Bool) (d : Option Nat) (op : Op) (rest : List Oper) {g g' : Option Value} {a' : AAct} {H' : Heap} (h0 : g = g') (h1 : a = a') (h2 : H = H') :
    guardQ P N n ops k g w d op rest R a H = guardQ P N n ops k g' w d op rest R a' H' := by rw [h0, h1, h2]
end
theorem follows_try : Try.prog.follows .mixedOrders = true := by kernel_rfl
theorem draw_of {N n : Nat} {R : AAct → Heap → Prop} {a : AAct} {H : Heap} (k : Nat) {l : List Oper} (h1 : (Nat.ble k l.length && drawOk ⟨l⟩ k) = true) (h : wlq Try.prog N n ⟨l⟩ k l R a H) : drawK Try.prog N n ⟨l⟩ R a H := drawK_mk k l follows_try h1 h
/-- As 'draw_of'; one load, of the operation j, may stand anywhere. -/
theorem late_of {N n : Nat} {R : AAct → Heap → Prop} {a : AAct} {H : Heap} (k j r b o : Nat) {l : List Oper} (h1 : (Nat.ble k l.length && drawOkS ⟨l⟩ k [j]) = true) (hN : N ≤ H.size) (hr : (match ((Array.mk l).getD j default).op with | .load _ (.tmp r') => Nat.beq r' r | _ => false) = true) (hb : a r = .pointer (some ⟨b, o, none⟩)) (hlt : b < H.size)
    (h : wlq Try.prog H.size n ⟨l⟩ k l R a H) : drawK Try.prog N n ⟨l⟩ R a H := by
  refine drawL_mk k [j] H.size l follows_try h1 hN (Nat.le_refl _) (fun j' hj' t r' hop => ?_) h
  simp only [List.mem_singleton] at hj'
  subst hj'
  rw [hop] at hr
  have hr' : r' = r := Nat.eq_of_beq_eq_true hr
  subst hr'
  exact ⟨b, o, hb, hlt⟩

end Go.Proofs.Ytcapjjmikapmfaa.M
