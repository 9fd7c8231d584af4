/- HKDF: what the parts are made of. -/
import Derived.Test.YtcapjjmikapmfaaXq
import Derived.Test.YtcapjjmikapmfaaMz
import Derived.Test.YtcapjjmikapmfaaSu
set_option linter.unusedVariables false
set_option linter.unusedSimpArgs false
namespace Go.Proofs.Ytcapjjmikapmfaa.M
open Go Go.Proofs

theorem wg_gen {P : Program} {N : Nat} {fn : FuncId} {n : Nat} {top : Bool} {c : Code} {Q : Post} {H : Heap} {a : AAct} (F : AAct → Prop) (h1 : F a) (h2 : ∀ b, F b → wp P N fn n top c Q b H) : wp P N fn n top c Q a H := h2 a h1
theorem wg_range {P : Program} {N : Nat} {fn : FuncId} {n : Nat} {f : Operand} {ps : Array Nat} {cs cb : Code} {Q : Post} {a : AAct} {H : Heap} {g : Fn} {cap : List Value} (hf : ev a f = .func g #[] ⟨cap⟩)
    (h : ∀ cs' cb', cs' = cs → cb' = cb → callK P N g (.func (.yield H.size) #[] #[] :: cap) (H.push (.loop fn n a ps.toList cs' cb' .ready)) fun v H2 => overK H.size fn n a ps.toList cs' cb' Q H2) : wp P N fn n true (.rangeFunc f ps cs cb) Q a H := wp_range hf (h cs cb rfl rfl)
theorem wg_code {P : Program} {N : Nat} {fn : FuncId} {n : Nat} {top : Bool} {c c' : Code} {Q : Post} {H : Heap} {a : AAct} (h : c = c') (k : wp P N fn n top c' Q a H) : wp P N fn n top c Q a H := h ▸ k
theorem sg_get {H : Heap} {l : Nat} {b : Blk} (h : l < H.size) : (H.setIfInBounds l b)[l]? = some b := by rw [Array.getElem?_setIfInBounds, if_pos rfl, if_pos h]
theorem sg_ne {H : Heap} {l j : Nat} {b : Blk} (h : j ≠ l) : (H.setIfInBounds l b)[j]? = H[j]? := Array.getElem?_setIfInBounds_ne (fun e => h e.symm)

/-! ### cap of nothing -/
def capK (P : Program) (t : TypeId) (x : Value) (H : Heap) (K : Value → Heap → Prop) : Prop := (∃ e, P.underlying t = some (.slice e)) ∧ x = .slice none 0 0 ∧ K (.int .i64 0) H
@[go_sem] theorem wop_cap {P : Program} {N : Nat} {a : AAct} {H : Heap} {K : Value → Heap → Prop} (x : Operand) (t : TypeId) : wop P N (.call ⟨.builtin .cap, ⟨[x]⟩, ⟨[t]⟩⟩) a H K = capK P t (ev a x) H K := by
  apply propext
  constructor
  · rintro ⟨v, H', ⟨t1, x1, e, h1, h2, h3, h4, rfl, rfl⟩, h⟩
    cases h1; cases h2
    exact ⟨⟨e, h3⟩, h4, h⟩
  · rintro ⟨⟨e, h3⟩, h4, h⟩
    exact ⟨_, _, ⟨t, x, e, rfl, rfl, h3, h4, rfl, rfl⟩, h⟩
@[go_sem] theorem cap_47 {H : Heap} {K : Value → Heap → Prop} : capK Try.prog 47 (.slice none 0 0) H K = K (.int .i64 0) H := by
  simp [capK, Try.underlying47]

/-! ### Room to append -/
def Rm (H : Heap) (B : Nat) (v : Value) (xs : List (BitVec 8)) (cap : Nat) : Prop :=
  ∃ (i c : Nat) (vs : List Value), v = .slice (some ⟨i, 0, some 1⟩) xs.length c ∧ xs.length ≤ cap ∧ cap ≤ c ∧ cap ≤ vs.length ∧ B ≤ i ∧ H[i]? = some (.cells vs true true) ∧ vs.take xs.length = xs.map u8
theorem Rm.sl {H : Heap} {B : Nat} {v : Value} {xs : List (BitVec 8)} {cap : Nat} (h : Rm H B v xs cap) : Sl H v xs := by
  obtain ⟨i, c, vs, rfl, h1, h2, h3, h4, h5, h6⟩ := h
  refine .inr ⟨i, 0, c, by simp, by simp; omega, fun _ => ⟨vs, true, true, h5, by simp; omega, fun k x hk => ?_⟩⟩
  have hkl : k < (xs.map u8).length := by
    rcases Nat.lt_or_ge k (xs.map u8).length with h | h
    · exact h
    · rw [List.getElem?_eq_none h] at hk; cases hk
  rw [← h6, List.getElem?_take, if_pos (by simpa using hkl)] at hk
  simpa using hk
theorem append_room {N B cap : Nat} {H : Heap} {s x : Value} {xs ys : List (BitVec 8)} {K : Value → Heap → Prop} (hs : Rm H B s xs cap) (hx : Sl H x ys) (hN : N ≤ B) (hc : xs.length + ys.length ≤ cap)
    (hK : ∀ v' H', H'.size = H.size → (∀ j, j < B → H'[j]? = H[j]?) → Rm H' B v' (xs ++ ys) cap → K v' H') : appendK Try.prog N 47 47 s x H K := by
  refine appendK_mk (by simp [nonInt, Try.underlying47]) ?_
  obtain ⟨hlen, hsrc⟩ := SV.src hx
  simp only [List.length_map] at hlen hsrc
  by_cases hy : ys = []
  · subst hy
    have hs2 := hs
    obtain ⟨i, c, vs, rfl, h1, h2, h3, h4, h5, h6⟩ := hs
    exact ⟨_, H, .nothing 5 1 _ _ c Try.underlying47 sz_5 rfl hlen, hK _ H rfl (fun _ _ => rfl) (by simpa using hs2)⟩
  · have hpos : 0 < ys.length := List.length_pos_iff.2 hy
    obtain ⟨i, c, vs, rfl, h1, h2, h3, h4, h5, h6⟩ := hs
    have hil := get_lt h5
    have hne : ys.map u8 ≠ [] := by simpa using hy
    refine ⟨_, _, .fits 5 1 (ys.map u8) vs i 0 xs.length c ys.length true Try.underlying47 sz_5 rfl hlen (hsrc hne) (by simp) (all_u8 ys) hpos (by omega) (by omega) h5 (by omega), hK _ _ (by simp) (fun j hj => sg_ne (by omega)) ?_⟩
    have hw : wr vs (0 + xs.length * 1) (ys.map u8) = xs.map u8 ++ ys.map u8 ++ vs.drop (xs.length + ys.length) := by
      rw [← h6]
      simp [wr]
    refine ⟨i, c, _, by simp, by simp; omega, h2, ?_, h4, sg_get hil, ?_⟩
    · rw [hw]; simp; omega
    · rw [hw]
      rw [List.take_append_of_le_length (by simp), List.take_of_length_le (by simp), List.map_append]

theorem appendZ_nil {N : Nat} {H : Heap} {n : Nat} {K : Value → Heap → Prop} (h0 : 0 < n) (h1 : n ≤ 200000000000000)
    (hK : ∀ H', H' = H.push (.cells ((List.replicate n (0#8 : BitVec 8)).map u8) true true) → K (.slice (some ⟨H.size, 0, some 1⟩) n n) H') : appendZK Try.prog N 47 (.slice none 0 0) (.int .i64 (n : Nat)) H K := by
  have hzc : (Builtin.zeroCells ([u8 0] : List Value).toArray n).toList = (List.replicate n (0#8 : BitVec 8)).map u8 := by
    apply List.ext_getElem?
    intro k
    by_cases h : k < n
    · simp [Builtin.zeroCells, h, Nat.mod_one]
    · simp [Builtin.zeroCells, h]
  refine ⟨_, _, .mk 5 1 1 n [u8 0] .i64 Try.underlying47 sz_5 bt_5 zc_5 rfl rfl rfl h0 (by omega) (by omega), hK _ ?_⟩
  rw [hzc]

theorem slice_zero {i c n : Nat} (h : n ≤ c) : sliceA Try.prog 47 (.slice (some ⟨i, 0, some 1⟩) n c) none (some (.int .i64 0)) none = some (.slice (some ⟨i, 0, some 1⟩) 0 c) := by
  simp [sliceA, Try.underlying47, sz_5, boundsA, boundA, intA]
theorem slice_nil0 : sliceA Try.prog 47 (.slice none 0 0) none (some (.int .i64 0)) none = some (.slice none 0 0) := by
  simp [sliceA, Try.underlying47, sz_5, boundsA, boundA, intA]

set_option maxRecDepth 20000 in
theorem grow_fun {H : Heap} (n : Nat) (h0 : 0 < n) (h1 : n ≤ 100000000000000) : Fun Try.prog 132 [.slice none 0 0, .int .i64 (n : Nat)] H fun r H' => Rm H' H.size r [] n := by
  have hlt := eq_false (show ¬ (n : Int) < 0 by omega)
  have hgt := eq_true (show (0 : Int) < (n : Int) by omega)
  refine fun_of Try.func132 rfl (by decide +kernel) (Nat.le_of_ble_eq_true rfl) ?_
  unfold Try.f132
  have hln := fun (H' : Heap) (K : Value → Heap → Prop) => (Sl.nil H).len H' K
  simp (maxSteps := 10000000) (disch := omega) only [go_sem, hlt, wrap_i64, Int.sub_self, Int.sub_zero, hgt, slice_nil0, hln]
  refine appendZ_nil h0 (by omega) ?_
  intro H' e
  simp (maxSteps := 10000000) (disch := omega) only [go_sem, slice_zero, hln]
  have hp : H'[H.size]? = some (.cells ((List.replicate n (0#8 : BitVec 8)).map u8) true true) := by rw [e]; exact get_push_new
  exact ⟨H.size, n, _, rfl, by simp, Nat.le_refl _, by simp, Nat.le_refl _, hp, by simp⟩

/-! ### Clone -/
@[go_sem] theorem eql_47n (a : Option Addr) (n c : Nat) : binA Try.prog .eql 47 (.slice a n c) (.slice none 0 0) = some (.bool a.isNone) := by simp [binA, Try.underlying47]
@[go_sem] theorem buildSlice_zero (H : Heap) (K : Value → Heap → Prop) : buildSliceK Try.prog 47 0 [] H K = K (.slice (some ⟨H.size, 0, some 1⟩) 0 0) (H.push (.cells [] true true)) := by
  have : buildSliceA Try.prog 47 0 [] = some ([], 1) := by kernel_rfl
  simp only [buildSliceK, this]
set_option maxRecDepth 20000 in
theorem clone_fun {v : Value} {xs : List (BitVec 8)} {H : Heap} (hv : Sl H v xs) (hl : xs.length ≤ 100000000000000) : Fun Try.prog 120 [v] H fun r H' => Ow H' H.size r xs := by
  obtain ⟨p, n, c, rfl⟩ := hv.form
  cases p with
  | none =>
    have hx : xs = [] ∧ n = 0 ∧ c = 0 := by
      rcases hv with ⟨e, h⟩ | ⟨i, o, c, h, _⟩
      · cases e; exact ⟨by simpa using h, rfl, rfl⟩
      · cases h
    obtain ⟨rfl, rfl, rfl⟩ := hx
    refine fun_of Try.func120 rfl (by decide +kernel) (Nat.le_of_ble_eq_true rfl) ?_
    unfold Try.f120
    simp (maxSteps := 10000000) (disch := omega) only [go_sem]
    exact OV.nil _ _
  | some ad =>
    refine fun_of Try.func120 rfl (by decide +kernel) (Nat.le_of_ble_eq_true rfl) ?_
    unfold Try.f120
    simp (maxSteps := 10000000) (disch := omega) only [go_sem]
    have o1 : OE (H.push (.cells [] true true)) H.size (.slice (some ⟨H.size, 0, some 1⟩) 0 0) [] := OE.new (Nat.le_refl _) [] 0 (Nat.le_refl _)
    refine append_fresh o1 (hv.mono (Rd.push _ _)) (Nat.le_refl _) (by simp) (by omega) ?_
    intro t H3 c1 c2 c3 c4
    simp (maxSteps := 10000000) (disch := omega) only [go_sem]
    exact c4.ow

/-! ### Concat -/
def conc1Inv (H0 : Heap) (v : Value) (xss : List (List (BitVec 8))) (m : Nat) (a : AAct) (H : Heap) : Prop :=
  ∃ k : Nat, k + m = xss.length ∧ a 0 = v ∧ a 3 = .int .i64 ((xss.take k).flatten.length : Nat) ∧ a 9 = v ∧ a 10 = .int .i64 (xss.length : Nat) ∧ a 11 = .int .i64 (k : Nat) ∧ H = H0
def conc2Inv (H0 : Heap) (v : Value) (xss : List (List (BitVec 8))) (m : Nat) (a : AAct) (H : Heap) : Prop :=
  ∃ k : Nat, k + m = xss.length ∧ a 25 = v ∧ a 26 = .int .i64 (xss.length : Nat) ∧ a 27 = .int .i64 (k : Nat) ∧ H0.size ≤ H.size ∧ (∀ j, j < H0.size → H[j]? = H0[j]?) ∧ Rm H H0.size (a 6) (xss.take k).flatten xss.flatten.length

theorem take_fl_succ (xss : List (List (BitVec 8))) {k : Nat} (h : k < xss.length) : (xss.take (k + 1)).flatten = (xss.take k).flatten ++ xss[k] := by
  rw [List.take_succ_eq_append_getElem h, List.flatten_append]; simp

set_option maxRecDepth 20000 in
theorem concat_fun {v : Value} {xss : List (List (BitVec 8))} {H : Heap} (hv : SlL H v xss) (hl0 : 0 < xss.flatten.length) (hl : xss.flatten.length ≤ 100000000000000) (hl2 : xss.length ≤ 100000000000000) : Fun Try.prog 130 [v] H (fun r H' => Sl H' r xss.flatten) := by
  obtain ⟨vs, h1, h2, h3⟩ := hv
  have hlen := fun (H' : Heap) (K : Value → Heap → Prop) => h1.len (P := Try.prog) Try.underlying79 H' K
  rw [h2] at hlen
  refine fun_of Try.func130 rfl (by decide +kernel) (Nat.le_of_ble_eq_true rfl) ?_
  unfold Try.f130
  simp (maxSteps := 10000000) (disch := omega) only [go_sem, hlen]
  refine wp_loop (conc1Inv H v xss) ?_ xss.length ?_
  · rintro m a H1 ⟨k, hk, h0, h3', h9, h10, h11, rfl⟩
    simp (maxSteps := 10000000) (disch := omega) only [go_sem, h9, h10, h11]
    by_cases hlt : k < xss.length
    · have hlt' : (k : Int) < (xss.length : Nat) := by omega
      have hvk : vs[k]? = some (vs[k]'(by omega)) := List.getElem?_eq_getElem (by omega)
      have hxk : xss[k]? = some xss[k] := List.getElem?_eq_getElem hlt
      have hs := h3 k _ _ hvk hxk
      obtain ⟨ad, e1, e2⟩ := h1.index (P := Try.prog) Try.underlying79 sz_47 kind_47 (k := (k : Int)) (x := vs[k]'(by omega)) (by omega) (by rw [Int.toNat_natCast]; exact hvk)
      have hle := take_flatten_le xss (k + 1)
      rw [take_fl_succ xss hlt, List.length_append] at hle
      have hneg := eq_false (show ¬ ((xss.take k).flatten.length : Int) + (xss[k].length : Nat) < 0 by omega)
      simp (maxSteps := 10000000) (disch := omega) only [go_sem, h3', h9, h10, h11, hlt', e1, e2, hs.len, wrap_i64, hneg]
      refine ⟨m - 1, by omega, k + 1, by omega, by simp (maxSteps := 10000000) (disch := omega) only [go_sem, h0], ?_, by simp (maxSteps := 10000000) (disch := omega) only [go_sem, h9], by simp (maxSteps := 10000000) (disch := omega) only [go_sem, h10], by simp (maxSteps := 10000000) (disch := omega) only [go_sem]; push_cast; rfl, rfl⟩
      simp (maxSteps := 10000000) (disch := omega) only [go_sem]
      rw [take_fl_succ xss hlt, List.length_append]; push_cast; rfl
    · have hlt' : ¬ (k : Int) < (xss.length : Nat) := by omega
      rw [List.take_of_length_le (by omega)] at h3'
      simp (maxSteps := 10000000) (disch := omega) only [go_sem, h0, h3', hlt']
      refine (grow_fun _ hl0 hl).call (Nat.le_refl _) ?_
      intro w H2 a1 a2 a3
      simp (maxSteps := 10000000) (disch := omega) only [go_sem, h0, hlen]
      refine wp_loop (conc2Inv H1 v xss) ?_ xss.length ?_
      · rintro m a H3 ⟨k, hk, h25, h26, h27, hB, hold, how⟩
        simp (maxSteps := 10000000) (disch := omega) only [go_sem, h25, h26, h27]
        by_cases hlt : k < xss.length
        · have hlt' : (k : Int) < (xss.length : Nat) := by omega
          have hvk : vs[k]? = some (vs[k]'(by omega)) := List.getElem?_eq_getElem (by omega)
          have hxk : xss[k]? = some xss[k] := List.getElem?_eq_getElem hlt
          have hs := (h3 k _ _ hvk hxk).keep_old2 hold
          have h11 : SV H3 v vs := h1.mono (.keep hold)
          obtain ⟨ad, e1, e2⟩ := h11.index (P := Try.prog) Try.underlying79 sz_47 kind_47 (k := (k : Int)) (x := vs[k]'(by omega)) (by omega) (by rw [Int.toNat_natCast]; exact hvk)
          simp (maxSteps := 10000000) (disch := omega) only [go_sem, h25, h26, h27, hlt', e1, e2]
          have hle := take_flatten_le xss (k + 1)
          rw [take_fl_succ xss hlt, List.length_append] at hle
          refine append_room how hs (Nat.le_refl _) (by omega) ?_
          intro v' H4 g1 g2 g3
          simp (maxSteps := 10000000) (disch := omega) only [go_sem, h27, wrap_i64]
          refine ⟨m - 1, by omega, k + 1, by omega, by simp (maxSteps := 10000000) (disch := omega) only [go_sem, h25], by simp (maxSteps := 10000000) (disch := omega) only [go_sem, h26], by simp (maxSteps := 10000000) (disch := omega) only [go_sem]; push_cast; rfl, by omega, fun j hj => by rw [g2 j hj, hold j hj], ?_⟩
          simp (maxSteps := 10000000) (disch := omega) only [go_sem]
          rw [take_fl_succ xss hlt]; exact g3
        · have hlt' : ¬ (k : Int) < (xss.length : Nat) := by omega
          simp (maxSteps := 10000000) (disch := omega) only [go_sem, h25, h26, h27, hlt']
          rw [List.take_of_length_le (by omega)] at how
          exact how.sl
      · exact ⟨0, by omega, by simp (maxSteps := 10000000) (disch := omega) only [go_sem], by simp (maxSteps := 10000000) (disch := omega) only [go_sem], by simp (maxSteps := 10000000) (disch := omega) only [go_sem], by omega, a2, by simp (maxSteps := 10000000) (disch := omega) only [go_sem]; exact a3⟩
  · exact ⟨0, by omega, by simp (maxSteps := 10000000) (disch := omega) only [go_sem], by simp (maxSteps := 10000000) (disch := omega) only [go_sem]; simp, by simp (maxSteps := 10000000) (disch := omega) only [go_sem], by simp (maxSteps := 10000000) (disch := omega) only [go_sem], by simp (maxSteps := 10000000) (disch := omega) only [go_sem], rfl⟩

end Go.Proofs.Ytcapjjmikapmfaa.M
