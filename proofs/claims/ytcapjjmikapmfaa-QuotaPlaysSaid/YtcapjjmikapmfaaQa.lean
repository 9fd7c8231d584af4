/- The quota book: the program's and the reference's. -/
import Derived.Test.YtcapjjmikapmfaaMw
import Derived.Test.YtcapjjmikapmfaaMz
import Derived.Test.YtcapjjmikapmfaaXe
import Derived.Test.YtcapjjmikapmfaaXq
set_option linter.unusedVariables false
set_option linter.unusedSimpArgs false
namespace Go.Proofs.Ytcapjjmikapmfaa.M
open Go Go.Proofs

@[go_sem] theorem fa_94_0 {b o : Nat} : fieldAddrA Try.prog 94 (.pointer (some ⟨b, o, none⟩)) 0 = some (.pointer (some ⟨b, o, none⟩)) := by kernel_rfl
@[go_sem] theorem fa_94_1 {b o : Nat} : fieldAddrA Try.prog 94 (.pointer (some ⟨b, o, none⟩)) 1 = some (.pointer (some ⟨b, o + 1, none⟩)) := by kernel_rfl
@[go_sem] theorem fa_42_0 {b o : Nat} : fieldAddrA Try.prog 42 (.pointer (some ⟨b, o, none⟩)) 0 = some (.pointer (some ⟨b, o, none⟩)) := by kernel_rfl
@[go_sem] theorem fa_42_1 {b o : Nat} : fieldAddrA Try.prog 42 (.pointer (some ⟨b, o, none⟩)) 1 = some (.pointer (some ⟨b, o + 1, none⟩)) := by kernel_rfl
@[go_sem] theorem fa_36_0 {b o : Nat} : fieldAddrA Try.prog 36 (.pointer (some ⟨b, o, none⟩)) 0 = some (.pointer (some ⟨b, o, none⟩)) := by kernel_rfl
@[go_sem] theorem fa_36_1 {b o : Nat} : fieldAddrA Try.prog 36 (.pointer (some ⟨b, o, none⟩)) 1 = some (.pointer (some ⟨b, o + 1, none⟩)) := by kernel_rfl
@[go_sem] theorem fa_36_2 {b o : Nat} : fieldAddrA Try.prog 36 (.pointer (some ⟨b, o, none⟩)) 2 = some (.pointer (some ⟨b, o + 2, none⟩)) := by kernel_rfl
@[go_sem] theorem eql_31_n : binA Try.prog .eql 31 (.pointer none) (.pointer none) = some (.bool true) := by kernel_rfl
@[go_sem] theorem eql_31_s (a : Addr) : binA Try.prog .eql 31 (.pointer (some a)) (.pointer none) = some (.bool false) := by kernel_rfl

theorem optK_ofQ {o : Option Value} {v : Value} {H : Heap} {K : Value → Heap → Prop} (h : o = some v) (hK : K v H) : optK o H K := by rw [h]; exact hK
def bp (i : Nat) : Value := .pointer (some ⟨i, 0, none⟩)
def updF (f : Int → Int) (k x : Int) : Int → Int := fun k' => if k' = k then x else f k'

structure BookAt (H : Heap) (B i j : Nat) (f : Int → Int) (t : Int) : Prop where
  blk : H[i]? = some (.cells [.map (some j), .int .i64 t] true false)
  map : MapF H j f
  n : B ≤ i
  m : B ≤ j

theorem BookAt.ne {H : Heap} {B i j : Nat} {f : Int → Int} {t : Int} (h : BookAt H B i j f t) : j ≠ i := by
  intro e
  obtain ⟨es, h1, _⟩ := h.map
  rw [e, h.blk] at h1
  cases h1
theorem BookAt.keep {H H' : Heap} {B i j : Nat} {f : Int → Int} {t : Int} (h : BookAt H B i j f t) (hi : H'[i]? = H[i]?) (hj : H'[j]? = H[j]?) : BookAt H' B i j f t :=
  ⟨by rw [hi]; exact h.blk, h.map.keep hj, h.n, h.m⟩
theorem BookAt.le {H : Heap} {B C i j : Nat} {f : Int → Int} {t : Int} (h : BookAt H B i j f t) (hC : C ≤ B) : BookAt H C i j f t := ⟨h.blk, h.map, Nat.le_trans hC h.n, Nat.le_trans hC h.m⟩
theorem BookAt.lt {H : Heap} {B i j : Nat} {f : Int → Int} {t : Int} (h : BookAt H B i j f t) : i < H.size ∧ j < H.size := by
  obtain ⟨es, h1, _⟩ := h.map
  exact ⟨get_lt h.blk, get_lt h1⟩
theorem MapF.get {H : Heap} {j : Nat} {f : Int → Int} (h : MapF H j f) (k : Int) : ∀ {K : Value → Heap → Prop}, K (.int .i64 (f k)) H → lookK Try.prog 40 (.map (some j)) (.int .i64 k) false H K := by
  intro K hK
  obtain ⟨es, h1, h2, h3⟩ := h
  rw [h3 k] at hK
  exact look_40 h1 k hK
theorem MapF.getE {H : Heap} {j : Nat} {f : Int → Int} (h : MapF H j f) (k : Int) (K : Value → Heap → Prop) : lookK Try.prog 40 (.map (some j)) (.int .i64 k) false H K = K (.int .i64 (f k)) H := by
  apply propext
  refine ⟨?_, fun hK => h.get k hK⟩
  rintro ⟨v, H', ⟨kt, e, es, z, r, a1, a2, a3, a4, a5, rfl, rfl⟩, hK⟩
  obtain ⟨es', h1, h2, h3⟩ := h
  simp only [entriesA, h1, Option.some.injEq] at a2
  subst a2
  rw [findA_kv, Option.some.injEq] at a5
  subst a5
  rw [Try.underlying40] at a1
  simp only [Option.some.injEq, TypeDesc.map.injEq] at a1
  obtain ⟨rfl, rfl⟩ := a1
  have hz : zeroV Try.prog 3 = some (.int .i64 0) := by kernel_rfl
  rw [hz, Option.some.injEq] at a4
  subst a4
  rw [look_kv] at hK
  rw [h3]; exact hK
theorem MapF.set {H : Heap} {j : Nat} {f : Int → Int} (h : MapF H j f) (k x : Int) {N : Nat} (hN : N ≤ j) {K : Value → Heap → Prop} (hK : ∀ H', H'.size = H.size → (∀ q, q ≠ j → H'[q]? = H[q]?) → MapF H' j (updF f k x) → K undef H') : updK Try.prog N 40 (.map (some j)) (.int .i64 k) (.int .i64 x) H K := by
  obtain ⟨es, h1, h2, h3⟩ := h
  refine upd_40 hN h1 k x (hK _ (by simp) (fun q hq => by rw [Array.getElem?_setIfInBounds_ne (fun e => hq e.symm)]) ⟨setM es k x, ?_, nodup_set es k x h2, fun k' => ?_⟩)
  · rw [Array.getElem?_setIfInBounds, if_pos rfl, if_pos (get_lt h1)]
  · rw [get_set, updF, h3]
theorem MapF.del {H : Heap} {j : Nat} {f : Int → Int} (h : MapF H j f) (k : Int) {N : Nat} (hN : N ≤ j) (h0 : f k = 0) {K : Value → Heap → Prop} (hK : ∀ H', H'.size = H.size → (∀ q, q ≠ j → H'[q]? = H[q]?) → MapF H' j f → K (.tuple #[]) H') : delK Try.prog N 40 (.map (some j)) (.int .i64 k) H K := by
  obtain ⟨es, h1, h2, h3⟩ := h
  refine del_40 hN h1 k (hK _ (by simp) (fun q hq => by rw [Array.getElem?_setIfInBounds_ne (fun e => hq e.symm)]) ⟨dropM es k, ?_, nodup_drop es k h2, fun k' => ?_⟩)
  · rw [Array.getElem?_setIfInBounds, if_pos rfl, if_pos (get_lt h1)]
  · rw [get_drop es k k' h2]
    split
    · rename_i e; rw [e, h0]
    · exact h3 k'

set_option maxRecDepth 20000 in
theorem bookNew_fun (H : Heap) : Fun Try.prog 39 [] H (fun r H' => ∃ i j, r = .pointer (some ⟨i, 0, none⟩) ∧ BookAt H' H.size i j (fun _ => 0) 0) := by
  refine fun_of Try.func39 rfl (by decide +kernel) (Nat.le_of_ble_eq_true rfl) ?_
  unfold Try.f39
  simp (maxSteps := 10000000) (disch := omega) only [condK_t, condK_f, guardK_tt, guardK_ff, guardK_tf, guardK_ft, guardQ_tt, guardQ_ff, guardQ_tf, guardQ_ft, Bool.true_beq, Bool.false_beq, go_sem]
  refine optK_ofQ (v := .agg #[.map (some H.size), .int .i64 0]) (by kernel_rfl) ?_
  simp (maxSteps := 10000000) (disch := omega) only [condK_t, condK_f, guardK_tt, guardK_ff, guardK_tf, guardK_ft, guardQ_tt, guardQ_ff, guardQ_tf, guardQ_ft, Bool.true_beq, Bool.false_beq, go_sem]
  refine ⟨rfl, ?_⟩
  simp (maxSteps := 10000000) (disch := omega) only [condK_t, condK_f, guardK_tt, guardK_ff, guardK_tf, guardK_ft, guardQ_tt, guardQ_ff, guardQ_tf, guardQ_ft, Bool.true_beq, Bool.false_beq, go_sem]
  exact ⟨_, H.size, rfl, get_push_new, ⟨[], by rw [get_push_old (by simp), get_push_new]; rfl, by simp [keysM], fun _ => rfl⟩, by simp, Nat.le_refl _⟩
set_option maxRecDepth 20000 in
theorem refNew_fun (H : Heap) : Fun Try.prog 40 [] H (fun r H' => ∃ i j, r = .pointer (some ⟨i, 0, none⟩) ∧ BookAt H' H.size i j (fun _ => 0) 0) := by
  refine fun_of Try.func40 rfl (by decide +kernel) (Nat.le_of_ble_eq_true rfl) ?_
  unfold Try.f40
  simp (maxSteps := 10000000) (disch := omega) only [condK_t, condK_f, guardK_tt, guardK_ff, guardK_tf, guardK_ft, guardQ_tt, guardQ_ff, guardQ_tf, guardQ_ft, Bool.true_beq, Bool.false_beq, go_sem]
  refine optK_ofQ (v := .agg #[.map (some H.size), .int .i64 0]) (by kernel_rfl) ?_
  simp (maxSteps := 10000000) (disch := omega) only [condK_t, condK_f, guardK_tt, guardK_ff, guardK_tf, guardK_ft, guardQ_tt, guardQ_ff, guardQ_tf, guardQ_ft, Bool.true_beq, Bool.false_beq, go_sem]
  refine ⟨rfl, ?_⟩
  simp (maxSteps := 10000000) (disch := omega) only [condK_t, condK_f, guardK_tt, guardK_ff, guardK_tf, guardK_ft, guardQ_tt, guardQ_ff, guardQ_tf, guardQ_ft, Bool.true_beq, Bool.false_beq, go_sem]
  exact ⟨_, H.size, rfl, get_push_new, ⟨[], by rw [get_push_old (by simp), get_push_new]; rfl, by simp [keysM], fun _ => rfl⟩, by simp, Nat.le_refl _⟩

theorem takeNil_fun (H : Heap) (id most : Int) : Fun Try.prog 43 [.pointer none, .int .i64 id, .int .i64 most] H (fun r H' => r = .bool false ∧ H' = H) := by
  refine fun_of Try.func43 rfl (by decide +kernel) (Nat.le_of_ble_eq_true rfl) ?_
  unfold Try.f43
  simp (maxSteps := 10000000) (disch := omega) only [condK_t, condK_f, guardK_tt, guardK_ff, guardK_tf, guardK_ft, guardQ_tt, guardQ_ff, guardQ_tf, guardQ_ft, Bool.true_beq, Bool.false_beq, go_sem]
theorem giveNil_fun (H : Heap) (id : Int) : Fun Try.prog 41 [.pointer none, .int .i64 id] H (fun r H' => r = .bool false ∧ H' = H) := by
  refine fun_of Try.func41 rfl (by decide +kernel) (Nat.le_of_ble_eq_true rfl) ?_
  unfold Try.f41
  simp (maxSteps := 10000000) (disch := omega) only [condK_t, condK_f, guardK_tt, guardK_ff, guardK_tf, guardK_ft, guardQ_tt, guardQ_ff, guardQ_tf, guardQ_ft, Bool.true_beq, Bool.false_beq, go_sem]
theorem hasNil_fun (H : Heap) (id : Int) : Fun Try.prog 45 [.pointer none, .int .i64 id] H (fun r H' => r = .int .i64 0 ∧ H' = H) := by
  refine fun_of Try.func45 rfl (by decide +kernel) (Nat.le_of_ble_eq_true rfl) ?_
  unfold Try.f45
  simp (maxSteps := 10000000) (disch := omega) only [condK_t, condK_f, guardK_tt, guardK_ff, guardK_tf, guardK_ft, guardQ_tt, guardQ_ff, guardQ_tf, guardQ_ft, Bool.true_beq, Bool.false_beq, go_sem]
theorem totalNil_fun (H : Heap) : Fun Try.prog 46 [.pointer none] H (fun r H' => r = .int .i64 0 ∧ H' = H) := by
  refine fun_of Try.func46 rfl (by decide +kernel) (Nat.le_of_ble_eq_true rfl) ?_
  unfold Try.f46
  simp (maxSteps := 10000000) (disch := omega) only [condK_t, condK_f, guardK_tt, guardK_ff, guardK_tf, guardK_ft, guardQ_tt, guardQ_ff, guardQ_tf, guardQ_ft, Bool.true_beq, Bool.false_beq, go_sem]

section
variable {H : Heap} {B i j : Nat} {f : Int → Int} {t : Int} (h : BookAt H B i j f t)
include h
theorem has_fun (id : Int) : Fun Try.prog 45 [.pointer (some ⟨i, 0, none⟩), .int .i64 id] H (fun r H' => r = .int .i64 (f id) ∧ H' = H) := by
  refine fun_of Try.func45 rfl (by decide +kernel) (Nat.le_of_ble_eq_true rfl) ?_
  unfold Try.f45
  have L0 := load_cell (P := Try.prog) (t := 40) h.blk kind_40 (o := 0) (x := .map (some j)) rfl
  simp (maxSteps := 10000000) (disch := omega) only [condK_t, condK_f, guardK_tt, guardK_ff, guardK_tf, guardK_ft, guardQ_tt, guardQ_ff, guardQ_tf, guardQ_ft, Bool.true_beq, Bool.false_beq, go_sem, L0, h.map.getE]
theorem total_fun : Fun Try.prog 46 [.pointer (some ⟨i, 0, none⟩)] H (fun r H' => r = .int .i64 t ∧ H' = H) := by
  refine fun_of Try.func46 rfl (by decide +kernel) (Nat.le_of_ble_eq_true rfl) ?_
  unfold Try.f46
  have L1 := load_cell (P := Try.prog) (t := 3) h.blk kind_3 (o := 1) (x := .int .i64 t) rfl
  simp (maxSteps := 10000000) (disch := omega) only [condK_t, condK_f, guardK_tt, guardK_ff, guardK_tf, guardK_ft, guardQ_tt, guardQ_ff, guardQ_tf, guardQ_ft, Bool.true_beq, Bool.false_beq, go_sem, L1, Nat.zero_add]

set_option maxRecDepth 20000 in
theorem take_call (hf : ∀ k, 0 ≤ f k ∧ f k ≤ 1000) (ht : -1000 ≤ t ∧ t ≤ 1000) (id most : Int) {N : Nat} (hN : N ≤ B) {K : Value → Heap → Prop}
    (hK : ∀ H', H'.size = H.size → (∀ q, q ≠ i → q ≠ j → H'[q]? = H[q]?) → BookAt H' B i j (if f id < most then updF f id (f id + 1) else f) (if f id < most then t + 1 else t) → K (.bool (decide (f id < most))) H') :
    callK Try.prog N (.func 43) [.pointer (some ⟨i, 0, none⟩), .int .i64 id, .int .i64 most] H K := by
  have h1 := h.n
  have h2 := h.m
  have h3 := hf id
  refine call_of Try.func43 rfl (by decide +kernel) (Nat.le_of_ble_eq_true rfl) ?_
  unfold Try.f43
  have L0 := load_cell (P := Try.prog) (t := 40) h.blk kind_40 (o := 0) (x := .map (some j)) rfl
  have L1 := load_cell (P := Try.prog) (t := 3) h.blk kind_3 (o := 1) (x := .int .i64 t) rfl
  by_cases g : f id < most
  · have g1 := eq_false (show ¬ most ≤ f id by omega)
    have g2 := eq_false (show ¬ (100000 : Int) ≤ t by omega)
    rw [if_pos g, if_pos g, decide_eq_true g] at hK
    simp (maxSteps := 10000000) (disch := omega) only [condK_t, condK_f, guardK_tt, guardK_ff, guardK_tf, guardK_ft, guardQ_tt, guardQ_ff, guardQ_tf, guardQ_ft, Bool.true_beq, Bool.false_beq, go_sem, L0, L1, Nat.zero_add, h.map.getE, g1, g2, wrap_i64]
    refine h.map.set id _ (by omega) ?_
    intro H1 s1 s2 s3
    have b1 : H1[i]? = some (.cells [.map (some j), .int .i64 t] true false) := by rw [s2 i h.ne.symm]; exact h.blk
    have L2 := load_cell (P := Try.prog) (t := 3) b1 kind_3 (o := 1) (x := .int .i64 t) rfl
    simp (maxSteps := 10000000) (disch := omega) only [condK_t, condK_f, guardK_tt, guardK_ff, guardK_tf, guardK_ft, guardQ_tt, guardQ_ff, guardQ_tf, guardQ_ft, Bool.true_beq, Bool.false_beq, go_sem, L2, Nat.zero_add, wrap_i64]
    refine store_cell b1 sz_3 rfl (by omega) (by simp) ?_
    intro H2 s4 s5 s6
    simp (maxSteps := 10000000) (disch := omega) only [condK_t, condK_f, guardK_tt, guardK_ff, guardK_tf, guardK_ft, guardQ_tt, guardQ_ff, guardQ_tf, guardQ_ft, Bool.true_beq, Bool.false_beq, go_sem]
    exact hK H2 (by omega) (fun q q1 q2 => by rw [s5 q q1, s2 q q2]) ⟨s6, s3.keep (s5 j h.ne), h1, h2⟩
  · have g1 := eq_true (show most ≤ f id by omega)
    rw [if_neg g, if_neg g, decide_eq_false g] at hK
    simp (maxSteps := 10000000) (disch := omega) only [condK_t, condK_f, guardK_tt, guardK_ff, guardK_tf, guardK_ft, guardQ_tt, guardQ_ff, guardQ_tf, guardQ_ft, Bool.true_beq, Bool.false_beq, go_sem, L0, L1, Nat.zero_add, h.map.getE, g1]
    exact hK H rfl (fun _ _ _ => rfl) h
set_option maxRecDepth 20000 in
theorem refTake_call (hf : ∀ k, 0 ≤ f k ∧ f k ≤ 1000) (ht : -1000 ≤ t ∧ t ≤ 1000) (id most : Int) {N : Nat} (hN : N ≤ B) {K : Value → Heap → Prop}
    (hK : ∀ H', H'.size = H.size → (∀ q, q ≠ i → q ≠ j → H'[q]? = H[q]?) → BookAt H' B i j (if f id < most then updF f id (f id + 1) else f) (if f id < most then t + 1 else t) → K (.bool (decide (f id < most))) H') :
    callK Try.prog N (.func 44) [.pointer (some ⟨i, 0, none⟩), .int .i64 id, .int .i64 most] H K := by
  have h1 := h.n
  have h2 := h.m
  have h3 := hf id
  refine call_of Try.func44 rfl (by decide +kernel) (Nat.le_of_ble_eq_true rfl) ?_
  unfold Try.f44
  have L0 := load_cell (P := Try.prog) (t := 40) h.blk kind_40 (o := 0) (x := .map (some j)) rfl
  have L1 := load_cell (P := Try.prog) (t := 3) h.blk kind_3 (o := 1) (x := .int .i64 t) rfl
  by_cases g : f id < most
  · have g1 := eq_false (show ¬ most ≤ f id by omega)
    have g2 := eq_false (show ¬ (100000 : Int) ≤ t by omega)
    rw [if_pos g, if_pos g, decide_eq_true g] at hK
    simp (maxSteps := 10000000) (disch := omega) only [condK_t, condK_f, guardK_tt, guardK_ff, guardK_tf, guardK_ft, guardQ_tt, guardQ_ff, guardQ_tf, guardQ_ft, Bool.true_beq, Bool.false_beq, go_sem, L0, L1, Nat.zero_add, h.map.getE, g1, g2, wrap_i64]
    refine h.map.set id _ (by omega) ?_
    intro H1 s1 s2 s3
    have b1 : H1[i]? = some (.cells [.map (some j), .int .i64 t] true false) := by rw [s2 i h.ne.symm]; exact h.blk
    have L2 := load_cell (P := Try.prog) (t := 3) b1 kind_3 (o := 1) (x := .int .i64 t) rfl
    simp (maxSteps := 10000000) (disch := omega) only [condK_t, condK_f, guardK_tt, guardK_ff, guardK_tf, guardK_ft, guardQ_tt, guardQ_ff, guardQ_tf, guardQ_ft, Bool.true_beq, Bool.false_beq, go_sem, L2, Nat.zero_add, wrap_i64]
    refine store_cell b1 sz_3 rfl (by omega) (by simp) ?_
    intro H2 s4 s5 s6
    simp (maxSteps := 10000000) (disch := omega) only [condK_t, condK_f, guardK_tt, guardK_ff, guardK_tf, guardK_ft, guardQ_tt, guardQ_ff, guardQ_tf, guardQ_ft, Bool.true_beq, Bool.false_beq, go_sem]
    exact hK H2 (by omega) (fun q q1 q2 => by rw [s5 q q1, s2 q q2]) ⟨s6, s3.keep (s5 j h.ne), h1, h2⟩
  · have g1 := eq_true (show most ≤ f id by omega)
    rw [if_neg g, if_neg g, decide_eq_false g] at hK
    simp (maxSteps := 10000000) (disch := omega) only [condK_t, condK_f, guardK_tt, guardK_ff, guardK_tf, guardK_ft, guardQ_tt, guardQ_ff, guardQ_tf, guardQ_ft, Bool.true_beq, Bool.false_beq, go_sem, L0, L1, Nat.zero_add, h.map.getE, g1]
    exact hK H rfl (fun _ _ _ => rfl) h

set_option maxRecDepth 20000 in
theorem give_call (hf : ∀ k, 0 ≤ f k ∧ f k ≤ 1000) (ht : -1000 ≤ t ∧ t ≤ 1000) (id : Int) {N : Nat} (hN : N ≤ B) {K : Value → Heap → Prop}
    (hK : ∀ H', H'.size = H.size → (∀ q, q ≠ i → q ≠ j → H'[q]? = H[q]?) → BookAt H' B i j (if f id = 0 then f else updF f id (f id - 1)) (if f id = 0 then t else t - 1) → K (.bool (!decide (f id = 0))) H') :
    callK Try.prog N (.func 41) [.pointer (some ⟨i, 0, none⟩), .int .i64 id] H K := by
  have h1 := h.n
  have h2 := h.m
  have h3 := hf id
  refine call_of Try.func41 rfl (by decide +kernel) (Nat.le_of_ble_eq_true rfl) ?_
  unfold Try.f41
  have L0 := load_cell (P := Try.prog) (t := 40) h.blk kind_40 (o := 0) (x := .map (some j)) rfl
  have L1 := load_cell (P := Try.prog) (t := 3) h.blk kind_3 (o := 1) (x := .int .i64 t) rfl
  by_cases g : f id = 0
  · rw [if_pos g, if_pos g, decide_eq_true g] at hK
    simp (maxSteps := 10000000) (disch := omega) only [condK_t, condK_f, guardK_tt, guardK_ff, guardK_tf, guardK_ft, guardQ_tt, guardQ_ff, guardQ_tf, guardQ_ft, Bool.true_beq, Bool.false_beq, go_sem, L0, L1, Nat.zero_add, h.map.getE, g, beq_self_eq_true]
    exact hK H rfl (fun _ _ _ => rfl) h
  · have g1 := eq_false g
    rw [if_neg g, if_neg g, decide_eq_false g] at hK
    simp (maxSteps := 10000000) (disch := omega) only [condK_t, condK_f, guardK_tt, guardK_ff, guardK_tf, guardK_ft, guardQ_tt, guardQ_ff, guardQ_tf, guardQ_ft, Bool.true_beq, Bool.false_beq, go_sem, L0, L1, Nat.zero_add, h.map.getE, g1, wrap_i64]
    refine store_cell h.blk sz_3 rfl (by omega) (by simp) ?_
    intro H1 s1 s2 s3
    have m1 := h.map.keep (s2 j h.ne)
    have b1 : H1[i]? = some (.cells [.map (some j), .int .i64 (t - 1)] true false) := s3
    have L2 := load_cell (P := Try.prog) (t := 40) b1 kind_40 (o := 0) (x := .map (some j)) rfl
    simp (maxSteps := 10000000) (disch := omega) only [condK_t, condK_f, guardK_tt, guardK_ff, guardK_tf, guardK_ft, guardQ_tt, guardQ_ff, guardQ_tf, guardQ_ft, Bool.true_beq, Bool.false_beq, go_sem, L2, Nat.zero_add, m1.getE, wrap_i64]
    refine m1.set id _ (by omega) ?_
    intro H2 s4 s5 s6
    have b2 : H2[i]? = some (.cells [.map (some j), .int .i64 (t - 1)] true false) := by rw [s5 i h.ne.symm]; exact b1
    have L3 := load_cell (P := Try.prog) (t := 40) b2 kind_40 (o := 0) (x := .map (some j)) rfl
    have e1 : updF f id (f id - 1) id = f id - 1 := by simp [updF]
    have k2 : BookAt H2 B i j (updF f id (f id - 1)) (t - 1) := ⟨b2, s6, h1, h2⟩
    by_cases g2 : f id - 1 = 0
    · have e2 := e1.trans g2
      simp (maxSteps := 10000000) (disch := omega) only [condK_t, condK_f, guardK_tt, guardK_ff, guardK_tf, guardK_ft, guardQ_tt, guardQ_ff, guardQ_tf, guardQ_ft, Bool.true_beq, Bool.false_beq, go_sem, L3, Nat.zero_add, s6.getE, e2, beq_self_eq_true]
      refine s6.del id (by omega) (by rw [e1, g2]) ?_
      intro H3 s7 s8 s9
      simp (maxSteps := 10000000) (disch := omega) only [condK_t, condK_f, guardK_tt, guardK_ff, guardK_tf, guardK_ft, guardQ_tt, guardQ_ff, guardQ_tf, guardQ_ft, Bool.true_beq, Bool.false_beq, go_sem]
      exact hK H3 (by omega) (fun q q1 q2 => by rw [s8 q q2, s5 q q2, s2 q q1]) ⟨by rw [s8 i h.ne.symm]; exact b2, s9, h1, h2⟩
    · have g3 := eq_false g2
      simp (maxSteps := 10000000) (disch := omega) only [condK_t, condK_f, guardK_tt, guardK_ff, guardK_tf, guardK_ft, guardQ_tt, guardQ_ff, guardQ_tf, guardQ_ft, Bool.true_beq, Bool.false_beq, go_sem, L3, Nat.zero_add, s6.getE, e1, g3]
      exact hK H2 (by omega) (fun q q1 q2 => by rw [s5 q q2, s2 q q1]) k2
set_option maxRecDepth 20000 in
theorem refGive_call (hf : ∀ k, 0 ≤ f k ∧ f k ≤ 1000) (ht : -1000 ≤ t ∧ t ≤ 1000) (id : Int) {N : Nat} (hN : N ≤ B) {K : Value → Heap → Prop}
    (hK : ∀ H', H'.size = H.size → (∀ q, q ≠ i → q ≠ j → H'[q]? = H[q]?) → BookAt H' B i j (if f id = 0 then f else updF f id (f id - 1)) (if f id = 0 then t else t - 1) → K (.bool (!decide (f id = 0))) H') :
    callK Try.prog N (.func 42) [.pointer (some ⟨i, 0, none⟩), .int .i64 id] H K := by
  have h1 := h.n
  have h2 := h.m
  have h3 := hf id
  refine call_of Try.func42 rfl (by decide +kernel) (Nat.le_of_ble_eq_true rfl) ?_
  unfold Try.f42
  have L0 := load_cell (P := Try.prog) (t := 40) h.blk kind_40 (o := 0) (x := .map (some j)) rfl
  have L1 := load_cell (P := Try.prog) (t := 3) h.blk kind_3 (o := 1) (x := .int .i64 t) rfl
  by_cases g : f id = 0
  · rw [if_pos g, if_pos g, decide_eq_true g] at hK
    simp (maxSteps := 10000000) (disch := omega) only [condK_t, condK_f, guardK_tt, guardK_ff, guardK_tf, guardK_ft, guardQ_tt, guardQ_ff, guardQ_tf, guardQ_ft, Bool.true_beq, Bool.false_beq, go_sem, L0, L1, Nat.zero_add, h.map.getE, g, beq_self_eq_true]
    exact hK H rfl (fun _ _ _ => rfl) h
  · have g1 := eq_false g
    rw [if_neg g, if_neg g, decide_eq_false g] at hK
    simp (maxSteps := 10000000) (disch := omega) only [condK_t, condK_f, guardK_tt, guardK_ff, guardK_tf, guardK_ft, guardQ_tt, guardQ_ff, guardQ_tf, guardQ_ft, Bool.true_beq, Bool.false_beq, go_sem, L0, L1, Nat.zero_add, h.map.getE, g1, wrap_i64]
    refine h.map.set id _ (by omega) ?_
    intro H1 s1 s2 s3
    have b1 : H1[i]? = some (.cells [.map (some j), .int .i64 t] true false) := by rw [s2 i h.ne.symm]; exact h.blk
    have L2 := load_cell (P := Try.prog) (t := 3) b1 kind_3 (o := 1) (x := .int .i64 t) rfl
    simp (maxSteps := 10000000) (disch := omega) only [condK_t, condK_f, guardK_tt, guardK_ff, guardK_tf, guardK_ft, guardQ_tt, guardQ_ff, guardQ_tf, guardQ_ft, Bool.true_beq, Bool.false_beq, go_sem, L2, Nat.zero_add, wrap_i64]
    refine store_cell b1 sz_3 rfl (by omega) (by simp) ?_
    intro H2 s4 s5 s6
    simp (maxSteps := 10000000) (disch := omega) only [condK_t, condK_f, guardK_tt, guardK_ff, guardK_tf, guardK_ft, guardQ_tt, guardQ_ff, guardQ_tf, guardQ_ft, Bool.true_beq, Bool.false_beq, go_sem]
    exact hK H2 (by omega) (fun q q1 q2 => by rw [s5 q q1, s2 q q2]) ⟨s6, s3.keep (s5 j h.ne), h1, h2⟩
end

end Go.Proofs.Ytcapjjmikapmfaa.M
