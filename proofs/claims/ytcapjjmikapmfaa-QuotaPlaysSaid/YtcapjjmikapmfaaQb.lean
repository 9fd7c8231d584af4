/- The quota laws: nil, sums. -/
import Derived.Test.YtcapjjmikapmfaaQa
set_option linter.unusedVariables false
set_option linter.unusedSimpArgs false
namespace Go.Proofs.Ytcapjjmikapmfaa.M
open Go Go.Proofs

set_option maxRecDepth 20000 in
theorem awake17_fun (H : Heap) : Fun Try.prog 47 [] H (fun r H' => r = .bool true) := by
  refine fun_of Try.func47 rfl (by decide +kernel) (Nat.le_of_ble_eq_true rfl) ?_
  unfold Try.f47
  simp (maxSteps := 10000000) (disch := omega) only [go_sem]
  refine (bookNew_fun _).call (Nat.le_refl _) ?_
  rintro _ H1 a1 a2 ⟨i, j, rfl, b1⟩
  simp (maxSteps := 10000000) (disch := omega) only [go_sem]
  refine take_call b1 (fun _ => by omega) (by omega) 3 1 (Nat.le_refl _) ?_
  intro H2 c1 c2 b2
  have e2 : updF (fun _ => 0) 3 (0 + 1) 3 = 1 := rfl
  simp (maxSteps := 10000000) (disch := omega) only [go_sem]
  simp only [Int.reduceLT, if_true, ↓reduceIte] at b2
  have f2 : ∀ k, 0 ≤ updF (fun _ => 0) 3 (0 + 1) k ∧ updF (fun _ => 0) 3 (0 + 1) k ≤ 1000 := fun k => by unfold updF; split <;> simp
  refine take_call b2 f2 (by omega) 3 1 (Nat.le_refl _) ?_
  rw [e2]
  intro H3 c3 c4 b3
  simp only [Int.reduceLT, if_false, ↓reduceIte] at b3
  simp (maxSteps := 10000000) (disch := omega) only [go_sem]
  refine give_call b3 f2 (by omega) 3 (Nat.le_refl _) ?_
  rw [e2]
  intro H4 c5 c6 b4
  simp only [Int.reduceEq, if_false, ↓reduceIte] at b4
  simp (maxSteps := 10000000) (disch := omega) only [go_sem]
  have e4 : ∀ k, updF (updF (fun _ => 0) 3 (0 + 1)) 3 (1 - 1) k = 0 := fun k => by unfold updF; split <;> simp
  refine take_call b4 (fun k => by rw [e4]; omega) (by omega) 3 1 (Nat.le_refl _) ?_
  rw [e4]
  intro H5 c7 c8 b5
  simp only [Int.reduceLT, if_true, ↓reduceIte] at b5
  simp (maxSteps := 10000000) (disch := omega) only [go_sem]
  refine (has_fun b5 3).call (show H.size ≤ H5.size by omega) ?_
  have e5 : updF (updF (updF (fun _ => 0) 3 (0 + 1)) 3 (1 - 1)) 3 (0 + 1) 3 = 1 := rfl
  rintro _ H6 c9 c10 ⟨rfl, e6⟩
  subst e6
  simp (maxSteps := 10000000) (disch := omega) only [go_sem, e5]
  refine (total_fun b5).call (show H.size ≤ _ by omega) ?_
  rintro _ H6 c11 c12 ⟨rfl, rfl⟩
  simp (maxSteps := 10000000) (disch := omega) only [go_sem, Int.reduceAdd, Int.reduceSub]

set_option maxRecDepth 20000 in
theorem quotaNil_fun {H : Heap} (b : Bool) (x y : Int) : Fun Try.prog 6 [.agg #[.bool b, .int .i64 x, .int .i64 y]] H (fun r _ => r = .bool true) := by
  refine fun_of Try.func6 rfl (by decide +kernel) (Nat.le_of_ble_eq_true rfl) ?_
  unfold Try.f6
  simp (maxSteps := 10000000) (disch := omega) only [go_sem]
  refine ⟨rfl, ?_⟩
  have L1 := load_cell (P := Try.prog) (t := 3) (H := H.push (.cells [.bool b, .int .i64 x, .int .i64 y] true false)) get_push_new kind_3 (o := 1) (x := .int .i64 x) rfl
  have L2 := load_cell (P := Try.prog) (t := 3) (H := H.push (.cells [.bool b, .int .i64 x, .int .i64 y] true false)) get_push_new kind_3 (o := 2) (x := .int .i64 y) rfl
  simp (maxSteps := 10000000) (disch := omega) only [go_sem, Nat.zero_add, L1, L2]
  refine (takeNil_fun _ _ _).call (by simp) ?_
  rintro _ H1 c1 c2 ⟨rfl, rfl⟩
  simp (maxSteps := 10000000) (disch := omega) only [go_sem, Nat.zero_add, L1, L2]
  refine (giveNil_fun _ _).call (by simp) ?_
  rintro _ H1 c1 c2 ⟨rfl, rfl⟩
  simp (maxSteps := 10000000) (disch := omega) only [go_sem, Nat.zero_add, L1, L2]
  refine (hasNil_fun _ _).call (by simp) ?_
  rintro _ H1 c1 c2 ⟨rfl, rfl⟩
  simp (maxSteps := 10000000) (disch := omega) only [go_sem, Nat.zero_add, L1, L2]
  refine (totalNil_fun _).call (by simp) ?_
  rintro _ H1 c1 c2 ⟨rfl, rfl⟩
  simp (maxSteps := 10000000) (disch := omega) only [go_sem, Nat.zero_add, L1, L2]
  refine (awake17_fun _).call (by simp) ?_
  rintro _ H1 c1 c2 rfl
  simp (maxSteps := 10000000) (disch := omega) only [go_sem]

/-! ### A row of calls -/
abbrev CallT := Bool × Int × Int
def callC (c : CallT) : List Value := [.bool c.1, .int .i64 c.2.1, .int .i64 c.2.2]
def CallsAt (H : Heap) (v : Value) (cs : List CallT) : Prop :=
  (v = .slice none 0 0 ∧ cs = []) ∨
  ∃ i c vs ex tl, v = .slice (some ⟨i, 0, some 3⟩) cs.length c ∧ cs.length ≤ c ∧ (cs ≠ [] → H[i]? = some (.cells vs ex tl) ∧ cs.length * 3 ≤ vs.length ∧ ∀ k, k < cs.length → (vs.drop (k * 3)).take 3 = callC (cs.getD k (false, 0, 0)))
theorem CallsAt.keep {H H' : Heap} {v : Value} {cs : List CallT} (h : CallsAt H v cs) (hk : ∀ j, j < H.size → H'[j]? = H[j]?) : CallsAt H' v cs := by
  rcases h with h | ⟨i, c, vs, ex, tl, h1, h2, h3⟩
  · exact .inl h
  · refine .inr ⟨i, c, vs, ex, tl, h1, h2, fun hn => ?_⟩
    obtain ⟨h4, h5⟩ := h3 hn
    exact ⟨by rw [hk i (get_lt h4)]; exact h4, h5⟩
theorem CallsAt.len {H : Heap} {v : Value} {cs : List CallT} (h : CallsAt H v cs) (K : Value → Heap → Prop) {H2 : Heap} : lenK Try.prog 30 v H2 K = K (.int .i64 (cs.length : Nat)) H2 := by
  rcases h with ⟨rfl, rfl⟩ | ⟨i, c, vs, ex, tl, rfl, _⟩
  · simp only [lenK, Try.underlying30]; rfl
  · simp only [lenK, Try.underlying30]
theorem CallsAt.elem {H : Heap} {v : Value} {cs : List CallT} (h : CallsAt H v cs) {k : Nat} (hk : k < cs.length) :
    ∃ b x y, (∃ hh : k < cs.length, cs[k] = (b, x, y)) ∧ ∃ ad, indexAddrA Try.prog 30 v (.int .i64 (k : Nat)) = some (.pointer (some ad)) ∧ ∀ K, loadK Try.prog 36 (.pointer (some ad)) H K = K (.agg #[.bool b, .int .i64 x, .int .i64 y]) H := by
  rcases h with ⟨rfl, rfl⟩ | ⟨i, c, vs, ex, tl, rfl, h2, h3⟩
  · simp at hk
  · obtain ⟨h4, h5, h6⟩ := h3 (by intro e; rw [e] at hk; simp at hk)
    refine ⟨cs[k].1, cs[k].2.1, cs[k].2.2, ⟨hk, rfl⟩, ⟨i, 0 + k * 3, none⟩, ?_, fun K => ?_⟩
    · simp only [indexAddrA, Try.underlying30, intA, sz_36]
      rw [if_pos ⟨by omega, by omega⟩]; simp
    · rw [load_row h4 kind_36 (by omega), Nat.zero_add, h6 k hk]
      simp [callC, hk]
end Go.Proofs.Ytcapjjmikapmfaa.M
