/- Poly1305: the law's waking, PolyForms and PolyGreat. -/
import Derived.Test.YtcapjjmikapmfaaPg
set_option linter.unusedVariables false
set_option linter.unusedSimpArgs false
namespace Go.Proofs.Ytcapjjmikapmfaa.M
open Go Go.Proofs

def tagE (key : List (BitVec 8)) : Int := if key.length = 32 then 0 else 1
def tagB (key b : List (BitVec 8)) : List (BitVec 8) := if key.length = 32 then polyTag key b else []
theorem TagQ.out {H H' : Heap} {key b : List (BitVec 8)} {r : Value} (h : TagQ H key b r H') : ∃ w, r = .tuple #[w, .int .i64 (tagE key)] ∧ Sl H' w (tagB key b) := by
  by_cases hl : key.length = 32
  · obtain ⟨w, h1, h2⟩ := h.1 hl
    exact ⟨w, by rw [h1, tagE, if_pos hl], by rw [tagB, if_pos hl]; exact h2.sl⟩
  · exact ⟨_, by rw [h.2 hl, tagE, if_neg hl], by rw [tagB, if_neg hl]; exact Sl.nil _⟩
theorem polyTag_length (k b : List (BitVec 8)) : (polyTag k b).length = 16 := leB_length _ _

set_option maxRecDepth 20000 in
theorem bytes8_fun {v : Value} {xs : List (BitVec 8)} {H : Heap} (n : Nat) (hn : n ≤ 1000) (hv : Sl H v xs) : Fun Try.prog 84 [v, .int .i64 (n : Nat)] H fun r H' => OE H' H.size r (fit n xs) := by
  refine fun_of Try.func84 rfl (by decide +kernel) (Nat.le_of_ble_eq_true rfl) ?_
  unfold Try.f84
  simp (maxSteps := 10000000) (disch := omega) only [go_sem]
  refine make_bytes (by omega) (by omega) ?_
  intro z H1 e1 o1 _
  rw [Int.toNat_natCast] at o1
  simp (maxSteps := 10000000) (disch := omega) only [go_sem]
  refine o1.copy (Nat.le_refl _) (hv.keep_old2 (H' := H1) fun j hj => by rw [e1, get_push_old hj]) ?_
  intro H2 s1 s2 s3
  simp (maxSteps := 10000000) (disch := omega) only [go_sem]
  rw [List.length_replicate, List.drop_replicate] at s3
  exact s3

def keyW : List (BitVec 8) := [2#8, 0#8, 0#8, 0#8, 0#8, 0#8, 0#8, 0#8, 0#8, 0#8, 0#8, 0#8, 0#8, 0#8, 0#8, 0#8, 5#8, 0#8, 0#8, 0#8, 0#8, 0#8, 0#8, 0#8, 0#8, 0#8, 0#8, 0#8, 0#8, 0#8, 0#8, 0#8]
theorem tagW : (polyTag keyW [3#8])[0]? = some 11#8 ∧ (polyTag keyW [3#8])[1]? = some 2#8 := by
  constructor <;> decide +kernel

set_option maxRecDepth 20000 in
set_option maxHeartbeats 1000000 in
theorem awake8_fun (H : Heap) : Fun Try.prog 83 [] H (fun r _ => r = .bool true) := by
  refine fun_of Try.func83 rfl (by decide +kernel) (Nat.le_of_ble_eq_true rfl) ?_
  unfold Try.f83
  simp (maxSteps := 10000000) (disch := omega) only [go_sem]
  refine make_bytes (by omega) (by omega) ?_
  intro z H1 e1 o1 _
  have z1 : H1.size = H.size + 1 := by rw [e1]; simp
  obtain ⟨ad, g1, _, g2⟩ := o1.elem (k := 0) (by omega) (by decide)
  simp (maxSteps := 10000000) (disch := omega) only [go_sem, g1]
  refine g2 _ _ _ (Nat.le_refl _) ?_
  intro H2 s1 s2 s3
  obtain ⟨ad2, g3, _, g4⟩ := s3.elem (k := 16) (by omega) (by decide)
  simp (maxSteps := 10000000) (disch := omega) only [go_sem, g3]
  refine g4 _ _ _ (Nat.le_refl _) ?_
  intro H3 s4 s5 s6
  have ek : ((List.replicate (32 : Int).toNat 0#8).set (0 : Int).toNat 2#8).set (16 : Int).toNat 5#8 = keyW := by decide
  rw [ek] at s6
  simp (maxSteps := 10000000) (disch := omega) only [go_sem]
  refine (tag_fun (s6.sl.mono (Rd.push _ _)) (sl_one H3 3#8) (by decide) (by decide)).call (by simp; omega) ?_
  rintro _ H4 a1 a2 q
  obtain ⟨w, rfl, hw⟩ := q.1 rfl
  have hwl := hw.sl.len
  rw [polyTag_length] at hwl
  obtain ⟨t0, t1⟩ := tagW
  obtain ⟨ad3, g5, g6⟩ := hw.sl.index (k := 0) (by omega) (by rw [polyTag_length]; decide)
  obtain ⟨ad4, g7, g8⟩ := hw.sl.index (k := 1) (by omega) (by rw [polyTag_length]; decide)
  have u0 : (polyTag keyW [3#8])[(0 : Int).toNat]'(by rw [polyTag_length]; decide) = 11#8 := by
    rw [List.getElem?_eq_getElem (by rw [polyTag_length]; decide)] at t0
    exact Option.some.inj t0
  have u1 : (polyTag keyW [3#8])[(1 : Int).toNat]'(by rw [polyTag_length]; decide) = 2#8 := by
    rw [List.getElem?_eq_getElem (by rw [polyTag_length]; decide)] at t1
    exact Option.some.inj t1
  rw [u0] at g6
  rw [u1] at g8
  simp (maxSteps := 10000000) (disch := omega) only [go_sem, hwl, g5, g6, g7, g8]

set_option maxRecDepth 20000 in
set_option maxHeartbeats 4000000 in
theorem polyForms_fun {H : Heap} {v : Value} {xs : List (BitVec 8)} (hv : Sl H v xs) (hl : xs.length ≤ 140737488351232) {v2 : Value} {ys : List (BitVec 8)} (hv2 : Sl H v2 ys) (hl2 : ys.length ≤ 140737488351232) (full : Bool) : Fun Try.prog 23 [v, v2, .bool full] H fun r _ => r = .bool true := by
  refine fun_of Try.func23 rfl (by decide +kernel) (Nat.le_of_ble_eq_true rfl) ?_
  unfold Try.f23
  simp (maxSteps := 10000000) (disch := omega) only [go_sem, hv.len]
  by_cases g1 : (40 : Int) < xs.length
  · simp (maxSteps := 10000000) (disch := omega) only [go_sem, g1, hv2.len]
    refine (awake8_fun _).call (Nat.le_refl _) ?_
    rintro _ H3 g7 g8 rfl
    simp (maxSteps := 10000000) (disch := omega) only [go_sem]
  simp (maxSteps := 10000000) (disch := omega) only [go_sem, g1, hv2.len]
  by_cases g2 : (500 : Int) < ys.length
  · simp (maxSteps := 10000000) (disch := omega) only [go_sem, g2]
    refine (awake8_fun _).call (Nat.le_refl _) ?_
    rintro _ H3 g7 g8 rfl
    simp (maxSteps := 10000000) (disch := omega) only [go_sem]
  simp (maxSteps := 10000000) (disch := omega) only [go_sem, g2]
  cases full
  · simp (maxSteps := 10000000) (disch := omega) only [go_sem]
    refine (tag_fun hv hv2 (by omega) (by omega)).call (Nat.le_refl _) ?_
    rintro _ H1 a1 a2 q
    obtain ⟨w1, rfl, hw1⟩ := q.out
    simp (maxSteps := 10000000) (disch := omega) only [go_sem]
    refine (refTag_fun (hv.keep_old2 a2) (hv2.keep_old2 a2) (by omega) (by omega)).call (by omega) ?_
    rintro _ H2 b1 b2 q
    obtain ⟨w2, rfl, hw2⟩ := q.out
    simp (maxSteps := 10000000) (disch := omega) only [go_sem]
    refine conv_text (hw1.keep_old2 b2) ?_
    simp (maxSteps := 10000000) (disch := omega) only [go_sem]
    refine conv_text hw2 ?_
    simp (maxSteps := 10000000) (disch := omega) only [go_sem]
    refine (awake8_fun _).call (by first | omega | (show H.size ≤ _; omega)) ?_
    rintro _ H3 g7 g8 rfl
    simp (maxSteps := 10000000) (disch := omega) only [go_sem]
  · simp (maxSteps := 10000000) (disch := omega) only [go_sem]
    refine (bytes8_fun 32 (by omega) hv).call (Nat.le_refl _) ?_
    intro w0 H0 c1 c2 c3
    have hk := c3.sl
    have hv3 := hv2.keep_old2 c2
    obtain ⟨ks, hks⟩ : ∃ ks, ks = fit 32 xs := ⟨_, rfl⟩
    have hkl : ks.length = 32 := by rw [hks]; exact fit_length _ _
    rw [← hks] at hk
    simp (maxSteps := 10000000) (disch := omega) only [go_sem]
    refine (tag_fun hk hv3 (by omega) (by omega)).call c1 ?_
    rintro _ H1 a1 a2 q
    obtain ⟨w1, rfl, hw1⟩ := q.out
    simp (maxSteps := 10000000) (disch := omega) only [go_sem]
    refine (refTag_fun (hk.keep_old2 a2) (hv3.keep_old2 a2) (by omega) (by omega)).call (by omega) ?_
    rintro _ H2 b1 b2 q
    obtain ⟨w2, rfl, hw2⟩ := q.out
    simp (maxSteps := 10000000) (disch := omega) only [go_sem]
    refine conv_text (hw1.keep_old2 b2) ?_
    simp (maxSteps := 10000000) (disch := omega) only [go_sem]
    refine conv_text hw2 ?_
    simp (maxSteps := 10000000) (disch := omega) only [go_sem]
    refine (awake8_fun _).call (by first | omega | (show H.size ≤ _; omega)) ?_
    rintro _ H3 g7 g8 rfl
    simp (maxSteps := 10000000) (disch := omega) only [go_sem]

end Go.Proofs.Ytcapjjmikapmfaa.M
