/- Drawn regions where some readings may stand elsewhere: how M walks them. -/
import Derived.Test.YtcapjjmikapmfaaMv
import Derived.Test.YtcapjjmikapmfaaMw
import Derived.Test.YtcapjjmikapmfaaSc
set_option linter.unusedVariables false
set_option linter.unusedSimpArgs false
namespace Go.Proofs.Ytcapjjmikapmfaa.M
open Go Go.Proofs

def stOf : Nat → List Bool → List Nat
  | _, [] => []
  | i, true :: fs => i :: stOf (i + 1) fs
  | i, false :: fs => stOf (i + 1) fs
theorem stOf_ge : ∀ (fs : List Bool) (i j : Nat), j ∈ stOf i fs → i ≤ j
  | [], _, _, h => by simp [stOf] at h
  | true :: fs, i, j, h => by
    simp only [stOf, List.mem_cons] at h
    rcases h with rfl | h
    · exact Nat.le_refl _
    · have := stOf_ge fs (i + 1) j h; omega
  | false :: fs, i, j, h => by
    simp only [stOf] at h
    have := stOf_ge fs (i + 1) j h; omega
theorem stOf_get : ∀ (fs : List Bool) (i d : Nat), (i + d) ∈ stOf i fs ↔ fs[d]? = some true
  | [], i, d => by simp [stOf]
  | true :: fs, i, 0 => by simp [stOf]
  | true :: fs, i, d + 1 => by
    have ih := stOf_get fs (i + 1) d
    simp only [stOf, List.mem_cons, List.getElem?_cons_succ]
    rw [← ih, show i + 1 + d = i + (d + 1) by omega]
    constructor
    · rintro (h | h)
      · omega
      · exact h
    · exact .inr
  | false :: fs, i, 0 => by
    simp only [stOf, List.getElem?_cons_zero, Nat.add_zero]
    constructor
    · intro h; have := stOf_ge fs (i + 1) i h; omega
    · intro h; cases h
  | false :: fs, i, d + 1 => by
    have ih := stOf_get fs (i + 1) d
    simp only [stOf, List.getElem?_cons_succ]
    rw [← ih, show i + 1 + d = i + (d + 1) by omega]

/-- What holds where an operation that may stand elsewhere is met. -/
def stillK (P : Program) (a : AAct) (op : Op) (v : Value) (S : Heap → Prop) : Prop := ∀ H, S H → OpStep P (Call P) H.size a H op v H

/-- q: so many operations still leave all as it is; i: the number of the operation that comes; fs: which may stand elsewhere; S0: what holds wherever the rest is carried out; S: what holds from here on. -/
def wlC (P : Program) (N n : Nat) (ops : Array Oper) (st : List Nat) (k : Nat) (S0 : Heap → Prop) : Nat → Nat → List Bool → List Oper → (Heap → Prop) → (AAct → Heap → Prop) → AAct → Heap → Prop
  | _, _, _, [], _, Q, a, H => Q a H
  | _, _, [], _ :: _, _, _, _, _ => False
  | i, 0, false :: fs, o :: rest, S, Q, a, H =>
    match wantedA ops o a with
    | some true => wop P N o.op a H (fun v H' => (pureOp o.op = false → S H') ∧ wlC P N n ops st k S0 (i + 1) 0 fs rest S Q (put n a o.dst v) H')
    | some false => wlC P N n ops st k S0 (i + 1) 0 fs rest S Q (put n a o.dst undef) H
    | none => False
  | i, 0, true :: fs, o :: rest, S, Q, a, H =>
    match wantedA ops o a with
    | some true => N ≤ H.size ∧ ∃ v S', OpStep P (Call P) H.size a H o.op v H ∧ S' H ∧ (stillK P a o.op v S0 ∨ (behind ops k st i = true ∧ stillK P a o.op v S')) ∧ wlC P N n ops st k S0 (i + 1) 0 fs rest (fun H => S H ∧ S' H) Q (put n a o.dst v) H
    | some false => wlC P N n ops st k S0 (i + 1) 0 fs rest S Q (put n a o.dst undef) H
    | none => False
  | i, q + 1, false :: fs, o :: rest, S, Q, a, H =>
    match wantedA ops o a with
    | some true => wop P H.size o.op a H (fun v H' => wlC P N n ops st k S0 (i + 1) q fs rest S (fun a H => Q a H) (put n a o.dst v) H' ∧ (q = 0 → S H'))
    | some false => wlC P N n ops st k S0 (i + 1) q fs rest S Q (put n a o.dst undef) H ∧ (q = 0 → S H)
    | none => False
  | i, q + 1, true :: fs, o :: rest, S, Q, a, H =>
    match wantedA ops o a with
    | some true => ∃ v S', OpStep P (Call P) H.size a H o.op v H ∧ stillK P a o.op v S' ∧ wlC P N n ops st k S0 (i + 1) q fs rest (fun H => S H ∧ S' H) Q (put n a o.dst v) H ∧ (q = 0 → S H ∧ S' H)
    | some false => wlC P N n ops st k S0 (i + 1) q fs rest S Q (put n a o.dst undef) H ∧ (q = 0 → S H)
    | none => False

/-- A run from the operation i on, as 'wlC' has it. -/
structure TrC (P : Program) (N n : Nat) (ops : Array Oper) (st : List Nat) (k : Nat) (S0 : Heap → Prop) (i m : Nat) (fs : List Bool) (S : Heap → Prop) (Q : AAct → Heap → Prop) (a : AAct) (H : Heap) (A : Nat → AAct) (HH : Nat → Heap) (V : Nat → Value) : Prop where
  a0 : A i = a
  h0 : HH i = H
  at_ : ∀ j, i ≤ j → j < i + m → At P (Call P) n ops (if j < k then (HH j).size else N) A HH V j
  safe : ∀ c, k ≤ c → i ≤ c → c ≤ i + m → S (HH c)
  still : ∀ j o, i ≤ j → j < i + m → ops[j]? = some o → fs[j - i]? = some true → wantedA ops o (A j) = some true → HH (j + 1) = HH j ∧ (stillK P (A j) o.op (V j) S0 ∨ ((behind ops k st j = true ∨ j < k) ∧ ∀ c, k ≤ c → j ≤ c → c ≤ i + m → OpStep P (Call P) (HH c).size (A j) (HH c) o.op (V j) (HH c)))
  post : Q (A (i + m)) (HH (i + m))

theorem TrC.cons {P : Program} {N n : Nat} {ops : Array Oper} {st : List Nat} {k : Nat} {S0 : Heap → Prop} {i m : Nat} {f : Bool} {fs : List Bool} {S S2 : Heap → Prop} {Q : AAct → Heap → Prop} {a : AAct} {H : Heap} {o : Oper} {v : Value} {H1 : Heap} {A : Nat → AAct} {HH : Nat → Heap} {V : Nat → Value}
    (ho : ops[i]? = some o) (hc : (wantedA ops o a = some true ∧ OpStep P (Call P) (if i < k then H.size else N) a H o.op v H1) ∨ (wantedA ops o a = some false ∧ v = undef ∧ H1 = H))
    (hS : k ≤ i → S H) (hS2 : ∀ H, S2 H → S H)
    (hf : f = true → wantedA ops o a = some true → H1 = H ∧ (stillK P a o.op v S0 ∨ ((behind ops k st i = true ∨ i < k) ∧ (∀ H, S2 H → OpStep P (Call P) H.size a H o.op v H) ∧ OpStep P (Call P) H.size a H o.op v H)))
    (T : TrC P N n ops st k S0 (i + 1) m fs S2 Q (put n a o.dst v) H1 A HH V) : ∃ A HH V, TrC P N n ops st k S0 i (m + 1) (f :: fs) S Q a H A HH V := by
  obtain ⟨t1, t2, t3, t4, t5, t6⟩ := T
  have e1 : ∀ {j : Nat}, i + 1 ≤ j → ¬ j = i := fun h e => by omega
  refine ⟨fun j => if j = i then a else A j, fun j => if j = i then H else HH j, fun j => if j = i then v else V j, by simp, by simp, fun j hj1 hj2 => ?_, fun c hc1 hc2 hc3 => ?_, fun j o' hj1 hj2 hoj hfj hw => ?_, ?_⟩
  · by_cases e : j = i
    · subst e
      have e5 : ¬ j + 1 = j := by omega
      refine ⟨o, ho, ?_, ?_⟩
      · simp only [if_true, e5, if_false]
        rw [t1]
      · simp only [if_true, e5, if_false]
        rw [t2]
        rcases hc with ⟨h1, h2⟩ | ⟨h1, h2, h3⟩
        · exact .inl ⟨h1, h2⟩
        · exact .inr ⟨h1, h2, h3⟩
    · obtain ⟨o', g1, g2, g3⟩ := t3 j (by omega) (by omega)
      have e2 : ¬ j + 1 = i := by omega
      refine ⟨o', g1, ?_, ?_⟩
      · simpa only [e, e2, if_false] using g2
      · simpa only [e, e2, if_false] using g3
  · by_cases e : c = i
    · subst e; simpa using hS (by omega)
    · simp only [e, if_false]
      exact hS2 _ (t4 c hc1 (by omega) (by omega))
  · by_cases e : j = i
    · subst e
      rw [ho] at hoj; cases hoj
      simp only [Nat.sub_self, List.getElem?_cons_zero, Option.some.injEq] at hfj
      simp only [if_true] at hw
      obtain ⟨g1, g2⟩ := hf hfj hw
      have e2 : ¬ j + 1 = j := by omega
      simp only [if_true, e2, if_false]
      refine ⟨by rw [t2, g1], ?_⟩
      rcases g2 with g2 | ⟨g2, g3, g4⟩
      · exact .inl g2
      · refine .inr ⟨g2, fun c hc1 hc2 hc3 => ?_⟩
        by_cases e3 : c = j
        · subst e3; simpa using g4
        · simp only [e3, if_false]
          exact g3 _ (t4 c hc1 (by omega) (by omega))
    · have e2 : ¬ j + 1 = i := by omega
      have e3 : j - i = (j - (i + 1)) + 1 := by omega
      rw [e3, List.getElem?_cons_succ] at hfj
      simp only [e, if_false] at hw
      obtain ⟨g1, g2⟩ := t5 j o' (by omega) (by omega) hoj hfj hw
      simp only [e, e2, if_false]
      refine ⟨g1, ?_⟩
      rcases g2 with g2 | ⟨g2, g3⟩
      · exact .inl g2
      · refine .inr ⟨g2, fun c hc1 hc2 hc3 => ?_⟩
        have e4 : ¬ c = i := by omega
        simp only [e4, if_false]
        exact g3 c hc1 hc2 (by omega)
  · have e2 : ¬ i + (m + 1) = i := by omega
    simp only [e2, if_false]
    rw [show i + (m + 1) = i + 1 + m by omega]
    exact t6

theorem wlC_trace {P : Program} {N n : Nat} {ops : Array Oper} {st : List Nat} {k : Nat} {S0 : Heap → Prop} : ∀ (l : List Oper) (i q : Nat) (fs : List Bool) (S : Heap → Prop) (Q : AAct → Heap → Prop) (a : AAct) (H : Heap),
    (∀ j, j < l.length → ops[i + j]? = l[j]?) → N ≤ H.size → ((q ≠ 0 ∧ i + q = k) ∨ (q = 0 ∧ k ≤ i)) → (k ≤ i → S H) → q ≤ l.length → wlC P N n ops st k S0 i q fs l S Q a H →
    ∃ A HH V, TrC P N n ops st k S0 i l.length fs S Q a H A HH V
  | [], i, q, fs, S, Q, a, H, hl, hN, hq, hS, hle, h => by
    unfold wlC at h
    refine ⟨fun _ => a, fun _ => H, fun _ => undef, rfl, rfl, fun j h1 h2 => by simp at h2; omega, fun c h1 h2 h3 => ?_, fun j o h1 h2 => by simp at h2; omega, h⟩
    simp at h3
    exact hS (by omega)
  | o :: l, i, q, [], S, Q, a, H, hl, hN, hq, hS, hle, h => by
    cases q <;> exact h.elim
  | o :: l, i, q, f :: fs, S, Q, a, H, hl, hN, hq, hS, hle, h => by
    have ho : ops[i]? = some o := by have := hl 0 (by simp); simpa using this
    have hl' : ∀ j, j < l.length → ops[i + 1 + j]? = l[j]? := fun j hj => by
      have := hl (j + 1) (by simp; omega)
      rw [List.getElem?_cons_succ] at this
      rw [← this]; congr 1; omega
    have prot : ∀ {M : Nat} {v : Value} {H' : Heap}, M ≤ H.size → N ≤ M → OpStep P (Call P) M a H o.op v H' → N ≤ H'.size := fun h1 h2 h3 => Nat.le_trans h2 (Nat.le_trans h1 (h3.prot (Call.simC P) h1).1)
    cases q with
    | zero =>
      have hki : k ≤ i := by omega
      have hnk : ¬ i < k := by omega
      cases f with
      | false =>
        unfold wlC at h
        split at h
        · rename_i hw
          obtain ⟨v, H1, hs, hS1, h⟩ := wop_sound h
          have hN1 := prot hN (Nat.le_refl _) hs
          have hSn : S H1 := by
            cases hp : pureOp o.op with
            | true => rw [(hs.pure hp).1]; exact hS hki
            | false => exact hS1 hp
          obtain ⟨A, HH, V, T⟩ := wlC_trace l (i + 1) 0 fs S Q _ H1 hl' hN1 (.inr ⟨rfl, by omega⟩) (fun _ => hSn) (Nat.zero_le _) h
          exact TrC.cons ho (.inl ⟨hw, by rw [if_neg hnk]; exact hs⟩) hS (fun _ h => h) (fun e => by cases e) T
        · rename_i hw
          obtain ⟨A, HH, V, T⟩ := wlC_trace l (i + 1) 0 fs S Q _ H hl' hN (.inr ⟨rfl, by omega⟩) (fun _ => hS hki) (Nat.zero_le _) h
          exact TrC.cons ho (.inr ⟨hw, rfl, rfl⟩) hS (fun _ h => h) (fun e => by cases e) T
        · exact h.elim
      | true =>
        unfold wlC at h
        split at h
        · rename_i hw
          obtain ⟨hN', v, S', hs, hS', hst, h⟩ := h
          obtain ⟨A, HH, V, T⟩ := wlC_trace l (i + 1) 0 fs (fun H => S H ∧ S' H) Q _ H hl' hN (.inr ⟨rfl, by omega⟩) (fun _ => ⟨hS hki, hS'⟩) (Nat.zero_le _) h
          refine TrC.cons ho (.inl ⟨hw, by rw [if_neg hnk]; exact hs.weaken hN' (fun f args H v H' h => h.weaken hN')⟩) hS (fun _ h => h.1) (fun _ _ => ⟨rfl, ?_⟩) T
          rcases hst with h1 | ⟨h1, h2⟩
          · exact .inl h1
          · exact .inr ⟨.inl h1, fun H h => h2 H h.2, hs⟩
        · rename_i hw
          obtain ⟨A, HH, V, T⟩ := wlC_trace l (i + 1) 0 fs S Q _ H hl' hN (.inr ⟨rfl, by omega⟩) (fun _ => hS hki) (Nat.zero_le _) h
          exact TrC.cons ho (.inr ⟨hw, rfl, rfl⟩) hS (fun _ h => h) (fun _ hw' => by rw [hw] at hw'; cases hw') T
        · exact h.elim
    | succ q =>
      have hlt : i < k := by omega
      have hle' : q ≤ l.length := by simpa using hle
      have hq' : (q ≠ 0 ∧ i + 1 + q = k) ∨ (q = 0 ∧ k ≤ i + 1) := by
        rcases hq with ⟨_, h1⟩ | ⟨h1, _⟩
        · by_cases e : q = 0
          · exact .inr ⟨e, by omega⟩
          · exact .inl ⟨e, by omega⟩
        · cases h1
      have hq0 : k ≤ i + 1 → q = 0 := fun h1 => by omega
      cases f with
      | false =>
        unfold wlC at h
        split at h
        · rename_i hw
          obtain ⟨v, H1, hs, h, hSq⟩ := wop_sound h
          have hN1 := prot (Nat.le_refl _) hN hs
          obtain ⟨A, HH, V, T⟩ := wlC_trace l (i + 1) q fs S Q _ H1 hl' hN1 hq' (fun h1 => hSq (hq0 h1)) hle' h
          exact TrC.cons ho (.inl ⟨hw, by rw [if_pos hlt]; exact hs⟩) hS (fun _ h => h) (fun e => by cases e) T
        · rename_i hw
          obtain ⟨A, HH, V, T⟩ := wlC_trace l (i + 1) q fs S Q _ H hl' hN hq' (fun h1 => h.2 (hq0 h1)) hle' h.1
          exact TrC.cons ho (.inr ⟨hw, rfl, rfl⟩) hS (fun _ h => h) (fun e => by cases e) T
        · exact h.elim
      | true =>
        unfold wlC at h
        split at h
        · rename_i hw
          obtain ⟨v, S', hs, hst, h, hSq⟩ := h
          obtain ⟨A, HH, V, T⟩ := wlC_trace l (i + 1) q fs (fun H => S H ∧ S' H) Q _ H hl' hN hq' (fun h1 => hSq (hq0 h1)) hle' h
          exact TrC.cons ho (.inl ⟨hw, by rw [if_pos hlt]; exact hs⟩) hS (fun _ h => h.1) (fun _ _ => ⟨rfl, .inr ⟨.inr hlt, fun H h => hst H h.2, hs⟩⟩) T
        · rename_i hw
          obtain ⟨A, HH, V, T⟩ := wlC_trace l (i + 1) q fs S Q _ H hl' hN hq' (fun h1 => h.2 (hq0 h1)) hle' h.1
          exact TrC.cons ho (.inr ⟨hw, rfl, rfl⟩) hS (fun _ h => h) (fun _ hw' => by rw [hw] at hw'; cases hw') T
        · exact h.elim

/-- A drawn region where some readings may stand elsewhere. -/
theorem draw_calm {N n : Nat} {R : AAct → Heap → Prop} {a : AAct} {H : Heap} (k : Nat) (fs : List Bool) (S0 : Heap → Prop) {l : List Oper} (h1 : (Nat.ble k l.length && drawOkC ⟨l⟩ k (stOf 0 fs)) = true) (hN : N ≤ H.size) (hS : k = 0 → S0 H)
    (h : wlC Try.prog N n ⟨l⟩ (stOf 0 fs) k S0 0 k fs l S0 R a H) : drawK Try.prog N n ⟨l⟩ R a H := by
  simp only [Bool.and_eq_true, Nat.ble_eq] at h1
  obtain ⟨A, HH, V, T⟩ := wlC_trace l 0 k fs S0 R a H (fun j hj => by simp) hN (by omega) (fun h => hS (by omega)) h1.1 h
  have hsz : (Array.mk l).size = l.length := rfl
  refine .inr (.inr ⟨k, stOf 0 fs, A, HH, V, .inr follows_try, h1.2, h1.1, T.a0, T.h0, fun i hi => ?_, fun i hi hi2 => ?_, fun j o hj hst hw => ?_, ?_⟩)
  · have := T.at_ i (Nat.zero_le _) (by omega)
    rw [if_pos hi] at this
    exact this
  · have := T.at_ i (Nat.zero_le _) (by omega)
    rw [if_neg (by omega)] at this
    exact this
  · have hjl := get_lt hj
    rw [hsz] at hjl
    have hfl : fs[j - 0]? = some true := by
      have := (stOf_get fs 0 j).1 (by simpa using hst)
      simpa using this
    obtain ⟨g1, g2⟩ := T.still j o (Nat.zero_le _) (by omega) hj hfl hw
    refine ⟨g1, fun c hc1 hc2 hc3 => ?_⟩
    rw [hsz] at hc2
    rcases g2 with g2 | ⟨g2, g3⟩
    · exact g2 _ (T.safe c hc1 (Nat.zero_le _) (by omega))
    · refine g3 c hc1 ?_ (by omega)
      rcases g2 with g2 | g2
      · exact hc3 g2
      · omega
  · have := T.post
    rw [Nat.zero_add] at this
    rw [hsz]
    exact this

/-! ### Rules for the walk -/
section
variable {P : Program} {N n : Nat} {ops : Array Oper} {st : List Nat} {k : Nat} {S0 : Heap → Prop} {i q : Nat} {fs : List Bool} {S : Heap → Prop} {R : AAct → Heap → Prop} {a : AAct} {H : Heap}
def nextT (P : Program) (N n : Nat) (ops : Array Oper) (st : List Nat) (k : Nat) (S0 : Heap → Prop) (i : Nat) (fs : List Bool) (op : Op) (rest : List Oper) (S : Heap → Prop) (d : Option Nat) (a : AAct) (R : AAct → Heap → Prop) (v : Value) (H : Heap) : Prop :=
  (pureOp op = false → S H) ∧ wlC P N n ops st k S0 (i + 1) 0 fs rest S R (put n a d v) H
def nextU (P : Program) (N n : Nat) (ops : Array Oper) (st : List Nat) (k : Nat) (S0 : Heap → Prop) (i q : Nat) (fs : List Bool) (rest : List Oper) (S : Heap → Prop) (d : Option Nat) (a : AAct) (R : AAct → Heap → Prop) (v : Value) (H : Heap) : Prop :=
  wlC P N n ops st k S0 (i + 1) q fs rest S R (put n a d v) H ∧ (q = 0 → S H)
def stillT (P : Program) (N n : Nat) (ops : Array Oper) (st : List Nat) (k : Nat) (S0 : Heap → Prop) (i : Nat) (fs : List Bool) (op : Op) (rest : List Oper) (S : Heap → Prop) (d : Option Nat) (a : AAct) (R : AAct → Heap → Prop) (H : Heap) : Prop :=
  N ≤ H.size ∧ ∃ v S', OpStep P (Call P) H.size a H op v H ∧ S' H ∧ (stillK P a op v S0 ∨ (behind ops k st i = true ∧ stillK P a op v S')) ∧ wlC P N n ops st k S0 (i + 1) 0 fs rest (fun H => S H ∧ S' H) R (put n a d v) H
def stillU (P : Program) (N n : Nat) (ops : Array Oper) (st : List Nat) (k : Nat) (S0 : Heap → Prop) (i q : Nat) (fs : List Bool) (op : Op) (rest : List Oper) (S : Heap → Prop) (d : Option Nat) (a : AAct) (R : AAct → Heap → Prop) (H : Heap) : Prop :=
  ∃ v S', OpStep P (Call P) H.size a H op v H ∧ stillK P a op v S' ∧ wlC P N n ops st k S0 (i + 1) q fs rest (fun H => S H ∧ S' H) R (put n a d v) H ∧ (q = 0 → S H ∧ S' H)
theorem wlC_nil : wlC P N n ops st k S0 i q fs [] S R a H = R a H := by
  unfold wlC
  rfl
theorem wlC_t (d : Option Nat) (op : Op) (t : TypeId) (pos : String) (af : Array Edge) (rest : List Oper) :
    wlC P N n ops st k S0 i 0 (false :: fs) (⟨d, op, t, pos, af, none⟩ :: rest) S R a H = wop P N op a H (nextT P N n ops st k S0 i fs op rest S d a R) := (rfl)
theorem wlC_u (d : Option Nat) (op : Op) (t : TypeId) (pos : String) (af : Array Edge) (rest : List Oper) :
    wlC P N n ops st k S0 i (q + 1) (false :: fs) (⟨d, op, t, pos, af, none⟩ :: rest) S R a H = wop P H.size op a H (nextU P N n ops st k S0 i q fs rest S d a R) := (rfl)
theorem wlC_st (d : Option Nat) (op : Op) (t : TypeId) (pos : String) (af : Array Edge) (rest : List Oper) :
    wlC P N n ops st k S0 i 0 (true :: fs) (⟨d, op, t, pos, af, none⟩ :: rest) S R a H = stillT P N n ops st k S0 i fs op rest S d a R H := (rfl)
theorem wlC_su (d : Option Nat) (op : Op) (t : TypeId) (pos : String) (af : Array Edge) (rest : List Oper) :
    wlC P N n ops st k S0 i (q + 1) (true :: fs) (⟨d, op, t, pos, af, none⟩ :: rest) S R a H = stillU P N n ops st k S0 i q fs op rest S d a R H := (rfl)
theorem nextT_eq (op : Op) (rest : List Oper) (d : Option Nat) (v : Value) : nextT P N n ops st k S0 i fs op rest S d a R v H = ((pureOp op = false → S H) ∧ wlC P N n ops st k S0 (i + 1) 0 fs rest S R (put n a d v) H) := (rfl)
theorem nextU_eq (rest : List Oper) (d : Option Nat) (v : Value) : nextU P N n ops st k S0 i q fs rest S d a R v H = (wlC P N n ops st k S0 (i + 1) q fs rest S R (put n a d v) H ∧ (q = 0 → S H)) := (rfl)
@[congr] theorem nextT_congr (op : Op) (rest : List Oper) (d : Option Nat) : nextT P N n ops st k S0 i fs op rest S d a R = nextT P N n ops st k S0 i fs op rest S d a R := rfl
@[congr] theorem nextU_congr (rest : List Oper) (d : Option Nat) : nextU P N n ops st k S0 i q fs rest S d a R = nextU P N n ops st k S0 i q fs rest S d a R := rfl
@[congr] theorem stillT_congr (op : Op) (rest : List Oper) (d : Option Nat) {a' : AAct} {H' : Heap} (h1 : a = a') (h2 : H = H') : stillT P N n ops st k S0 i fs op rest S d a R H = stillT P N n ops st k S0 i fs op rest S d a' R H' := by rw [h1, h2]
@[congr] theorem stillU_congr (op : Op) (rest : List Oper) (d : Option Nat) {a' : AAct} {H' : Heap} (h1 : a = a') (h2 : H = H') : stillU P N n ops st k S0 i q fs op rest S d a R H = stillU P N n ops st k S0 i q fs op rest S d a' R H' := by rw [h1, h2]
@[congr] theorem wlC_congr (l : List Oper) {i' q' : Nat} {a' : AAct} {H' : Heap} (h0 : i = i') (h1 : a = a') (h2 : H = H') : wlC P N n ops st k S0 i q fs l S R a H = wlC P N n ops st k S0 i' q fs l S R a' H' := by rw [h0, h1, h2]
/-- A guarded operation. -/
def guardC (P : Program) (N n : Nat) (ops : Array Oper) (st : List Nat) (k : Nat) (S0 : Heap → Prop) (i q : Nat) (f : Bool) (fs : List Bool) (g : Option Value) (w : Bool) (d : Option Nat) (op : Op) (t : TypeId) (pos : String) (af : Array Edge) (rest : List Oper) (S : Heap → Prop) (R : AAct → Heap → Prop) (a : AAct) (H : Heap) : Prop :=
  match g with
  | some (.bool b) => if b = w then wlC P N n ops st k S0 i q (f :: fs) (⟨d, op, t, pos, af, none⟩ :: rest) S R a H
      else wlC P N n ops st k S0 (i + 1) (q - 1) fs rest S R (put n a d undef) H ∧ (q = 1 → S H)
  | some (.tuple ⟨[]⟩) => wlC P N n ops st k S0 (i + 1) (q - 1) fs rest S R (put n a d undef) H ∧ (q = 1 → S H)
  | _ => False
theorem wantedA_g (d : Option Nat) (op : Op) (t : TypeId) (pos : String) (af : Array Edge) (j : Nat) (w : Bool) (a : AAct) : wantedA ops ⟨d, op, t, pos, af, some (j, w)⟩ a = (match ((ops[j]?).bind (·.dst)).map a with | some (.bool b) => some (b == w) | some (.tuple ⟨[]⟩) => some false | _ => none) := by
  unfold wantedA
  simp only
  cases (ops[j]?).bind (·.dst) with
  | none => rfl
  | some x =>
    simp only [Option.map_some]
    split <;> simp_all
theorem wlC_g (f : Bool) (d : Option Nat) (op : Op) (t : TypeId) (pos : String) (af : Array Edge) (j : Nat) (w : Bool) (rest : List Oper) :
    wlC P N n ops st k S0 i q (f :: fs) (⟨d, op, t, pos, af, some (j, w)⟩ :: rest) S R a H = guardC P N n ops st k S0 i q f fs (((ops[j]?).bind (·.dst)).map a) w d op t pos af rest S R a H := by
  have hw := wantedA_g (ops := ops) d op t pos af j w a
  have hn : wantedA ops ⟨d, op, t, pos, af, none⟩ a = some true := rfl
  generalize ((ops[j]?).bind (·.dst)).map a = g at *
  unfold guardC
  have skip : wantedA ops ⟨d, op, t, pos, af, some (j, w)⟩ a = some false → wlC P N n ops st k S0 i q (f :: fs) (⟨d, op, t, pos, af, some (j, w)⟩ :: rest) S R a H = (wlC P N n ops st k S0 (i + 1) (q - 1) fs rest S R (put n a d undef) H ∧ (q = 1 → S H)) := by
    intro hw'
    cases q with
    | zero => cases f <;> (conv => lhs; unfold wlC; rw [hw']) <;> simp
    | succ q => cases f <;> (conv => lhs; unfold wlC; rw [hw']) <;> simp
  split
  · rename_i b
    simp only at hw
    by_cases e : b = w
    · rw [if_pos e]
      have hw' : wantedA ops ⟨d, op, t, pos, af, some (j, w)⟩ a = some true := by rw [hw]; simp [e]
      cases q <;> cases f <;> (conv => lhs; unfold wlC; rw [hw']) <;> (conv => rhs; unfold wlC; rw [hn])
    · rw [if_neg e]
      exact skip (by rw [hw]; simp [e])
  · exact skip hw
  · rename_i h1 h2
    have hw' : wantedA ops ⟨d, op, t, pos, af, some (j, w)⟩ a = none := by
      rw [hw]
      split
      · rename_i b; exact absurd rfl (h1 b)
      · exact absurd rfl h2
      · rfl
    apply propext
    constructor
    · intro h
      cases q <;> cases f <;> (unfold wlC at h; rw [hw'] at h; exact h)
    · exact fun h => h.elim
theorem guardC_hit (b : Bool) (f : Bool) (d : Option Nat) (op : Op) (t : TypeId) (pos : String) (af : Array Edge) (rest : List Oper) :
    guardC P N n ops st k S0 i q f fs (some (.bool b)) b d op t pos af rest S R a H = wlC P N n ops st k S0 i q (f :: fs) (⟨d, op, t, pos, af, none⟩ :: rest) S R a H := by
  simp [guardC]
theorem guardC_tf (f : Bool) (d : Option Nat) (op : Op) (t : TypeId) (pos : String) (af : Array Edge) (rest : List Oper) :
    guardC P N n ops st k S0 i q f fs (some (.bool true)) false d op t pos af rest S R a H = (wlC P N n ops st k S0 (i + 1) (q - 1) fs rest S R (put n a d undef) H ∧ (q = 1 → S H)) := by
  simp [guardC]
theorem guardC_ft (f : Bool) (d : Option Nat) (op : Op) (t : TypeId) (pos : String) (af : Array Edge) (rest : List Oper) :
    guardC P N n ops st k S0 i q f fs (some (.bool false)) true d op t pos af rest S R a H = (wlC P N n ops st k S0 (i + 1) (q - 1) fs rest S R (put n a d undef) H ∧ (q = 1 → S H)) := by
  simp [guardC]
theorem guardC_u (w f : Bool) (d : Option Nat) (op : Op) (t : TypeId) (pos : String) (af : Array Edge) (rest : List Oper) :
    guardC P N n ops st k S0 i q f fs (some undef) w d op t pos af rest S R a H = (wlC P N n ops st k S0 (i + 1) (q - 1) fs rest S R (put n a d undef) H ∧ (q = 1 → S H)) := (rfl)
@[congr] theorem guardC_congr (f w : Bool) (d : Option Nat) (op : Op) (t : TypeId) (pos : String) (af : Array Edge) (rest : List Oper) {g g' : Option Value} {a' : AAct} {H' : Heap} (h0 : g = g') (h1 : a = a') (h2 : H = H') :
    guardC P N n ops st k S0 i q f fs g w d op t pos af rest S R a H = guardC P N n ops st k S0 i q f fs g' w d op t pos af rest S R a' H' := by rw [h0, h1, h2]
end
theorem pure_move (x : Operand) : pureOp (.move x) = true := (rfl)
theorem pure_assign (x : Operand) : pureOp (.assign x) = true := (rfl)
theorem pure_pick (x y z : Operand) : pureOp (.pick x y z) = true := (rfl)
theorem pure_bin (o : BinOp) (t s : TypeId) (x y : Operand) : pureOp (.binOp o t x y s) = true := (rfl)
theorem pure_un (o : UnOp) (t : TypeId) (x : Operand) : pureOp (.unOp o t x) = true := (rfl)
theorem pure_ext (x : Operand) (i : Nat) : pureOp (.extract x i) = true := (rfl)
theorem pure_fa (t : TypeId) (x : Operand) (i : Nat) : pureOp (.fieldAddr t x i) = true := (rfl)
theorem pure_ia (t : TypeId) (x y : Operand) : pureOp (.indexAddr t x y) = true := (rfl)
theorem pure_load (t : TypeId) (x : Operand) : pureOp (.load t x) = false := (rfl)
theorem pure_store (t : TypeId) (x y : Operand) : pureOp (.store t x y) = false := (rfl)
theorem pure_conv (s t : TypeId) (x : Operand) : pureOp (.convert s t x) = false := (rfl)
theorem pure_build (t : TypeId) (k : Nat) (ps : Array (Nat × Operand)) : pureOp (.buildSlice t k ps) = false := (rfl)
theorem pure_call (f : Operand) (xs : Array Operand) (ts : Array TypeId) : pureOp (.call ⟨.value f, xs, ts⟩) = false := (rfl)
theorem pure_append (xs : Array Operand) (ts : Array TypeId) : pureOp (.call ⟨.builtin .append, xs, ts⟩) = false := (rfl)
theorem pure_len (xs : Array Operand) (ts : Array TypeId) : pureOp (.call ⟨.builtin .len, xs, ts⟩) = false := (rfl)

/-! ### Readings that give the same -/
theorem conv_still {H : Heap} {x : Operand} {a : AAct} {v : Value} {xs : List (BitVec 8)} (hx : ev a x = v) (h : Sl H v xs) : OpStep Try.prog (Call Try.prog) H.size a H (.convert 47 9 x) (.string (textOf xs)) H := by
  have hw : wop Try.prog H.size (.convert 47 9 x) a H (fun v' H' => v' = .string (textOf xs) ∧ H' = H) := by
    show convK Try.prog H.size 47 9 (ev a x) H _
    rw [hx]
    have : ∀ K : Value → Heap → Prop, K (.string (textOf xs)) H → convK Try.prog H.size 47 9 v H K := fun K hK => by
      unfold convK
      rw [Try.underlying9, Try.underlying47]
      exact conv_text h hK
    exact this _ ⟨rfl, rfl⟩
  obtain ⟨v', H', h1, rfl, rfl⟩ := wop_sound hw
  exact h1
theorem load_still {H : Heap} {x : Operand} {a : AAct} {t : TypeId} {i o : Nat} {vs : List Value} {ex tl : Bool} {v : Value} (hx : ev a x = .pointer (some ⟨i, o, none⟩)) (hi : H[i]? = some (.cells vs ex tl)) (hk : kindOf Try.prog t = some none) (hv : vs[o]? = some v) : OpStep Try.prog (Call Try.prog) H.size a H (.load t x) v H := by
  have hw : wop Try.prog H.size (.load t x) a H (fun v' H' => v' = v ∧ H' = H) := by
    show loadK Try.prog t (ev a x) H _
    rw [hx, load_cell hi hk hv]
    exact ⟨rfl, rfl⟩
  obtain ⟨v', H', h1, rfl, rfl⟩ := wop_sound hw
  exact h1

end Go.Proofs.Ytcapjjmikapmfaa.M
