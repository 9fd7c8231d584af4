/- A list of operations whose order is drawn, held against the model: whatever the order, M's run in the text's order is what comes. -/
import Derived.Test.YtcapjjmikapmfaaMk
set_option linter.unusedVariables false
set_option linter.unusedSimpArgs false
namespace Go.Proofs.Ytcapjjmikapmfaa.M
open Go

theorem quiet_trace {P : Program} {C : CallRel} {n : Nat} {ops : Array Oper} : ∀ (m s : Nat) (a a1 : AAct) (H H1 : Heap), QuietRun P C n ops (List.range' s m) a H a1 H1 →
    ∃ (A : Nat → AAct) (HH : Nat → Heap) (V : Nat → Value), A s = a ∧ HH s = H ∧ A (s + m) = a1 ∧ HH (s + m) = H1 ∧ ∀ i, s ≤ i → i < s + m → At P C n ops (HH i).size A HH V i
  | 0, s, a, a1, H, H1, h => by
    cases h
    exact ⟨fun _ => a, fun _ => H, fun _ => undef, rfl, rfl, rfl, rfl, fun i h1 h2 => by omega⟩
  | m + 1, s, a, a1, H, H1, h => by
    rw [List.range'_succ] at h
    cases h with
    | op ho hw hs hr =>
      rename_i o H2 v
      obtain ⟨A, HH, V, h1, h2, h3, h4, h5⟩ := quiet_trace m (s + 1) _ a1 H2 H1 hr
      refine ⟨fun i => if i = s then a else A i, fun i => if i = s then H else HH i, fun i => if i = s then v else V i, by simp, by simp, ?_, ?_, fun i hi1 hi2 => ?_⟩
      · simp only; rw [if_neg (by omega)]; rw [← h3]; congr 1; omega
      · simp only; rw [if_neg (by omega)]; rw [← h4]; congr 1; omega
      · by_cases e : i = s
        · subst e
          refine ⟨o, ho, ?_, .inl ⟨?_, ?_⟩⟩
          · simp [h1]
          · simpa using hw
          · simpa [h2] using hs
        · obtain ⟨o', a1', a2', a3'⟩ := h5 i (by omega) (by omega)
          have e1 : ¬ (i + 1 = s) := by omega
          refine ⟨o', a1', ?_, ?_⟩
          · simpa [e, e1] using a2'
          · simpa [e, e1] using a3'
    | skip ho hw hr =>
      rename_i o
      obtain ⟨A, HH, V, h1, h2, h3, h4, h5⟩ := quiet_trace m (s + 1) _ a1 H H1 hr
      refine ⟨fun i => if i = s then a else A i, fun i => if i = s then H else HH i, fun i => if i = s then undef else V i, by simp, by simp, ?_, ?_, fun i hi1 hi2 => ?_⟩
      · simp only; rw [if_neg (by omega)]; rw [← h3]; congr 1; omega
      · simp only; rw [if_neg (by omega)]; rw [← h4]; congr 1; omega
      · by_cases e : i = s
        · subst e
          refine ⟨o, ho, ?_, .inr ⟨?_, ?_, ?_⟩⟩
          · simp [h1]
          · simpa using hw
          · simp
          · simp [h2]
        · obtain ⟨o', a1', a2', a3'⟩ := h5 i (by omega) (by omega)
          have e1 : ¬ (i + 1 = s) := by omega
          refine ⟨o', a1', ?_, ?_⟩
          · simpa [e, e1] using a2'
          · simpa [e, e1] using a3'

theorem ops_trace {P : Program} {C : CallRel} {N n : Nat} {ops : Array Oper} : ∀ (m s : Nat) (a a1 : AAct) (H H1 : Heap), OpsRun P C N n ops (List.range' s m) a H a1 H1 →
    ∃ (A : Nat → AAct) (HH : Nat → Heap) (V : Nat → Value), A s = a ∧ HH s = H ∧ A (s + m) = a1 ∧ HH (s + m) = H1 ∧ ∀ i, s ≤ i → i < s + m → At P C n ops N A HH V i
  | 0, s, a, a1, H, H1, h => by
    cases h
    exact ⟨fun _ => a, fun _ => H, fun _ => undef, rfl, rfl, rfl, rfl, fun i h1 h2 => by omega⟩
  | m + 1, s, a, a1, H, H1, h => by
    rw [List.range'_succ] at h
    cases h with
    | op ho hw hs hr =>
      rename_i o H2 v
      obtain ⟨A, HH, V, h1, h2, h3, h4, h5⟩ := ops_trace m (s + 1) _ a1 H2 H1 hr
      refine ⟨fun i => if i = s then a else A i, fun i => if i = s then H else HH i, fun i => if i = s then v else V i, by simp, by simp, ?_, ?_, fun i hi1 hi2 => ?_⟩
      · simp only; rw [if_neg (by omega)]; rw [← h3]; congr 1; omega
      · simp only; rw [if_neg (by omega)]; rw [← h4]; congr 1; omega
      · by_cases e : i = s
        · subst e
          refine ⟨o, ho, ?_, .inl ⟨?_, ?_⟩⟩
          · simp [h1]
          · simpa using hw
          · simpa [h2] using hs
        · obtain ⟨o', a1', a2', a3'⟩ := h5 i (by omega) (by omega)
          have e1 : ¬ (i + 1 = s) := by omega
          refine ⟨o', a1', ?_, ?_⟩
          · simpa [e, e1] using a2'
          · simpa [e, e1] using a3'
    | skip ho hw hr =>
      rename_i o
      obtain ⟨A, HH, V, h1, h2, h3, h4, h5⟩ := ops_trace m (s + 1) _ a1 H H1 hr
      refine ⟨fun i => if i = s then a else A i, fun i => if i = s then H else HH i, fun i => if i = s then undef else V i, by simp, by simp, ?_, ?_, fun i hi1 hi2 => ?_⟩
      · simp only; rw [if_neg (by omega)]; rw [← h3]; congr 1; omega
      · simp only; rw [if_neg (by omega)]; rw [← h4]; congr 1; omega
      · by_cases e : i = s
        · subst e
          refine ⟨o, ho, ?_, .inr ⟨?_, ?_, ?_⟩⟩
          · simp [h1]
          · simpa using hw
          · simp
          · simp [h2]
        · obtain ⟨o', a1', a2', a3'⟩ := h5 i (by omega) (by omega)
          have e1 : ¬ (i + 1 = s) := by omega
          refine ⟨o', a1', ?_, ?_⟩
          · simpa [e, e1] using a2'
          · simpa [e, e1] using a3'

/-- The two halves as one run. -/
theorem whole_trace {P : Program} {C : CallRel} {N n k : Nat} {ops : Array Oper} {a a1 a' : AAct} {H H1 H' : Heap} (hk : k ≤ ops.size) (hq : QuietRun P C n ops (List.range k) a H a1 H1) (ht : OpsRun P C N n ops ((List.range ops.size).drop k) a1 H1 a' H') :
    ∃ (A : Nat → AAct) (HH : Nat → Heap) (V : Nat → Value), A 0 = a ∧ HH 0 = H ∧ HH k = H1 ∧ A ops.size = a' ∧ HH ops.size = H' ∧
      (∀ i, i < k → At P C n ops (HH i).size A HH V i) ∧ (∀ i, k ≤ i → i < ops.size → At P C n ops N A HH V i) := by
  rw [List.range_eq_range'] at hq
  have hd : (List.range ops.size).drop k = List.range' k (ops.size - k) := by
    rw [List.range_eq_range', List.drop_range']; simp
  rw [hd] at ht
  obtain ⟨A1, HH1, V1, p1, p2, p3, p4, p5⟩ := quiet_trace k 0 a a1 H H1 hq
  obtain ⟨A2, HH2, V2, q1, q2, q3, q4, q5⟩ := ops_trace (ops.size - k) k a1 a' H1 H' ht
  simp only [Nat.zero_add] at p3 p4 p5
  rw [show k + (ops.size - k) = ops.size by omega] at q3 q4 q5
  refine ⟨fun i => if i < k then A1 i else A2 i, fun i => if i < k then HH1 i else HH2 i, fun i => if i < k then V1 i else V2 i, ?_, ?_, ?_, ?_, ?_, fun i hi => ?_, fun i hi1 hi2 => ?_⟩
  · by_cases h0 : 0 < k
    · simp only; rw [if_pos h0]; exact p1
    · simp only; rw [if_neg h0]
      have : k = 0 := by omega
      subst this
      rw [q1, ← p3]; exact p1
  · by_cases h0 : 0 < k
    · simp only; rw [if_pos h0]; exact p2
    · simp only; rw [if_neg h0]
      have : k = 0 := by omega
      subst this
      rw [q2, ← p4]; exact p2
  · simp [q2]
  · simp only; rw [if_neg (by omega)]; exact q3
  · simp only; rw [if_neg (by omega)]; exact q4
  · obtain ⟨o, h1, h2, h3⟩ := p5 i (Nat.zero_le _) hi
    have hA : (if i + 1 < k then A1 (i + 1) else A2 (i + 1)) = A1 (i + 1) := by
      split
      · rfl
      · have : i + 1 = k := by omega
        rw [this, q1, p3]
    have hH : (if i + 1 < k then HH1 (i + 1) else HH2 (i + 1)) = HH1 (i + 1) := by
      split
      · rfl
      · have : i + 1 = k := by omega
        rw [this, q2, p4]
    refine ⟨o, h1, ?_, ?_⟩
    · simp only [hA, hi, if_true]; exact h2
    · simp only [hH, hi, if_true]; exact h3
  · obtain ⟨o, h1, h2, h3⟩ := q5 i hi1 hi2
    have e1 : ¬ (i < k) := by omega
    have e2 : ¬ (i + 1 < k) := by omega
    exact ⟨o, h1, by simpa only [e1, e2, if_false] using h2, by simpa only [e1, e2, if_false] using h3⟩

/-! ### What the check of a drawn list says -/

structure DrawOk (ops : Array Oper) (k : Nat) (st : List Nat) : Prop where
  back : Back ops
  temps : ∀ (i j : Nat) (oi oj : Oper) (t : Nat), ops[i]? = some oi → ops[j]? = some oj → oi.dst = some t → t ∈ looks ops oj → i ≠ j → ordered (Region.before ops) i j = true
  tail : ∀ (c j : Nat) (oc oj : Oper), ops[c]? = some oc → ops[j]? = some oj → k ≤ c → j < c → hush st c oc = false → hush st j oj = false → ((Region.before ops).getD c 0).testBit j = true

theorem drawOk_nil {ops : Array Oper} {k : Nat} (h : drawOk ops k = true) : drawOkS ops k [] = true := by
  unfold drawOk at h
  unfold drawOkS hush
  simpa using h

theorem DrawOk.ofC {ops : Array Oper} {k : Nat} {st : List Nat} (h : drawOkC ops k st = true) : DrawOk ops k st := by
  unfold drawOkC at h
  simp only [Bool.and_eq_true, List.all_eq_true, List.mem_range] at h
  obtain ⟨⟨h1, h2⟩, h3⟩ := h
  have get : ∀ {i : Nat} {o : Oper}, ops[i]? = some o → i < ops.size ∧ ops.getD i default = o := by
    intro i o ho
    refine ⟨get_lt ho, ?_⟩
    rw [Array.getD_eq_getD_getElem?, ho]; rfl
  refine ⟨fun i o ho e he hb => ?_, fun i j oi oj t hi hj hd hl hne => ?_, fun c j oc oj hc hj hk hlt hpc hpj => ?_⟩
  · obtain ⟨hi, hg⟩ := get ho
    have := h1 i hi
    rw [hg, Array.all_eq_true_iff_forall_mem] at this
    have := this e he
    rw [hb] at this
    simpa using this
  · obtain ⟨hi', hgi⟩ := get hi
    obtain ⟨hj', hgj⟩ := get hj
    have := h2 i hi'
    rw [hgi, hd] at this
    simp only [List.all_eq_true, List.mem_range] at this
    have := this j hj'
    rw [hgj] at this
    have hc : (looks ops oj).contains t = true := by simpa using hl
    rw [hc] at this
    simpa [hne] using this
  · obtain ⟨hc', hgc⟩ := get hc
    obtain ⟨hj', hgj⟩ := get hj
    have := h3 c hc'
    rw [hgc, hpc] at this
    simp only [Bool.or_false, Bool.or_eq_true, decide_eq_true_eq, List.all_eq_true, List.mem_range] at this
    rcases this with h4 | h4
    · omega
    · have := h4 j hlt
      rw [hgj, hpj] at this
      simpa using this
theorem DrawOk.of {ops : Array Oper} {k : Nat} {st : List Nat} (h : drawOkS ops k st = true) : DrawOk ops k st := by
  refine DrawOk.ofC ?_
  unfold drawOkS at h
  unfold drawOkC
  rw [Bool.and_eq_true] at h
  exact h.1
theorem late_load {ops : Array Oper} {k : Nat} {st : List Nat} (h : drawOkS ops k st = true) : ∀ (j : Nat) (o : Oper), ops[j]? = some o → st.contains j = true → ∃ t r, o.op = .load t (.tmp r) ∧ ∀ (i : Nat) (oi : Oper), ops[i]? = some oi → oi.dst ≠ some r := by
  unfold drawOkS at h
  rw [Bool.and_eq_true] at h
  have h4 := h.2
  simp only [Bool.and_eq_true, List.all_eq_true, List.mem_range] at h4
  have get : ∀ {i : Nat} {o : Oper}, ops[i]? = some o → i < ops.size ∧ ops.getD i default = o := by
    intro i o ho
    refine ⟨get_lt ho, ?_⟩
    rw [Array.getD_eq_getD_getElem?, ho]; rfl
  intro j o hj hst
  obtain ⟨hj', hgj⟩ := get hj
  have hm : j ∈ st := by simpa using hst
  have := (h4 j hm).2
  rw [hgj] at this
  split at this
  · rename_i t r hop
    refine ⟨t, r, hop, fun i oi hi => ?_⟩
    obtain ⟨hi', hgi⟩ := get hi
    simp only [List.all_eq_true, List.mem_range] at this
    have := this i hi'
    rw [hgi] at this
    simpa using this
  · cases this

/-! ### Whatever the order -/

/-- What is so when the operations in D have been carried out. -/
structure Mid (N n k : Nat) (st : List Nat) (ops : Array Oper) (A : Nat → AAct) (HH : Nat → Heap) (ρ0 : Pl) (w0 : World) (D : Nat → Prop) (ρ : Pl) (w : World) (ts : Array Value) : Prop where
  size : ts.size = n
  frame : ∀ t, ∃ m, VR ρ (A m t) (ts.getD t undef) ∧ m ≤ ops.size ∧ (∀ i o, i < m → ops[i]? = some o → o.dst = some t → D i) ∧ (∀ i o, m ≤ i → ops[i]? = some o → o.dst = some t → ¬ D i)
  heap : ∃ c, k ≤ c ∧ c ≤ ops.size ∧ (∀ i o, c ≤ i → ops[i]? = some o → hush st i o = false → ¬ D i) ∧ (k < c → ∀ i o, i < c → ops[i]? = some o → hush st i o = false → D i) ∧ Rel ρ (HH c) w
  dom : ∀ id, (HH 0).size ≤ id → id < (HH ops.size).size → ρ id ≠ none → ∃ i, D i ∧ i < ops.size ∧ (HH i).size ≤ id ∧ id < (HH (i + 1)).size
  grow : Grow N ρ0 ρ (HH 0) (HH ops.size) w0 w

section
variable {P : Program} {C : CallRel} {N n k : Nat} {st : List Nat} {ops : Array Oper} {A : Nat → AAct} {HH : Nat → Heap} {V : Nat → Value}

/-- M's run, as 'whole_trace' has it. -/
structure Tr0 (P : Program) (C : CallRel) (N n k : Nat) (st : List Nat) (ops : Array Oper) (A : Nat → AAct) (HH : Nat → Heap) (V : Nat → Value) : Prop where
  sim : SimC P C
  hN : N ≤ (HH 0).size
  hk : k ≤ ops.size
  ok : DrawOk ops k st
  quiet : ∀ i, i < k → At P C n ops (HH i).size A HH V i
  tail : ∀ i, k ≤ i → i < ops.size → At P C n ops N A HH V i

theorem Tr0.step (T : Tr0 P C N n k st ops A HH V) {i : Nat} (hi : i < ops.size) (hN : N ≤ (HH i).size) : (HH i).size ≤ (HH (i + 1)).size := by
  by_cases h : i < k
  · obtain ⟨o, _, _, h3⟩ := T.quiet i h
    rcases h3 with ⟨_, hs⟩ | ⟨_, _, e⟩
    · exact (hs.prot T.sim (Nat.le_refl _)).1
    · rw [e]; exact Nat.le_refl _
  · obtain ⟨o, _, _, h3⟩ := T.tail i (by omega) hi
    rcases h3 with ⟨_, hs⟩ | ⟨_, _, e⟩
    · exact (hs.prot T.sim hN).1
    · rw [e]; exact Nat.le_refl _

theorem Tr0.mono (T : Tr0 P C N n k st ops A HH V) : ∀ j, j ≤ ops.size → N ≤ (HH j).size ∧ ∀ i, i ≤ j → (HH i).size ≤ (HH j).size := by
  intro j
  induction j with
  | zero =>
    intro _
    refine ⟨T.hN, fun i hi => ?_⟩
    have h0 : i = 0 := by omega
    rw [h0]; exact Nat.le_refl _
  | succ j ih =>
    intro hj
    obtain ⟨h1, h2⟩ := ih (by omega)
    have h3 := T.step (by omega : j < ops.size) h1
    refine ⟨Nat.le_trans h1 h3, fun i hi => ?_⟩
    by_cases e : i = j + 1
    · rw [e]; exact Nat.le_refl _
    · exact Nat.le_trans (h2 i (by omega)) h3

/-- In the quiet half what was there stays. -/
theorem Tr0.stays (T : Tr0 P C N n k st ops A HH V) : ∀ j, j ≤ k → ∀ i, i ≤ j → ∀ id, id < (HH i).size → (HH j)[id]? = (HH i)[id]? := by
  intro j
  induction j with
  | zero =>
    intro _ i hi id _
    have h0 : i = 0 := by omega
    rw [h0]
  | succ j ih =>
    intro hj i hi id hid
    by_cases e : i = j + 1
    · rw [e]
    · have h1 := ih (by omega) i (by omega) id hid
      have h2 := ((T.mono j (by have := T.hk; omega)).2 i (by omega))
      obtain ⟨o, _, _, h3⟩ := T.quiet j (by omega)
      rcases h3 with ⟨_, hs⟩ | ⟨_, _, e'⟩
      · rw [(hs.prot T.sim (Nat.le_refl _)).2 id (by omega)]; exact h1
      · rw [e']; exact h1

theorem Tr0.at_ (T : Tr0 P C N n k st ops A HH V) {i : Nat} (hi : i < ops.size) : ∃ M o, ops[i]? = some o ∧ A (i + 1) = put n (A i) o.dst (V i) ∧ M ≤ (HH i).size ∧ N ≤ M ∧ (i < k → M = (HH i).size) ∧ (k ≤ i → M = N) ∧
    ((wantedA ops o (A i) = some true ∧ OpStep P C M (A i) (HH i) o.op (V i) (HH (i + 1))) ∨ (wantedA ops o (A i) = some false ∧ V i = undef ∧ HH (i + 1) = HH i)) := by
  have hm := (T.mono i (by omega)).1
  by_cases h : i < k
  · obtain ⟨o, h1, h2, h3⟩ := T.quiet i h
    exact ⟨_, o, h1, h2, Nat.le_refl _, hm, fun _ => rfl, fun h' => by omega, h3⟩
  · obtain ⟨o, h1, h2, h3⟩ := T.tail i (by omega) hi
    exact ⟨N, o, h1, h2, hm, Nat.le_refl _, fun h' => by omega, fun _ => rfl, h3⟩

/-- Between two places with no writer of t the temporary t is the same. -/
theorem Tr0.constA (T : Tr0 P C N n k st ops A HH V) {t : Nat} : ∀ (d i : Nat), i + d ≤ ops.size → (∀ q o, i ≤ q → q < i + d → ops[q]? = some o → o.dst ≠ some t) → A (i + d) t = A i t
  | 0, _, _, _ => rfl
  | d + 1, i, h, hw => by
    obtain ⟨M, o, h1, h2, _⟩ := T.at_ (i := i + d) (by omega)
    have hne := hw (i + d) o (by omega) (by omega) h1
    rw [show i + (d + 1) = i + d + 1 by omega, h2, ← Tr0.constA T d i (by omega) (fun q o a b c => hw q o a (by omega) c)]
    unfold put
    cases hd' : o.dst with
    | none => rfl
    | some d' =>
      simp only
      split
      · have : t ≠ d' := fun e => hne (by rw [hd', e])
        simp [this]
      · rfl

/-- What was there at first stays. -/
theorem Tr0.old (T : Tr0 P C N n k st ops A HH V) : ∀ j, j ≤ ops.size → ∀ id, id < N → (HH j)[id]? = (HH 0)[id]?
  | 0, _, _, _ => rfl
  | j + 1, hj, id, hid => by
    obtain ⟨M, o, h1, h2, hM, hN, _, _, h3⟩ := T.at_ (i := j) (by omega)
    rw [← Tr0.old T j (by omega) id hid]
    rcases h3 with ⟨_, hs⟩ | ⟨_, _, e⟩
    · exact (hs.prot T.sim hM).2 id (by omega)
    · rw [e]

/-- M's run; the operations in st give the same wherever they stand. -/
structure Tr (P : Program) (C : CallRel) (N n k : Nat) (st : List Nat) (ops : Array Oper) (A : Nat → AAct) (HH : Nat → Heap) (V : Nat → Value) : Prop extends Tr0 P C N n k st ops A HH V where
  still : ∀ (j : Nat) (o : Oper), ops[j]? = some o → st.contains j = true → pureOp o.op = false → Calm P C ops k st A HH V j o

theorem behind_get {ops : Array Oper} {k j : Nat} {st : List Nat} (h : behind ops k st j = true) {i : Nat} {o : Oper} (hi : ops[i]? = some o) (hk : k ≤ i) (hij : i < j) (hp : hush st i o = false) : ((Region.before ops).getD j 0).testBit i = true := by
  unfold behind at h
  simp only [List.all_eq_true, List.mem_range, Bool.or_eq_true, decide_eq_true_eq] at h
  have := h i hij
  rw [Array.getD_eq_getD_getElem?, hi] at this
  simp only [Option.getD_some, hp] at this
  rcases this with (h1 | h1) | h1
  · omega
  · cases h1
  · exact h1

/-- An operation that looks at no memory, or that gives the same wherever it stands. -/
theorem Tr.calm (T : Tr P C N n k st ops A HH V) {j M : Nat} {o : Oper} (hj : ops[j]? = some o) (hp : hush st j o = true) (hw : wantedA ops o (A j) = some true) (hs : OpStep P C M (A j) (HH j) o.op (V j) (HH (j + 1))) :
    HH (j + 1) = HH j ∧ ∀ c, k ≤ c → c ≤ ops.size → (behind ops k st j = true → j ≤ c) → OpStep P C (HH c).size (A j) (HH c) o.op (V j) (HH c) := by
  unfold hush at hp
  cases hpu : pureOp o.op with
  | true => exact ⟨(hs.pure hpu).1, fun c _ _ _ => (hs.pure hpu).2 _ _⟩
  | false =>
    rw [hpu, Bool.false_or] at hp
    exact T.still j o hj hp hpu hw
/-- Loads from where nothing is written. -/
theorem Tr0.loads (T : Tr0 P C N n k st ops A HH V) (hl : ∀ (j : Nat) (o : Oper), ops[j]? = some o → st.contains j = true → ∃ t r, o.op = .load t (.tmp r) ∧ ∀ (i : Nat) (oi : Oper), ops[i]? = some oi → oi.dst ≠ some r)
    (hfar : ∀ (j : Nat) (o : Oper) (t r : Nat), ops[j]? = some o → st.contains j = true → o.op = .load t (.tmp r) → ∃ b o', A 0 r = .pointer (some ⟨b, o', none⟩) ∧ b < N) : Tr P C N n k st ops A HH V := by
  refine ⟨T, fun j o hj hp hpu hw => ?_⟩
  obtain ⟨t, r, hop, hwr⟩ := hl j o hj hp
  obtain ⟨b, o', hA, hb⟩ := hfar j o t r hj hp hop
  have hjs := get_lt hj
  have hAj : A j r = A 0 r := by
    have := T.constA (t := r) j 0 (by omega) (fun q oq _ _ hq => hwr q oq hq)
    rw [Nat.zero_add] at this
    exact this
  obtain ⟨M, o2, ho2, _, _, _, _, _, hcase⟩ := T.at_ hjs
  rw [hj] at ho2; cases ho2
  rcases hcase with ⟨_, hs⟩ | ⟨hw', _, _⟩
  · rw [hop] at hs ⊢
    obtain ⟨i1, o1, vs, ex, tl, kd, e1, e2, e3, e4, e5⟩ := hs
    refine ⟨e5, fun c _ hc _ => ?_⟩
    have hev : ev (A j) (.tmp r) = A j r := rfl
    rw [hev, hAj, hA] at e1
    have : i1 = b := by cases e1; rfl
    subst this
    refine ⟨i1, o1, vs, ex, tl, kd, by rw [hev, hAj, hA]; exact e1, ?_, e3, e4, rfl⟩
    rw [T.old c hc i1 hb, ← T.old j (by omega) i1 hb]
    exact e2
  · rw [hw] at hw'; cases hw'

theorem Tr.constH (T : Tr P C N n k st ops A HH V) : ∀ (d i : Nat), i + d ≤ ops.size → (∀ q o, i ≤ q → q < i + d → ops[q]? = some o → hush st q o = true) → HH (i + d) = HH i
  | 0, _, _, _ => rfl
  | d + 1, i, h, hw => by
    obtain ⟨M, o, h1, h2, _, _, _, _, h3⟩ := T.at_ (i := i + d) (by omega)
    have hp := hw (i + d) o (by omega) (by omega) h1
    rw [show i + (d + 1) = i + d + 1 by omega, ← Tr.constH T d i (by omega) (fun q o a b c => hw q o a (by omega) c)]
    rcases h3 with ⟨hw', hs⟩ | ⟨_, _, e⟩
    · exact (T.calm h1 hp hw' hs).1
    · exact e

theorem Mid.next (T : Tr P C N n k st ops A HH V) {ρ0 : Pl} {w0 : World} {D : Nat → Prop} {ρ : Pl} {w : World} {ts : Array Value} (h0 : Free ρ0 (HH 0) (HH ops.size)) (M : Mid N n k st ops A HH ρ0 w0 D ρ w ts) (hD : Closed ops D)
    {j : Nat} {o : Oper} (hj : ops[j]? = some o) (hjD : ¬ D j) (hready : ∀ e ∈ o.after, Region.binds .any e = true → D e.on) :
    ∃ ρ' ts' w', Mid N n k st ops A HH ρ0 w0 (fun i => D i ∨ i = j) ρ' w' ts' ∧
      ∀ (rest : List Nat) (fn : FuncId) (kk : List Item) (ds : List Deferred) (rd : Option Nat) (cs : List Frame), Steps P (lone (mkF fn ts (.inRegion ops (j :: rest) :: kk) ds rd) cs w) (lone (mkF fn ts' (.inRegion ops rest :: kk) ds rd) cs w') := by
  have hjs := get_lt hj
  have hback := T.ok.back
  have hbefore := closed_before hback hD
  have hordj : ∀ i, ((Region.before ops).getD j 0).testBit i = true → D i := hbefore j o hj hready
  -- two operations that meet in a temporary
  have hmeet : ∀ (i : Nat) (oi : Oper) (t : Nat), ops[i]? = some oi → oi.dst = some t → t ∈ looks ops o → i ≠ j → (i < j → D i) ∧ (j < i → ¬ D i) := by
    intro i oi t hi hd hl hne
    have hord := T.ok.temps i j oi o t hi hj hd hl hne
    unfold ordered at hord
    refine ⟨fun hlt => ?_, fun hlt hDi => ?_⟩
    · rw [Nat.max_eq_right (by omega), Nat.min_eq_left (by omega)] at hord
      exact hordj i hord
    · rw [Nat.max_eq_left (by omega), Nat.min_eq_right (by omega)] at hord
      exact hjD (hbefore i oi hi (fun e he hb => hD i oi hDi hi e he hb) j hord)
  -- the frame, where the operation looks
  have hframe : ∀ t, t ∈ looks ops o → VR ρ (A j t) (ts.getD t undef) := by
    intro t ht
    obtain ⟨m, hv, hms, hlo, hhi⟩ := M.frame t
    have : A j t = A m t := by
      rcases Nat.le_total m j with hmj | hjm
      · obtain ⟨d, rfl⟩ : ∃ d, j = m + d := ⟨j - m, by omega⟩
        refine T.constA d m (by omega) (fun q oq h1 h2 hq hdq => ?_)
        exact hhi q oq h1 hq hdq ((hmeet q oq t hq hdq ht (by omega)).1 (by omega))
      · obtain ⟨d, rfl⟩ : ∃ d, m = j + d := ⟨m - j, by omega⟩
        refine (T.constA d j (by omega) (fun q oq h1 h2 hq hdq => ?_)).symm
        by_cases e : q = j
        · subst e; exact hjD (hlo q oq (by omega) hq hdq)
        · exact (hmeet q oq t hq hdq ht e).2 (by omega) (hlo q oq (by omega) hq hdq)
    rw [this]; exact hv
  obtain ⟨aj, haj⟩ : ∃ aj : AAct, aj = fun t => if t ∈ looks ops o then A j t else U := ⟨_, rfl⟩
  have hFR : FR ρ n aj ts := ⟨M.size, fun t => by
    rw [haj]
    by_cases ht : t ∈ looks ops o
    · simp only [ht, if_true]; exact hframe t ht
    · simp only [ht, if_false]; exact .any _⟩
  have haj_at : ∀ t, t ∈ looks ops o → aj t = A j t := fun t ht => by rw [haj]; simp [ht]
  have hguard : ∀ b, wantedA ops o (A j) = some b → wantedA ops o aj = some b := by
    intro b hb
    rw [← hb]
    unfold wantedA
    cases hg : o.guard with
    | none => rfl
    | some p =>
      obtain ⟨g, want⟩ := p
      simp only
      cases hd : (ops[g]?).bind (·.dst) with
      | none => rfl
      | some d =>
        simp only
        rw [haj_at d (by unfold looks; rw [hg]; simp [hd])]
  have hagree : Agree o.op (A j) aj := by
    intro x hx
    refine ev_congr (fun t ht => (haj_at t ?_).symm)
    subst ht
    unfold looks
    simp only [List.mem_append]
    left; right
    rw [List.mem_filterMap]
    exact ⟨.tmp t, by simpa using hx, rfl⟩
  obtain ⟨Mj, o', ho', hA, hMj, hNM, hMq, hMt, hcase⟩ := T.at_ hjs
  rw [hj] at ho'; cases ho'
  obtain ⟨hNj, hmonoj⟩ := T.mono j (by omega)
  have hsizes := (T.mono ops.size (Nat.le_refl _)).2
  -- the frame behind the operation
  have newFrame : ∀ (ρ' : Pl) (v' : Value), (∀ i p, ρ i = some p → ρ' i = some p) → VR ρ' (V j) v' →
      ∀ t, ∃ m, VR ρ' (A m t) ((setT ts o.dst v').getD t undef) ∧ m ≤ ops.size ∧ (∀ i oi, i < m → ops[i]? = some oi → oi.dst = some t → D i ∨ i = j) ∧ (∀ i oi, m ≤ i → ops[i]? = some oi → oi.dst = some t → ¬ (D i ∨ i = j)) := by
    intro ρ' v' hext hv t
    have hput := ((hFR.mono hext).put o.dst hv).2 t
    by_cases ht : o.dst = some t
    · have hlt : t ∈ looks ops o := by unfold looks; simp [ht]
      refine ⟨j + 1, ?_, by omega, fun i oi h1 h2 h3 => ?_, fun i oi h1 h2 h3 => ?_⟩
      · have : put n aj o.dst (V j) t = A (j + 1) t := by
          rw [hA]
          unfold put
          rw [ht]
          simp only
          split
          · simp
          · exact haj_at t hlt
        rw [← this]; exact hput
      · by_cases e : i = j
        · exact .inr e
        · exact .inl ((hmeet i oi t h2 h3 hlt e).1 (by omega))
      · rintro (h4 | h4)
        · exact (hmeet i oi t h2 h3 hlt (by omega)).2 (by omega) h4
        · omega
    · obtain ⟨m, hv1, hms, hlo, hhi⟩ := M.frame t
      refine ⟨m, ?_, hms, fun i oi h1 h2 h3 => .inl (hlo i oi h1 h2 h3), fun i oi h1 h2 h3 => ?_⟩
      · have : (setT ts o.dst v').getD t undef = ts.getD t undef := by
          unfold setT
          split
          · rename_i d hd
            rw [getD_set, if_neg]
            rintro ⟨e, _⟩
            exact ht (by rw [hd, e])
          · rfl
        rw [this]; exact hv1.mono hext
      · rintro (h4 | h4)
        · exact hhi i oi h1 h2 h3 h4
        · subst h4
          rw [hj] at h2; cases h2
          exact ht h3
  have newSize : ∀ v', (setT ts o.dst v').size = n := by
    intro v'
    unfold setT
    split <;> simp [M.size]
  -- what Grow says when one operation more has been carried out
  have newGrow : ∀ (ρ' : Pl) (w' : World), Grow Mj ρ ρ' (HH j) (HH (j + 1)) w w' → Grow N ρ0 ρ' (HH 0) (HH ops.size) w0 w' := by
    intro ρ' w' g
    have hs1 := hsizes (j + 1) (by omega)
    have hs2 := hsizes 0 (by omega)
    have hs3 := hmonoj 0 (by omega)
    have hs4 := hsizes j (by omega)
    exact {
      hsize := hs2
      ext := fun i p h => g.ext i p (M.grow.ext i p h)
      new := fun i p h h' => by
        cases e : ρ i with
        | none => have := g.new i p h e; omega
        | some q => exact M.grow.new i q e h'
      fresh := fun i b s E h h' hb => by
        cases e : ρ i with
        | some q =>
          have := g.ext _ _ e
          rw [h] at this; cases this
          exact M.grow.fresh i b s E e h' hb
        | none =>
          obtain ⟨i0, s0, E0, h1, h2, h3⟩ := g.fresh i b s E h e (Nat.lt_of_lt_of_le hb M.grow.size)
          cases e0 : ρ0 i0 with
          | some q =>
            have := M.grow.ext _ _ e0
            rw [h3] at this; cases this
            refine ⟨i0, s0, E0, ?_, by omega, e0⟩
            rcases Nat.lt_or_ge i0 (HH 0).size with h5 | h5
            · exact h5
            · rw [h0 i0 h5 (by omega)] at e0; cases e0
          | none => exact M.grow.fresh i0 b s0 E0 h3 e0 hb
      os := g.os.trans M.grow.os
      tape := g.tape.trans M.grow.tape
      output := g.output.trans M.grow.output
      size := Nat.le_trans M.grow.size g.size
      keep := fun b hb hh => by
        rw [g.keep b (Nat.lt_of_lt_of_le hb M.grow.size) ?_]
        · exact M.grow.keep b hb hh
        · intro i s E hi hr
          cases e0 : ρ0 i with
          | some q =>
            have := M.grow.ext _ _ e0
            rw [hr] at this; cases this
            rcases Nat.lt_or_ge i (HH 0).size with h5 | h5
            · have := hh i s E h5 e0; omega
            · rw [h0 i h5 (by omega)] at e0; cases e0
          | none =>
            obtain ⟨i0, s0, E0, h1, h2, h3⟩ := M.grow.fresh i b s E hr e0 hb
            have := hh i0 s0 E0 h1 h3
            omega }
  have newDom : ∀ (ρ' : Pl), (∀ i p, ρ' i = some p → ρ i = none → (HH j).size ≤ i ∧ i < (HH (j + 1)).size) →
      ∀ id, (HH 0).size ≤ id → id < (HH ops.size).size → ρ' id ≠ none → ∃ i, (D i ∨ i = j) ∧ i < ops.size ∧ (HH i).size ≤ id ∧ id < (HH (i + 1)).size := by
    intro ρ' hnew id h1 h2 h3
    cases e : ρ id with
    | some q =>
      obtain ⟨i, h4, h5⟩ := M.dom id h1 h2 (by rw [e]; simp)
      exact ⟨i, .inl h4, h5⟩
    | none =>
      cases e' : ρ' id with
      | none => exact absurd e' h3
      | some p =>
        have := hnew id p e' e
        exact ⟨j, .inr rfl, hjs, this.1, this.2⟩
  -- nothing lies where the operation's new blocks come to lie
  have hfree : Free ρ (HH j) (HH (j + 1)) := by
    intro id h1 h2
    cases e : ρ id with
    | none => rfl
    | some q =>
      have hs1 := hsizes (j + 1) (by omega)
      have hs3 := hmonoj 0 (by omega)
      obtain ⟨i, h3, h4, h5, h6⟩ := M.dom id (by omega) (by omega) (by rw [e]; simp)
      have hne : i ≠ j := fun e => hjD (e ▸ h3)
      rcases Nat.lt_or_gt_of_ne hne with hlt | hgt
      · have := hmonoj (i + 1) (by omega)
        omega
      · have := (T.mono i (by omega)).2 (j + 1) (by omega)
        omega
  obtain ⟨c, hkc, hcs, hc1, hc2, hrel⟩ := M.heap
  have hnew0 : ∀ {H : Heap} {M0 : Nat} {ρ' : Pl} {w' : World}, Grow M0 ρ ρ' H H w w' → ∀ i p, ρ' i = some p → ρ i = none → (HH j).size ≤ i ∧ i < (HH (j + 1)).size := by
    intro H M0 ρ' w' g i p h1 h2
    have := g.new i p h1 h2
    omega
  -- for tail operations that look at memory: all such ones ahead have been carried out
  have htail : k ≤ j → hush st j o = false → c ≤ j ∧ HH c = HH j ∧ (∀ i oi, i < j → ops[i]? = some oi → hush st i oi = false → D i) ∧ (∀ i oi, j < i → ops[i]? = some oi → hush st i oi = false → ¬ D i) := by
    intro hkj hp
    have hall : ∀ i oi, i < j → ops[i]? = some oi → hush st i oi = false → D i := fun i oi h1 h2 h3 => hordj i (T.ok.tail j i o oi hj h2 hkj h1 hp h3)
    have hcj : c ≤ j := by
      rcases Nat.lt_or_ge j c with h1 | h1
      · exact absurd (hc2 (by omega) j o h1 hj hp) hjD
      · exact h1
    refine ⟨hcj, ?_, hall, fun i oi h1 h2 h3 hDi => hjD (hbefore i oi h2 (fun e he hb => hD i oi hDi h2 e he hb) j (T.ok.tail i j oi o h2 hj (by omega) h1 h3 hp))⟩
    obtain ⟨d, rfl⟩ : ∃ d, j = c + d := ⟨j - c, by omega⟩
    refine (T.constH d c (by omega) (fun q oq h1 h2 hq => ?_)).symm
    cases hpq : hush st q oq with
    | true => rfl
    | false => exact absurd (hall q oq (by omega) hq hpq) (hc1 q oq h1 hq hpq)
  rcases hcase with ⟨hw, hs⟩ | ⟨hw, hV, hH⟩
  · have hwc := wantedA_sound hFR (hguard _ hw)
    by_cases hp : hush st j o = true
    · -- no memory
      have hs2 : OpStep P C (HH c).size (A j) (HH c) o.op (V j) (HH c) := by
        by_cases hlt : behind ops k st j = true ∧ c < j
        · have hHj : HH j = HH c := by
            obtain ⟨d, hd⟩ : ∃ d, j = c + d := ⟨j - c, by omega⟩
            have := T.constH d c (by omega) (fun q oq h1 h2 hq => by
              cases hpq : hush st q oq with
              | true => rfl
              | false => exact absurd (hordj q (behind_get hlt.1 hq (by omega) (by omega) hpq)) (hc1 q oq h1 hq hpq))
            rw [hd]; exact this
          rw [← hHj]
          exact (T.calm hj hp hw hs).2 j (by omega) (by omega) (fun _ => Nat.le_refl _)
        · exact (T.calm hj hp hw hs).2 c hkc hcs (fun h => by
            rcases Nat.lt_or_ge c j with h1 | h1
            · exact absurd ⟨h, h1⟩ hlt
            · exact h1)
      obtain ⟨ρ', v', w', g, r', hv, hl⟩ := (hs2.agree hagree).sound T.sim (Nat.le_refl _) (fun i h1 h2 => by omega) hrel hFR o rfl
      have g' : Grow Mj ρ ρ' (HH j) (HH (j + 1)) w w' := by
        have hHj := (T.calm hj hp hw hs).1
        exact {
          hsize := by rw [hHj]; exact Nat.le_refl _
          ext := g.ext
          new := fun i p h1 h2 => by have := g.new i p h1 h2; omega
          fresh := fun i b s E h1 h2 h3 => by have := g.new i _ h1 h2; omega
          os := g.os
          tape := g.tape
          output := g.output
          size := g.size
          keep := fun b hb _ => g.keep b hb (fun i s E hi _ => hi) }
      refine ⟨ρ', setT ts o.dst v', w', ⟨newSize v', newFrame ρ' v' g.ext hv, ⟨c, hkc, hcs, fun i oi h1 h2 h3 => ?_, fun h4 i oi h1 h2 h3 => .inl (hc2 h4 i oi h1 h2 h3), r'⟩, newDom ρ' (hnew0 g), newGrow ρ' w' g'⟩, fun rest fn kk ds rd cs => steps_op hj hwc hs.noDefer hl⟩
      rintro (h4 | h4)
      · exact hc1 i oi h1 h2 h3 h4
      · subst h4; rw [hj] at h2; cases h2; rw [hp] at h3; cases h3
    · have hp' : hush st j o = false := by simpa using hp
      by_cases hjk : j < k
      · -- quiet
        have hck : c = k := by
          rcases Nat.lt_or_ge k c with h1 | h1
          · exact absurd (hc2 h1 j o (by omega) hj hp') hjD
          · omega
        subst hck
        have hM := hMq hjk
        subst hM
        have hst := T.stays c (Nat.le_refl _) j (by omega)
        have hst1 := T.stays c (Nat.le_refl _) (j + 1) (by omega)
        have hsz := (T.mono c hcs).2 j (by omega)
        have hsz1 := (T.mono c hcs).2 (j + 1) (by omega)
        have hrj : Rel ρ (HH j) w := ⟨fun i b s E hi h => hrel.lt i b s E (by omega) h, fun i b s E x h hx => hrel.blk i b s E x h (by rw [hst i (get_lt hx)]; exact hx),
          fun i q b s s' E E' x y hne hi hq hx hy => hrel.sep i q b s s' E E' x y hne hi hq (by rw [hst i (get_lt hx)]; exact hx) (by rw [hst q (get_lt hy)]; exact hy)⟩
        obtain ⟨ρ', v', w', g, r', hv, hl⟩ := (hs.agree hagree).sound T.sim (Nat.le_refl _) hfree hrj hFR o rfl
        have hsame : ∀ b, b < w.heap.size → w'.heap[b]? = w.heap[b]? := fun b hb => g.keep b hb (fun i s E hi _ => hi)
        have hnf : ∀ i b s E, ρ' i = some (b, s, E) → ρ i = none → w.heap.size ≤ b := by
          intro i b s E h1 h2
          rcases Nat.lt_or_ge b w.heap.size with h3 | h3
          · obtain ⟨i0, s0, E0, h4, h5, _⟩ := g.fresh i b s E h1 h2 h3; omega
          · exact h3
        have hrel' : Rel ρ' (HH c) w' := by
          refine ⟨fun i b s E hi h => ?_, fun i b s E x h hx => ?_, fun i q b s s' E E' x y hne hi hq hx hy => ?_⟩
          · cases e : ρ i with
            | some p =>
              have := g.ext _ _ e
              rw [h] at this; cases this
              exact Nat.lt_of_lt_of_le (hrel.lt i b s E hi e) g.size
            | none => exact r'.lt i b s E (g.new i _ h e).2 h
          · cases e : ρ i with
            | some p =>
              have := g.ext _ _ e
              rw [h] at this; cases this
              exact (hrel.blk i b s E x e hx).keep g.ext (hsame b (hrel.lt i b s E (get_lt hx) e))
            | none =>
              have hlt := (g.new i _ h e).2
              exact r'.blk i b s E x h (by rw [← hst1 i hlt]; exact hx)
          · cases e : ρ i with
            | some p =>
              have := g.ext _ _ e
              rw [hi] at this; cases this
              cases e2 : ρ q with
              | some p2 =>
                have := g.ext _ _ e2
                rw [hq] at this; cases this
                exact hrel.sep i q b s s' E E' x y hne e e2 hx hy
              | none =>
                have h1 := hnf q b s' E' hq e2
                have h2 := hrel.lt i b s E (get_lt hx) e
                omega
            | none =>
              cases e2 : ρ q with
              | some p2 =>
                have := g.ext _ _ e2
                rw [hq] at this; cases this
                have h1 := hnf i b s E hi e
                have h2 := hrel.lt q b s' E' (get_lt hy) e2
                omega
              | none =>
                have h1 := (g.new i _ hi e).2
                have h2 := (g.new q _ hq e2).2
                exact r'.sep i q b s s' E E' x y hne hi hq (by rw [← hst1 i h1]; exact hx) (by rw [← hst1 q h2]; exact hy)
        refine ⟨ρ', setT ts o.dst v', w', ⟨newSize v', newFrame ρ' v' g.ext hv, ⟨c, hkc, hcs, fun i oi h1 h2 h3 => ?_, fun h4 => by omega, hrel'⟩, newDom ρ' g.new, newGrow ρ' w' g⟩, fun rest fn kk ds rd cs => steps_op hj hwc hs.noDefer hl⟩
        rintro (h4 | h4)
        · exact hc1 i oi h1 h2 h3 h4
        · omega
      · -- the tail
        obtain ⟨hcj, hHc, hall, hnone⟩ := htail (by omega) hp'
        rw [hHc] at hrel
        obtain ⟨ρ', v', w', g, r', hv, hl⟩ := (hs.agree hagree).sound T.sim hMj hfree hrel hFR o rfl
        refine ⟨ρ', setT ts o.dst v', w', ⟨newSize v', newFrame ρ' v' g.ext hv, ⟨j + 1, by omega, by omega, fun i oi h1 h2 h3 => ?_, fun _ i oi h1 h2 h3 => ?_, r'⟩, newDom ρ' g.new, newGrow ρ' w' g⟩, fun rest fn kk ds rd cs => steps_op hj hwc hs.noDefer hl⟩
        · rintro (h4 | h4)
          · exact hnone i oi (by omega) h2 h3 h4
          · omega
        · by_cases e : i = j
          · exact .inr e
          · exact .inl (hall i oi (by omega) h2 h3)
  · -- passed over
    have hwc := wantedA_sound hFR (hguard _ hw)
    have hskip : ∀ (rest : List Nat) (fn : FuncId) (kk : List Item) (ds : List Deferred) (rd : Option Nat) (cs : List Frame), Steps P (lone (mkF fn ts (.inRegion ops (j :: rest) :: kk) ds rd) cs w) (lone (mkF fn (setT ts o.dst undef) (.inRegion ops rest :: kk) ds rd) cs w) := by
      intro rest fn kk ds rd cs
      have := stp_opSkip (P := P) (fn := fn) (ts := ts) (k := kk) (ds := ds) (rd := rd) (cs := cs) (w := w) (ops := ops) (i := j) (rest := rest) (by rw [hj]; simpa using hwc)
      rw [hj] at this
      exact .one this
    have gR : Grow Mj ρ ρ (HH j) (HH (j + 1)) w w := by rw [hH]; exact Grow.refl _ _ _ _
    have hvu : VR ρ (V j) undef := by rw [hV]; exact VR.undef ρ
    have mkMid : (∃ c, k ≤ c ∧ c ≤ ops.size ∧ (∀ i o, c ≤ i → ops[i]? = some o → hush st i o = false → ¬ (D i ∨ i = j)) ∧ (k < c → ∀ i o, i < c → ops[i]? = some o → hush st i o = false → (D i ∨ i = j)) ∧ Rel ρ (HH c) w) →
        ∃ ρ' ts' w', Mid N n k st ops A HH ρ0 w0 (fun i => D i ∨ i = j) ρ' w' ts' ∧
          ∀ (rest : List Nat) (fn : FuncId) (kk : List Item) (ds : List Deferred) (rd : Option Nat) (cs : List Frame), Steps P (lone (mkF fn ts (.inRegion ops (j :: rest) :: kk) ds rd) cs w) (lone (mkF fn ts' (.inRegion ops rest :: kk) ds rd) cs w') := fun hh =>
      ⟨ρ, setT ts o.dst undef, w, ⟨newSize undef, newFrame ρ undef (fun _ _ h => h) hvu, hh, newDom ρ (fun i p h h' => by rw [h] at h'; cases h'), newGrow ρ w gR⟩, hskip⟩
    refine mkMid ?_
    by_cases hp : hush st j o = true
    · refine ⟨c, hkc, hcs, fun i oi h1 h2 h3 => ?_, fun h4 i oi h1 h2 h3 => .inl (hc2 h4 i oi h1 h2 h3), hrel⟩
      rintro (h4 | h4)
      · exact hc1 i oi h1 h2 h3 h4
      · subst h4; rw [hj] at h2; cases h2; rw [hp] at h3; cases h3
    · have hp' : hush st j o = false := by simpa using hp
      by_cases hjk : j < k
      · refine ⟨c, hkc, hcs, fun i oi h1 h2 h3 => ?_, fun h4 i oi h1 h2 h3 => .inl (hc2 h4 i oi h1 h2 h3), hrel⟩
        rintro (h4 | h4)
        · exact hc1 i oi h1 h2 h3 h4
        · omega
      · obtain ⟨hcj, hHc, hall, hnone⟩ := htail (by omega) hp'
        refine ⟨j + 1, by omega, by omega, fun i oi h1 h2 h3 => ?_, fun _ i oi h1 h2 h3 => ?_, by rw [hH, ← hHc]; exact hrel⟩
        · rintro (h4 | h4)
          · exact hnone i oi (by omega) h2 h3 h4
          · omega
        · by_cases e : i = j
          · exact .inr e
          · exact .inl (hall i oi (by omega) h2 h3)

end

end Go.Proofs.Ytcapjjmikapmfaa.M
