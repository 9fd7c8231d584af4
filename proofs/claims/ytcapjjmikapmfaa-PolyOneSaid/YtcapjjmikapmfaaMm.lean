/- A list of operations whose order is drawn, held against the model: the induction over the order. -/
import Derived.Test.YtcapjjmikapmfaaMl
set_option linter.unusedVariables false
set_option linter.unusedSimpArgs false
namespace Go.Proofs.Ytcapjjmikapmfaa.M
open Go

theorem countP_lt {α : Type} {p q : α → Bool} : ∀ (l : List α), (∀ x, q x = true → p x = true) → (∃ x ∈ l, p x = true ∧ q x = false) → l.countP q < l.countP p
  | [], _, h => by obtain ⟨x, hx, _⟩ := h; cases hx
  | a :: l, hq, h => by
    have hle : l.countP q ≤ l.countP p := List.countP_mono_left (fun x _ => hq x)
    obtain ⟨x, hx, hp, hn⟩ := h
    simp only [List.countP_cons]
    rcases List.mem_cons.1 hx with rfl | hx'
    · simp [hp, hn]; omega
    · have := countP_lt l hq ⟨x, hx', hp, hn⟩
      cases h1 : q a with
      | true => simp [hq a h1]; omega
      | false => simp; split <;> omega

section
variable {P : Program} {C : CallRel} {N n k : Nat} {st : List Nat} {ops : Array Oper} {A : Nat → AAct} {HH : Nat → Heap} {V : Nat → Value}

def left (ops : Array Oper) (listed : Array Bool) : Nat := (List.range ops.size).countP fun i => !listed.getD i true

theorem getD_setB (l : Array Bool) (i j : Nat) (d : Bool) (hi : i < l.size) : (l.setIfInBounds i true).getD j d = if j = i then true else l.getD j d := by
  simp only [Array.getD_eq_getD_getElem?, Array.getElem?_setIfInBounds]
  by_cases h : i = j
  · subst h; simp [hi]
  · simp [h, Ne.symm h]

theorem Mid.all (T : Tr P C N n k st ops A HH V) {ρ0 : Pl} {w0 : World} {D : Nat → Prop} {ρ : Pl} {w : World} {ts : Array Value} (M : Mid N n k st ops A HH ρ0 w0 D ρ w ts) (hall : ∀ i, i < ops.size → D i) :
    Rel ρ (HH ops.size) w ∧ FR ρ n (A ops.size) ts := by
  obtain ⟨c, hkc, hcs, hc1, _, hrel⟩ := M.heap
  constructor
  · have : HH ops.size = HH c := by
      obtain ⟨d, hd⟩ : ∃ d, ops.size = c + d := ⟨ops.size - c, by omega⟩
      have := T.constH d c (by omega) (fun q oq h1 h2 hq => by
        cases hp : hush st q oq with
        | true => rfl
        | false => exact absurd (hall q (get_lt hq)) (hc1 q oq h1 hq hp))
      rw [hd]; exact this
    rw [this]; exact hrel
  · refine ⟨M.size, fun t => ?_⟩
    obtain ⟨m, hv, hms, _, hhi⟩ := M.frame t
    have : A ops.size t = A m t := by
      obtain ⟨d, hd⟩ : ∃ d, ops.size = m + d := ⟨ops.size - m, by omega⟩
      have := T.constA (t := t) d m (by omega) (fun q oq h1 h2 hq hdq => hhi q oq h1 hq hdq (hall q (get_lt hq)))
      rw [hd]; exact this
    rw [this]; exact hv

theorem go_sound (T : Tr P C N n k st ops A HH V) {ρ0 : Pl} {w0 : World} (h0 : Free ρ0 (HH 0) (HH ops.size)) : ∀ (fuel t : Nat) (listed : Array Bool) (ρ : Pl) (w : World) (ts : Array Value), listed.size = ops.size → left ops listed ≤ fuel →
    Closed ops (fun i => listed.getD i false = true) → Mid N n k st ops A HH ρ0 w0 (fun i => listed.getD i false = true) ρ w ts →
    ∃ ρ' ts' w', Rel ρ' (HH ops.size) w' ∧ FR ρ' n (A ops.size) ts' ∧ Grow N ρ0 ρ' (HH 0) (HH ops.size) w0 w' ∧
      ∀ (fn : FuncId) (kk : List Item) (ds : List Deferred) (rd : Option Nat) (cs : List Frame), Steps P (lone (mkF fn ts (.inRegion ops (Region.linearise.go .any ops fuel t listed []) :: kk) ds rd) cs w) (lone (mkF fn ts' (.inRegion ops [] :: kk) ds rd) cs w') := by
  intro fuel
  induction fuel with
  | zero =>
    intro t listed ρ w ts hsz hleft hcl M
    have hall : ∀ i, i < ops.size → listed.getD i false = true := by
      intro i hi
      have h1 : (List.range ops.size).countP (fun i => !listed.getD i true) = 0 := Nat.le_zero.1 hleft
      have := List.countP_eq_zero.1 h1 i (List.mem_range.2 hi)
      rw [Array.getD_eq_getD_getElem?, Array.getElem?_eq_getElem (by omega)] at this ⊢
      simpa using this
    obtain ⟨h1, h2⟩ := M.all T hall
    exact ⟨ρ, ts, w, h1, h2, M.grow, fun fn kk ds rd cs => by simpa [Region.linearise.go] using Steps.refl _ _⟩
  | succ fuel ih =>
    intro t listed ρ w ts hsz hleft hcl M
    cases hi : (Region.ready .any ops listed)[t % (Region.ready .any ops listed).length]? with
    | none =>
      have hnil : Region.ready .any ops listed = [] := by
        cases hr : Region.ready .any ops listed with
        | nil => rfl
        | cons x xs =>
          rw [hr] at hi
          have hlt : t % (x :: xs).length < (x :: xs).length := Nat.mod_lt _ (by simp)
          simp at hi
          simp at hlt
          omega
      have hall : ∀ i, i < ops.size → listed.getD i false = true := by
        intro i
        induction i using Nat.strongRecOn with
        | _ i ihi =>
          intro hi
          cases hl : listed.getD i false with
          | true => rfl
          | false =>
            exfalso
            have hmem : i ∈ Region.ready .any ops listed := by
              unfold Region.ready
              rw [List.mem_filter]
              refine ⟨List.mem_range.2 hi, ?_⟩
              have hl2 : listed.getD i true = false := by
                rw [Array.getD_eq_getD_getElem?, Array.getElem?_eq_getElem (by omega)] at hl ⊢
                simpa using hl
              rw [hl2, Array.getElem?_eq_getElem hi]
              simp only [Bool.not_false, Option.map_some, Option.getD_some, Bool.true_and]
              rw [Array.all_eq_true_iff_forall_mem]
              intro e he
              cases hb : Region.binds .any e with
              | false => rfl
              | true =>
                have hlt := T.ok.back i ops[i] (Array.getElem?_eq_getElem hi) e he hb
                simpa using ihi e.on hlt (by omega)
            rw [hnil] at hmem
            cases hmem
      obtain ⟨h1, h2⟩ := M.all T hall
      refine ⟨ρ, ts, w, h1, h2, M.grow, fun fn kk ds rd cs => ?_⟩
      have : Region.linearise.go .any ops (fuel + 1) t listed [] = [] := by
        simp only [Region.linearise.go]
        change (match (Region.ready .any ops listed)[t % (Region.ready .any ops listed).length]? with
          | some i => Region.linearise.go .any ops fuel (t / (Region.ready .any ops listed).length) (listed.setIfInBounds i true) [i]
          | none => [].reverse) = []
        rw [hi]; rfl
      rw [this]
      exact Steps.refl _ _
    | some i =>
      have hmem := List.mem_of_getElem? hi
      unfold Region.ready at hmem
      rw [List.mem_filter] at hmem
      obtain ⟨hir, hcond⟩ := hmem
      have his : i < ops.size := List.mem_range.1 hir
      have hoi : ops[i]? = some ops[i] := Array.getElem?_eq_getElem his
      rw [hoi] at hcond
      simp only [Bool.and_eq_true, Option.map_some, Option.getD_some] at hcond
      obtain ⟨hun, hafter⟩ := hcond
      rw [Array.all_eq_true_iff_forall_mem] at hafter
      have hunl : listed.getD i true = false := by simpa using hun
      have hiD : ¬ (listed.getD i false = true) := by
        rw [Array.getD_eq_getD_getElem?, Array.getElem?_eq_getElem (by omega)] at hunl ⊢
        simpa using hunl
      have hready : ∀ e ∈ (ops[i]).after, Region.binds .any e = true → listed.getD e.on false = true := by
        intro e he hb
        have := hafter e he
        rw [hb] at this
        simpa using this
      obtain ⟨ρ1, ts1, w1, M1, st1⟩ := M.next T h0 hcl hoi hiD hready
      have hset : ∀ q, ((listed.setIfInBounds i true).getD q false = true) ↔ (listed.getD q false = true ∨ q = i) := by
        intro q
        rw [getD_setB listed i q false (by omega)]
        by_cases e : q = i
        · simp [e]
        · simp [e]
      have hDeq : (fun q => (listed.setIfInBounds i true).getD q false = true) = (fun q => listed.getD q false = true ∨ q = i) := by
        funext q; exact propext (hset q)
      have hlt : left ops (listed.setIfInBounds i true) < left ops listed := by
        unfold left
        refine countP_lt _ (fun q hq => ?_) ⟨i, hir, by simpa using hunl, ?_⟩
        · rw [getD_setB listed i q true (by omega)] at hq
          split at hq
          · simp at hq
          · exact hq
        · rw [getD_setB listed i i true (by omega)]; simp
      obtain ⟨ρ', ts', w', h1, h2, h3, st2⟩ := ih (t / (Region.ready .any ops listed).length) (listed.setIfInBounds i true) ρ1 w1 ts1 (by simpa using hsz) (by omega) (by
          rw [hDeq]
          intro q o hq ho e he hb
          rcases hq with hq | rfl
          · exact .inl (hcl q o hq ho e he hb)
          · rw [hoi] at ho; cases ho
            exact .inl (hready e he hb)) (by rw [hDeq]; exact M1)
      refine ⟨ρ', ts', w', h1, h2, h3, fun fn kk ds rd cs => ?_⟩
      have : Region.linearise.go .any ops (fuel + 1) t listed [] = i :: Region.linearise.go .any ops fuel (t / (Region.ready .any ops listed).length) (listed.setIfInBounds i true) [] := by
        simp only [Region.linearise.go]
        change (match (Region.ready .any ops listed)[t % (Region.ready .any ops listed).length]? with
          | some i => Region.linearise.go .any ops fuel (t / (Region.ready .any ops listed).length) (listed.setIfInBounds i true) [i]
          | none => [].reverse) = _
        rw [hi]
        simp only
        rw [linearise_go_acc]
        rfl
      rw [this]
      exact (st1 _ fn kk ds rd cs).trans (st2 fn kk ds rd cs)

end

theorem trace_sound {P : Program} {C : CallRel} {N n k : Nat} {st : List Nat} {ops : Array Oper} {A : Nat → AAct} {HH : Nat → Heap} {V : Nat → Value} (mixed : Bool) (hdep : Region.departs ops = false ∨ mixed = true) (T : Tr P C N n k st ops A HH V)
    {ρ : Pl} {w : World} {ts : Array Value} (hf : Free ρ (HH 0) (HH ops.size)) (r : Rel ρ (HH 0) w) (f : FR ρ n (A 0) ts) (t : Nat) :
    ∃ ρ' ts' w', Grow N ρ ρ' (HH 0) (HH ops.size) w w' ∧ Rel ρ' (HH ops.size) w' ∧ FR ρ' n (A ops.size) ts' ∧
      ∀ (fn : FuncId) (kk : List Item) (ds : List Deferred) (rd : Option Nat) (cs : List Frame), Steps P (lone (mkF fn ts (.inRegion ops (Region.schedule mixed ops t) :: kk) ds rd) cs w) (lone (mkF fn ts' (.inRegion ops [] :: kk) ds rd) cs w') := by
  have hk := T.hk
  have hsched : Region.schedule mixed ops t = Region.linearise.go .any ops ops.size t (Array.replicate ops.size false) [] := by
    unfold Region.schedule
    rcases hdep with hdep | hdep
    · rw [hdep]; simp [Region.linearise]
    · rw [hdep]; simp [Region.linearise]
  have hempty : ∀ q, ¬ ((Array.replicate ops.size false).getD q false = true) := by
    intro q
    rw [Array.getD_eq_getD_getElem?, Array.getElem?_replicate]
    split <;> simp
  have hsk := (T.mono ops.size (Nat.le_refl _)).2
  have hk0 := (T.mono k hk).2 0 (Nat.zero_le _)
  have hks := hsk k hk
  have hnone : ∀ i, (HH 0).size ≤ i → i < (HH ops.size).size → ρ i = none := hf
  have hrelk : Rel ρ (HH k) w := by
    have hst := T.stays k (Nat.le_refl _) 0 (Nat.zero_le _)
    have hlow : ∀ i x p, ρ i = some p → (HH k)[i]? = some x → i < (HH 0).size ∧ (HH 0)[i]? = some x := by
      intro i x p hp hx
      have hlt := get_lt hx
      rcases Nat.lt_or_ge i (HH 0).size with h | h
      · exact ⟨h, by rw [← hst i h]; exact hx⟩
      · rw [hnone i h (by omega)] at hp; cases hp
    refine ⟨fun i b s E hi hp => ?_, fun i b s E x hp hx => r.blk i b s E x hp (hlow i x _ hp hx).2, fun i q b s s' E E' x y hne hi hq hx hy => r.sep i q b s s' E E' x y hne hi hq (hlow i x _ hi hx).2 (hlow q y _ hq hy).2⟩
    rcases Nat.lt_or_ge i (HH 0).size with h | h
    · exact r.lt i b s E h hp
    · rw [hnone i h (by omega)] at hp; cases hp
  have M0 : Mid N n k st ops A HH ρ w (fun i => (Array.replicate ops.size false).getD i false = true) ρ w ts :=
    { size := f.1
      frame := fun t => ⟨0, f.2 t, Nat.zero_le _, fun i o h => by omega, fun i o _ _ _ => hempty i⟩
      heap := ⟨k, Nat.le_refl _, hk, fun i o _ _ _ => hempty i, fun h => by omega, hrelk⟩
      dom := fun id h1 h2 h3 => absurd (hnone id h1 h2) h3
      grow := {
        hsize := hsk 0 (Nat.zero_le _)
        ext := fun _ _ h => h
        new := fun i p h h' => by rw [h] at h'; cases h'
        fresh := fun i b s E h h' => by rw [h] at h'; cases h'
        os := rfl
        tape := rfl
        output := rfl
        size := Nat.le_refl _
        keep := fun _ _ _ => rfl } }
  obtain ⟨ρ', ts', w', g1, g2, g3, steps⟩ := go_sound T hf ops.size t (Array.replicate ops.size false) ρ w ts (by simp) (by
      unfold left
      exact Nat.le_trans List.countP_le_length (by simp)) (fun i o hi => absurd hi (hempty i)) M0
  refine ⟨ρ', ts', w', g3, g1, g2, fun fn kk ds rd cs => ?_⟩
  rw [hsched]
  exact steps fn kk ds rd cs


/-- A drawn list: whatever the order. -/
theorem late_sound {P : Program} {C : CallRel} {N n k : Nat} {st : List Nat} {ops : Array Oper} (hC : SimC P C) {a a1 a' : AAct} {H H1 H' : Heap} (mixed : Bool) (hdep : Region.departs ops = false ∨ mixed = true) (hok : drawOkS ops k st = true) (hk : k ≤ ops.size)
    (hq : QuietRun P C n ops (List.range k) a H a1 H1) (ht : OpsRun P C N n ops ((List.range ops.size).drop k) a1 H1 a' H') (hN : N ≤ H.size) {ρ : Pl} {w : World} {ts : Array Value} (hf : Free ρ H H') (r : Rel ρ H w) (f : FR ρ n a ts) (hfar : ∀ j ∈ st, ∀ t r, (ops.getD j default).op = .load t (.tmp r) → ∃ b o, a r = .pointer (some ⟨b, o, none⟩) ∧ b < N) (t : Nat) :
    ∃ ρ' ts' w', Grow N ρ ρ' H H' w w' ∧ Rel ρ' H' w' ∧ FR ρ' n a' ts' ∧
      ∀ (fn : FuncId) (kk : List Item) (ds : List Deferred) (rd : Option Nat) (cs : List Frame), Steps P (lone (mkF fn ts (.inRegion ops (Region.schedule mixed ops t) :: kk) ds rd) cs w) (lone (mkF fn ts' (.inRegion ops [] :: kk) ds rd) cs w') := by
  obtain ⟨A, HH, V, e1, e2, e3, e4, e5, h1, h2⟩ := whole_trace hk hq ht
  subst e1; subst e2; subst e4; subst e5
  have T : Tr P C N n k st ops A HH V := Tr0.loads ⟨hC, hN, hk, DrawOk.of hok, h1, h2⟩ (late_load hok) (fun j o t r hj hst hop => hfar j (by simpa using hst) t r (by rw [Array.getD_eq_getD_getElem?, hj]; exact hop))
  exact trace_sound mixed hdep T hf r f t
end Go.Proofs.Ytcapjjmikapmfaa.M
