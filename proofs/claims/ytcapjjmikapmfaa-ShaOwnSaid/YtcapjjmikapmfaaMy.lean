/- Maps from whole numbers to whole numbers over M's heap. -/
import Derived.Test.YtcapjjmikapmfaaMx
set_option linter.unusedVariables false
set_option linter.unusedSimpArgs false
namespace Go.Proofs.Ytcapjjmikapmfaa.M
open Go

def kv (p : Int × Int) : Value × Value := (.int .i64 p.1, .int .i64 p.2)

def getM : List (Int × Int) → Int → Int
  | [], _ => 0
  | p :: es, k => if k = p.1 then p.2 else getM es k
def setM : List (Int × Int) → Int → Int → List (Int × Int)
  | [], k, x => [(k, x)]
  | p :: es, k, x => if k = p.1 then (k, x) :: es else p :: setM es k x
def dropM : List (Int × Int) → Int → List (Int × Int)
  | [], _ => []
  | p :: es, k => if k = p.1 then es else p :: dropM es k
def locM : List (Int × Int) → Int → Nat → Option (Nat × Value)
  | [], _, _ => none
  | p :: es, k, n => if k = p.1 then some (n, .int .i64 p.2) else locM es k (n + 1)

theorem locM_succ : ∀ (es : List (Int × Int)) (k : Int) (n : Nat), locM es k (n + 1) = (locM es k n).map fun q => (q.1 + 1, q.2)
  | [], _, _ => rfl
  | p :: es, k, n => by
    unfold locM
    split
    · rfl
    · exact locM_succ es k (n + 1)

theorem findA_kv : ∀ (es : List (Int × Int)) (k : Int) (n : Nat), findA (.int .i64 k) (es.map kv) n = some (locM es k n)
  | [], _, _ => rfl
  | p :: es, k, n => by
    rw [List.map_cons]
    show (match keyEq (.int .i64 k) (.int .i64 p.1) with | some true => some (some (n, Value.int .i64 p.2)) | some false => findA (.int .i64 k) (es.map kv) (n + 1) | none => none) = _
    unfold locM
    by_cases h : k = p.1
    · have : keyEq (.int .i64 k) (.int .i64 p.1) = some true := by simp [keyEq, h]
      rw [this, if_pos h]
    · have : keyEq (.int .i64 k) (.int .i64 p.1) = some false := by simp [keyEq, h]
      rw [this, if_neg h]
      exact findA_kv es k (n + 1)

theorem look_kv : ∀ (es : List (Int × Int)) (k : Int) (n : Nat), lookV false (.int .i64 0) (locM es k n) = .int .i64 (getM es k)
  | [], _, _ => rfl
  | p :: es, k, n => by
    unfold locM getM
    split
    · rfl
    · exact look_kv es k (n + 1)

theorem upd_kv : ∀ (es : List (Int × Int)) (k x : Int), updM (es.map kv) (locM es k 0) (.int .i64 k) (.int .i64 x) = (setM es k x).map kv
  | [], k, x => rfl
  | p :: es, k, x => by
    unfold locM setM
    split
    · rfl
    · have ih := upd_kv es k x
      rw [locM_succ]
      cases h : locM es k 0 with
      | none => rw [h] at ih; simp only [updM, Option.map_none] at ih ⊢; rw [List.map_cons, List.map_cons, List.cons_append, ih]
      | some q => rw [h] at ih; simp only [updM, Option.map_some] at ih ⊢; rw [List.map_cons, List.map_cons, List.set_cons_succ, ih]

theorem del_kv : ∀ (es : List (Int × Int)) (k : Int), delM (es.map kv) (locM es k 0) = (dropM es k).map kv
  | [], k => rfl
  | p :: es, k => by
    unfold locM dropM
    split
    · rfl
    · have ih := del_kv es k
      rw [locM_succ]
      cases h : locM es k 0 with
      | none => rw [h] at ih; simp only [delM, Option.map_none] at ih ⊢; rw [List.map_cons, List.map_cons, ih]
      | some q => rw [h] at ih; simp only [delM, Option.map_some] at ih ⊢; rw [List.map_cons, List.map_cons, List.eraseIdx_cons_succ, ih]

theorem get_set : ∀ (es : List (Int × Int)) (k x k' : Int), getM (setM es k x) k' = if k' = k then x else getM es k'
  | [], k, x, k' => by simp [setM, getM]
  | p :: es, k, x, k' => by
    unfold setM
    split
    · rename_i h
      simp only [getM]
      by_cases h2 : k' = k
      · simp [h2]
      · have : ¬ k' = p.1 := by omega
        simp [h2, this]
    · rename_i h
      simp only [getM, get_set es k x k']
      by_cases h2 : k' = k
      · have : ¬ k' = p.1 := by omega
        simp [h2, this, h]
      · simp [h2]

def keysM (es : List (Int × Int)) : List Int := es.map (·.1)
theorem get_out : ∀ (es : List (Int × Int)) (k : Int), k ∉ keysM es → getM es k = 0
  | [], _, _ => rfl
  | p :: es, k, h => by
    simp only [keysM, List.map_cons, List.mem_cons, not_or] at h
    rw [getM, if_neg h.1]
    exact get_out es k h.2
theorem keys_set : ∀ (es : List (Int × Int)) (k x k' : Int), k' ∈ keysM (setM es k x) ↔ k' = k ∨ k' ∈ keysM es
  | [], k, x, k' => by simp [setM, keysM]
  | p :: es, k, x, k' => by
    unfold setM
    split
    · rename_i h; simp [keysM, h]
    · rename_i h
      have ih := keys_set es k x k'
      simp only [keysM, List.map_cons, List.mem_cons] at ih ⊢
      rw [ih]
      constructor
      · rintro (h | h | h) <;> simp [h]
      · rintro (h | h | h) <;> simp [h]
theorem nodup_set : ∀ (es : List (Int × Int)) (k x : Int), (keysM es).Nodup → (keysM (setM es k x)).Nodup
  | [], k, x, _ => by simp [setM, keysM]
  | p :: es, k, x, h => by
    simp only [keysM, List.map_cons, List.nodup_cons] at h
    unfold setM
    split
    · rename_i he
      simp only [keysM, List.map_cons, List.nodup_cons]
      rw [he]; exact h
    · rename_i he
      have ih := nodup_set es k x h.2
      simp only [keysM, List.map_cons, List.nodup_cons]
      refine ⟨fun hm => ?_, ih⟩
      rcases (keys_set es k x p.1).1 hm with h1 | h1
      · exact he h1.symm
      · exact h.1 h1
theorem keys_drop : ∀ (es : List (Int × Int)) (k k' : Int), k' ∈ keysM (dropM es k) → k' ∈ keysM es
  | [], k, k', h => h
  | p :: es, k, k', h => by
    unfold dropM at h
    split at h
    · simp only [keysM, List.map_cons, List.mem_cons]; exact .inr h
    · simp only [keysM, List.map_cons, List.mem_cons] at h ⊢
      rcases h with h | h
      · exact .inl h
      · exact .inr (keys_drop es k k' h)
theorem nodup_drop : ∀ (es : List (Int × Int)) (k : Int), (keysM es).Nodup → (keysM (dropM es k)).Nodup
  | [], k, h => h
  | p :: es, k, h => by
    simp only [keysM, List.map_cons, List.nodup_cons] at h
    unfold dropM
    split
    · exact h.2
    · simp only [keysM, List.map_cons, List.nodup_cons]
      exact ⟨fun hm => h.1 (keys_drop es k p.1 hm), nodup_drop es k h.2⟩
theorem get_drop : ∀ (es : List (Int × Int)) (k k' : Int), (keysM es).Nodup → getM (dropM es k) k' = if k' = k then 0 else getM es k'
  | [], k, k', _ => by simp [dropM, getM]
  | p :: es, k, k', h => by
    simp only [keysM, List.map_cons, List.nodup_cons] at h
    unfold dropM
    split
    · rename_i he
      by_cases h2 : k' = k
      · rw [if_pos h2]
        exact get_out es k' (by rw [h2, he]; exact h.1)
      · have : ¬ k' = p.1 := by omega
        simp [getM, h2, this]
    · rename_i he
      simp only [getM, get_drop es k k' h.2]
      by_cases h2 : k' = k
      · have : ¬ k' = p.1 := by omega
        simp [h2, this, he]
      · simp [h2]

/-- A block that is a map, as what it gives for each key. -/
def MapF (H : Heap) (j : Nat) (f : Int → Int) : Prop := ∃ es : List (Int × Int), H[j]? = some (.map (es.map kv)) ∧ (keysM es).Nodup ∧ ∀ k, f k = getM es k

theorem MapF.keep {H H' : Heap} {j : Nat} {f : Int → Int} (h : MapF H j f) (hk : H'[j]? = H[j]?) : MapF H' j f := by
  obtain ⟨es, h1, h2, h3⟩ := h
  exact ⟨es, by rw [hk, h1], h2, h3⟩

end Go.Proofs.Ytcapjjmikapmfaa.M
