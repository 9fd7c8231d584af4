/- Loops over a function: how M walks them. -/
import Derived.Test.YtcapjjmikapmfaaMq
set_option linter.unusedVariables false
set_option linter.unusedSimpArgs false
namespace Go.Proofs.Ytcapjjmikapmfaa.M
open Go

/-- What comes of a loop over a function, once the function has ended. -/
def overK (l : Nat) (fn : FuncId) (n : Nat) (a : AAct) (ps : List Nat) (as bd : Code) (Q : Post) (H2 : Heap) : Prop :=
  (H2[l]? = some (.loop fn n a ps as bd .ready) ∧ Q .normal a (H2.setIfInBounds l (.loop fn n a ps as bd .over))) ∨
  (H2[l]? = some (.loop fn n a ps as bd (.done .ret)) ∧ Q .ret a (H2.setIfInBounds l (.loop fn n a ps as bd .over))) ∨
  ∃ id, H2[l]? = some (.loop fn n a ps as bd (.done (.exit id))) ∧ Q (.exit id) a (H2.setIfInBounds l (.loop fn n a ps as bd .over))

theorem wp_range {P : Program} {N : Nat} {fn : FuncId} {n : Nat} {f : Operand} {ps : Array Nat} {as bd : Code} {Q : Post} {a : AAct} {H : Heap} {g : Fn} {cap : List Value} (hf : ev a f = .func g #[] ⟨cap⟩)
    (h : callK P N g (.func (.yield H.size) #[] #[] :: cap) (H.push (.loop fn n a ps.toList as bd .ready)) fun v H2 => overK H.size fn n a ps.toList as bd Q H2) : wp P N fn n true (.rangeFunc f ps as bd) Q a H := by
  obtain ⟨v, H2, h1, h2⟩ := h
  rcases h2 with ⟨h2, hq⟩ | ⟨h2, hq⟩ | ⟨id, h2, hq⟩
  · exact ⟨_, _, _, .rangeDone rfl hf h1 h2, hq⟩
  · exact ⟨_, _, _, .rangeRet rfl hf h1 h2, hq⟩
  · exact ⟨_, _, _, .rangeExit rfl hf h1 h2, hq⟩

/-- What comes of a loop's body. -/
def turnK (l : Nat) (fn : FuncId) (n : Nat) (a : AAct) (ps : List Nat) (as bd : Code) (K : Value → Heap → Prop) : Post := fun e _ H3 =>
  H3[l]? = some (.loop fn n a ps as bd .busy) ∧
  match e with
  | .normal => K (.bool true) (H3.setIfInBounds l (.loop fn n a ps as bd .ready))
  | .ret => K (.bool false) (H3.setIfInBounds l (.loop fn n a ps as bd (.done .ret)))
  | .exit id => K (.bool false) (H3.setIfInBounds l (.loop fn n a ps as bd (.done (.exit id))))

theorem yield_call {P : Program} {N l : Nat} {args : List Value} {H : Heap} {K : Value → Heap → Prop} {fn : FuncId} {n : Nat} {a : AAct} {ps : List Nat} {as bd : Code} (hN : N ≤ l) (hl : H[l]? = some (.loop fn n a ps as bd .ready)) (hlen : args.length = ps.length)
    (h : wp P N fn n false as (fun e a1 H1 => e = .normal ∧ H1[l]? = some (.loop fn n a ps as bd .ready) ∧
        wp P N fn n false bd (turnK l fn n a ps as bd K) a1 (H1.setIfInBounds l (.loop fn n a ps as bd .busy)))
      ((ps.zip args).foldl (fun a p => put n a (some p.1) p.2) a) H) : callK P N (.yield l) args H K := by
  obtain ⟨e, a1, H1, h1, he, h2, h3⟩ := wp_sound _ _ _ _ h
  subst he
  obtain ⟨e, a2, H3, h4, h5, h6⟩ := wp_sound _ _ _ _ h3
  cases e with
  | normal => exact ⟨_, _, Call.fold ⟨fn, n, a, ps, as, bd, _, a1, a2, H1, H3, hN, hl, hlen, h1, h2, h4, h5, .inl ⟨rfl, rfl, rfl⟩⟩, h6⟩
  | ret => exact ⟨_, _, Call.fold ⟨fn, n, a, ps, as, bd, _, a1, a2, H1, H3, hN, hl, hlen, h1, h2, h4, h5, .inr (.inl ⟨rfl, rfl, rfl⟩)⟩, h6⟩
  | exit id => exact ⟨_, _, Call.fold ⟨fn, n, a, ps, as, bd, _, a1, a2, H1, H3, hN, hl, hlen, h1, h2, h4, h5, .inr (.inr ⟨id, rfl, rfl, rfl⟩)⟩, h6⟩

end Go.Proofs.Ytcapjjmikapmfaa.M
