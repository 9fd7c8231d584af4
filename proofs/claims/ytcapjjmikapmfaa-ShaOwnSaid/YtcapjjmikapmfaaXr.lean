/- Runs in parts: blocks and loops, too. -/
import Derived.Test.YtcapjjmikapmfaaXe
set_option linter.unusedVariables false
set_option linter.unusedSimpArgs false
namespace Go.Proofs.Ytcapjjmikapmfaa.M
open Go Go.Proofs

section
variable {P : Program} {N : Nat} {fn : FuncId} {n : Nat} {top : Bool} {Q : Post} {a : AAct} {H : Heap}
theorem wrun_mid' {x y : Code} (R : AAct → Heap → Prop) (h1 : wrun P N fn n top x (seqK R Q) a H) (h2 : ∀ a H, R a H → wrun P N fn n top y Q a H) : wrun P N fn n top (.seq x y) Q a H := by
  obtain ⟨e, a1, H1, r1, q1⟩ := h1
  cases e with
  | normal =>
    obtain ⟨e, a2, H2, r2, q2⟩ := h2 _ _ q1
    exact ⟨e, a2, H2, .seq r1 r2, q2⟩
  | exit id => exact ⟨_, a1, H1, .seqx r1 (by simp), q1⟩
  | ret => exact ⟨_, a1, H1, .seqx r1 (by simp), q1⟩
theorem wrun_block {c : Code} {id : Nat} (h : wrun P N fn n top c (blockK id Q) a H) : wrun P N fn n top (.block id c) Q a H := by
  obtain ⟨e, a1, H1, r1, q1⟩ := h
  exact ⟨_, a1, H1, .block r1, q1⟩
theorem wrun_loop {c : Code} (I : Nat → AAct → Heap → Prop) (hstep : ∀ m a H, I m a H → wrun P N fn n top c (backK I m Q) a H) (m : Nat) (h : I m a H) : wrun P N fn n top (.loop c) Q a H := by
  induction m using Nat.strongRecOn generalizing a H with
  | _ m ih =>
    obtain ⟨e, a1, H1, h1, h2⟩ := hstep m a H h
    cases e with
    | normal =>
      obtain ⟨m', hm, hI⟩ := h2
      obtain ⟨e, a', H', h3, h4⟩ := ih m' hm hI
      exact ⟨e, a', H', .loop h1 h3, h4⟩
    | exit id => exact ⟨_, a1, H1, .loopx h1 (by simp), h2⟩
    | ret => exact ⟨_, a1, H1, .loopx h1 (by simp), h2⟩
theorem wrun_assoc {x y z : Code} (h : wrun P N fn n top (.seq (.seq x y) z) Q a H) : wrun P N fn n top (.seq x (.seq y z)) Q a H := by
  obtain ⟨e, a1, H1, r, q⟩ := h
  refine ⟨e, a1, H1, ?_, q⟩
  cases r with
  | seq r1 r2 =>
    cases r1 with
    | seq r3 r4 => exact .seq r3 (.seq r4 r2)
    | seqx r3 hne => exact absurd rfl hne
  | seqx r1 hne =>
    cases r1 with
    | seq r3 r4 => exact .seq r3 (.seqx r4 hne)
    | seqx r3 hne => exact .seqx r3 hne
end
end Go.Proofs.Ytcapjjmikapmfaa.M
