/- A run in parts: a statement of what holds between two parts of a code. -/
import Derived.Test.YtcapjjmikapmfaaMv
set_option linter.unusedVariables false
set_option linter.unusedSimpArgs false
namespace Go.Proofs.Ytcapjjmikapmfaa.M
open Go

def wrun (P : Program) (N : Nat) (fn : FuncId) (n : Nat) (top : Bool) (c : Code) (Q : Post) (a : AAct) (H : Heap) : Prop := ∃ e a' H', Run P (Call P) N fn n top c a H e a' H' ∧ Q e a' H'
theorem wrun_of {P : Program} {N : Nat} {fn : FuncId} {n : Nat} {top : Bool} {c : Code} {Q : Post} {a : AAct} {H : Heap} (h : wp P N fn n top c Q a H) : wrun P N fn n top c Q a H := wp_sound _ _ _ _ h
theorem wrun_mid {P : Program} {N : Nat} {fn : FuncId} {n : Nat} {top : Bool} {x y : Code} {Q : Post} {a : AAct} {H : Heap} (R : AAct → Heap → Prop) (h1 : wp P N fn n top x (seqK R Q) a H) (h2 : ∀ a H, R a H → wrun P N fn n top y Q a H) : wrun P N fn n top (.seq x y) Q a H := by
  obtain ⟨e, a1, H1, r1, q1⟩ := wp_sound _ _ _ _ h1
  cases e with
  | normal =>
    obtain ⟨e, a2, H2, r2, q2⟩ := h2 _ _ q1
    exact ⟨e, a2, H2, .seq r1 r2, q2⟩
  | exit id => exact ⟨_, a1, H1, .seqx r1 (by simp), q1⟩
  | ret => exact ⟨_, a1, H1, .seqx r1 (by simp), q1⟩
theorem fun_of_r {P : Program} {f : FuncId} {func : Func} {code : Code} {args : List Value} {H : Heap} {Q : Value → Heap → Prop} (hf : P.funcs[f]? = some func) (hb : func.body = some code) (hn : (func.name == "runtime.NumGoroutine") = false) (hl : args.length ≤ func.ntmps)
    (h : wrun P H.size f func.ntmps true code (retK P func.results.toList Q) (enterA args) H) : Fun P f args H Q := by
  obtain ⟨e, a', H', h1, h2, h3⟩ := h
  obtain ⟨v, hv, h4⟩ := optK_sound h3
  exact ⟨v, H', Call.fold (.inl ⟨func, code, e, a', hf, hb, hn, hl, h1, h2, hv⟩), h4⟩


/-! ### Where a condition is known, only what it chooses is walked -/
section
variable {P : Program} {a : AAct} {H : Heap}
theorem condK_t (X Y : AAct → Heap → Prop) : condK (.bool true) X Y a H = X a H := by
  apply propext; exact ⟨fun h => h.1 rfl, fun h => ⟨fun _ => h, fun e => by cases e⟩⟩
theorem condK_f (X Y : AAct → Heap → Prop) : condK (.bool false) X Y a H = Y a H := by
  apply propext; exact ⟨fun h => h.2 rfl, fun h => ⟨fun e => absurd e (by decide), fun _ => h⟩⟩
variable {No : Option Nat} {n : Nat} {R : AAct → Heap → Prop}
theorem guardK_tt (ops : Array Oper) (d : Option Nat) (op : Op) (rest : List Oper) : guardK P No n ops (some (.bool true)) true d op rest R a H = wop P (No.getD H.size) op a H (nextK P No n ops rest d a R) := by
  apply propext; exact ⟨fun h => h.1 rfl, fun h => ⟨fun _ => h, fun e => absurd rfl e⟩⟩
theorem guardK_ff (ops : Array Oper) (d : Option Nat) (op : Op) (rest : List Oper) : guardK P No n ops (some (.bool false)) false d op rest R a H = wop P (No.getD H.size) op a H (nextK P No n ops rest d a R) := by
  apply propext; exact ⟨fun h => h.1 rfl, fun h => ⟨fun _ => h, fun e => absurd rfl e⟩⟩
theorem guardK_tf (ops : Array Oper) (d : Option Nat) (op : Op) (rest : List Oper) : guardK P No n ops (some (.bool true)) false d op rest R a H = wl P No n ops rest R (put n a d undef) H := by
  apply propext; exact ⟨fun h => h.2 (by simp), fun h => ⟨fun e => absurd e (by decide), fun _ => h⟩⟩
theorem guardK_ft (ops : Array Oper) (d : Option Nat) (op : Op) (rest : List Oper) : guardK P No n ops (some (.bool false)) true d op rest R a H = wl P No n ops rest R (put n a d undef) H := by
  apply propext; exact ⟨fun h => h.2 (by simp), fun h => ⟨fun e => absurd e (by decide), fun _ => h⟩⟩
variable {N k : Nat}
theorem guardQ_tt (ops : Array Oper) (d : Option Nat) (op : Op) (rest : List Oper) : guardQ P N n ops k (some (.bool true)) true d op rest R a H = wop P H.size op a H (nextQ P N n ops k rest d a R) := by
  apply propext; exact ⟨fun h => h.1 rfl, fun h => ⟨fun _ => h, fun e => absurd rfl e⟩⟩
theorem guardQ_ff (ops : Array Oper) (d : Option Nat) (op : Op) (rest : List Oper) : guardQ P N n ops k (some (.bool false)) false d op rest R a H = wop P H.size op a H (nextQ P N n ops k rest d a R) := by
  apply propext; exact ⟨fun h => h.1 rfl, fun h => ⟨fun _ => h, fun e => absurd rfl e⟩⟩
theorem guardQ_tf (ops : Array Oper) (d : Option Nat) (op : Op) (rest : List Oper) : guardQ P N n ops k (some (.bool true)) false d op rest R a H = wlq P N n ops k rest R (put n a d undef) H := by
  apply propext; exact ⟨fun h => h.2 (by simp), fun h => ⟨fun e => absurd e (by decide), fun _ => h⟩⟩
theorem guardQ_ft (ops : Array Oper) (d : Option Nat) (op : Op) (rest : List Oper) : guardQ P N n ops k (some (.bool false)) true d op rest R a H = wlq P N n ops k rest R (put n a d undef) H := by
  apply propext; exact ⟨fun h => h.2 (by simp), fun h => ⟨fun e => absurd e (by decide), fun _ => h⟩⟩
end

end Go.Proofs.Ytcapjjmikapmfaa.M
