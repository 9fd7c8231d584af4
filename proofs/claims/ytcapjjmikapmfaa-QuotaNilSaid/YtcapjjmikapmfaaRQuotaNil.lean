/- The row QuotaNil: the shell about its walk. -/
import Derived.Test.YtcapjjmikapmfaaRows
import Derived.Test.YtcapjjmikapmfaaQb
import Derived.Test.YtcapjjmikapmfaaQv
import Derived.Test.YtcapjjmikapmfaaMu
import Derived.WalkKit
import Derived.ProofKit
import Derived.OpenShut
import Derived.ShutString
import Derived.ChangeOld
import Derived.Below
import Derived.SizedLaws
import Derived.Lib.SmallJoins
namespace Go.Proofs.Ytcapjjmikapmfaa.quotaNil
open Go.ChangeShapes Go.WideShapes Go.ChangeAt Go.RowKit
set_option linter.unusedVariables false
theorem own : ownKnob Try.prog.godebug = none := by kernel_rfl
theorem laidOut : laidOutB Try.prog = true := by kernel_rfl
set_option maxRecDepth 100000 in
theorem lifted (os : Os) (started : os.Started) (H : Type) (enc : TypeId × Value → H) :
    ReturnsInHanded {} Try.checked os 6 .any (Rows.quotaNilSpec.pre6 enc Try.prog Try.f6 Rows.quotaNilRow.domain false) (Rows.quotaNilSpec.post enc Try.prog Try.f6 false true false false) := by
  refine returnsInHanded_of_change_sized (C := Try.checked) own started (by kernel_rfl) Try.func6
    (ChangeSpec.witness6 (enc := enc) (C := Try.checked) false ⟨#[], #[.agg #[.bool false, .int .i64 0, .int .i64 0]], []⟩ 8 (by kernel_rfl) (by kernel_rfl) (by kernel_rfl) (by kernel_rfl)) ?_
  intro W base args ds gs before hval0 hW hcnd hsz0 _
  have hval : ∀ (j : Nat) t v, Try.f6.params[j]? = some t → args[j]? = some v → Value.okWide Try.prog W .any base t v := hval0
  have hW' := hW
  obtain ⟨p, q, hA0, hV, rfl, hfz, hnd⟩ := hW
  have hA : DataW.TrodAll enc Try.prog W 0 (fun _ => true) true Try.f6.params.toList args.toList ds p := hA0
  rw [Try.params6] at hA hval
  obtain ⟨v0, vs0, d0, ds0, p0, q0, hargs, rfl, rfl, h0, r0⟩ := trodAll_cons hA
  obtain ⟨rfl, rfl, rfl⟩ := trodAll_nil r0
  obtain rfl : args = #[v0] := by cases args; simp_all
  obtain ⟨rfl, rfl⟩ := trodVars_none hV
  have k0 := h0
  have lt0 : ∀ x ∈ p0, x.block < W.heap.size := by obtain ⟨m, hm⟩ := k0; exact DataW.trod_lt m _ _ _ hm
  obtain ⟨b0, x0, y0, rfl⟩ : ∃ (b : Bool) (x y : Int), v0 = .agg #[.bool b, .int .i64 x, .int .i64 y] := by
    obtain ⟨u0, u1, u2, e0, e1, e2, m, hv, _, _, t0, t1, t2⟩ := Joins.open_agg3 Try.underlying36 (by kernel_rfl) (by kernel_rfl) (hval 0 36 v0 rfl rfl) h0
    obtain ⟨b, c0, _⟩ := DataW.trod_bool Try.underlying4 t0
    obtain ⟨i1, c1, _⟩ := DataW.trod_int Try.underlying3 t1
    obtain ⟨i2, c2, _⟩ := DataW.trod_int Try.underlying3 t2
    simp at c0 c1 c2
    subst c0 c1 c2
    exact ⟨b, i1, i2, hv⟩
  clear hA0 hval0 hsz0
  let ws : List M.WinIn := []
  have hws : ∀ w ∈ ws, M.IsWin W (M.winP ws) w := fun w hw => absurd hw (by simp [ws])
  have hc := M.Fun.calls (M.quotaNil_fun (H := M.winH ws) b0 x0 y0) rfl Try.func6 rfl (by decide +kernel) (M.win_rel hws) M.win_free
    (M.VL.cons (M.call_val _ _ _) (M.VL.nil _))
  refine hc.mono fun e W' ⟨he, bel⟩ => ?_
  subst he
  exact ⟨_, rfl, _, _, _, [], _, [], hW', trodAll_mk1 (shut_bool Try.underlying4 _), (trodAll_cons_mk (Below.trod laidOut (by kernel_rfl) (of_decide_eq_true (by kernel_rfl)) k0 bel lt0) trodAll_mk0), rfl, bel.frame _, fun h => by cases h⟩
theorem over : Rows.quotaNilRow.holds Try.pinned (OpenSpec.ofChange Rows.quotaNilSpec) :=
  OpenClaim.holds_of_wide 6 Try.f6 rfl rfl rfl rfl rfl rfl rfl ⟨rfl, rfl, rfl, rfl, rfl⟩ rfl rfl rfl rfl rfl (by kernel_rfl) Try.func6 (M.joined_of Try.prog M.io_mayEnter M.io_lifts M.io_make (by kernel_rfl))
    (of_decide_eq_true (by kernel_rfl)) (by unfold Func.isWrapper; first | (rw [if_pos (by decide +kernel)]; kernel_rfl) | (rw [if_neg (by decide +kernel)]; exact ⟨rfl, rfl⟩))
    (fun os started H enc _ => lifted os started H enc)
theorem proved : Rows.QuotaNilSaid := over
#print axioms proved
end Go.Proofs.Ytcapjjmikapmfaa.quotaNil
namespace Go.Proofs.Ytcapjjmikapmfaa
/-- The row, under a short name, for the claim. -/
theorem quotaNil_holds : Rows.QuotaNilSaid := quotaNil.proved
end Go.Proofs.Ytcapjjmikapmfaa
