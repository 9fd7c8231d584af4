/- The rules of arithmetic and lists that a walk uses, laid into its set. -/
import Derived.Test.YtcapjjmikapmfaaMx
namespace Go.Proofs.Ytcapjjmikapmfaa.M
attribute [go_sem] Bool.true_eq_false Bool.false_eq_true beq_self_eq_true Option.map_some Option.map_none Option.bind_some List.getElem?_cons_zero List.getElem?_cons_succ List.getElem?_toArray List.map_cons List.map_nil true_and and_true forall_const ne_eq not_true_eq_false not_false_eq_true false_implies true_implies Int.cast_ofNat_Int Int.natCast_zero Int.natCast_one bne_self_eq_false Bool.not_true Bool.not_false if_true if_false false_and and_false or_false or_true true_or false_or List.length_cons List.length_nil Int.toNat_natCast List.length_map decide_true decide_false
attribute [go_sem] Nat.reduceLT Nat.reduceLeDiff Nat.reduceEqDiff Nat.reduceAdd BitVec.reduceOfInt BitVec.reduceSetWidth BitVec.reduceBEq BitVec.reduceBNe BitVec.reduceEq BitVec.reduceNe reduceCtorEq Int.reduceToNat Int.reduceLT Int.reduceLE Int.reduceEq Int.reduceNe
attribute [go_sem ↓] reduceIte
end Go.Proofs.Ytcapjjmikapmfaa.M
