/- BY VALUE, chapter 26: the program's functions, one by one (5). -/
import Derived.Test.YtnfmilnlekmjgaaC26C
set_option linter.unusedSimpArgs false
set_option linter.unusedVariables false
namespace Go.Bv
variable {S : RT}
attribute [local congr] ite_congr congr_bindOps congr_bindC congr_andThen congr_orNone congr_onBool congr_onEff congr_headC
set_option maxRecDepth 100000
set_option maxHeartbeats 40000000
theorem wrap3 (b : Bool) : IntKind.wrap .i64 (3 * if b = true then 1 else 0) = if b = true then 3 else 0 := by cases b <;> rfl
/-- The reference's error of a type is the program's. -/
theorem run120 (t : Ty) : run T S 120 [.agg (encT t)] = some (.int .i64 (checkType t)) := by
  obtain ⟨k, l, sc⟩ := t
  simp only [encT]
  (refine run_fn T120 ⟨rfl, by decide⟩ ?_; rw [start120])
  simp (config := {decide := true, contextual := true, maxSteps := 3000000}) only [F120, run62, run48, run147, wrap3, List.replicate, ↓simPre, simPost, Bool.not_not, Bool.not_false, Bool.not_true, Bool.false_eq_true, reduceCtorEq, ↓reduceIte, decide_true, decide_false, splice, results, resT, resTs, AV.key, Bool.and_true, Bool.true_and, and_true, true_and, and_self, List.flatMap_nil, List.flatMap_cons, List.append_nil, List.nil_append, List.cons_append, List.map_cons, List.map_nil, List.all_cons, List.all_nil, List.length_cons, List.length_nil, Nat.reduceAdd, Nat.reduceLT, Nat.reduceLeDiff, Nat.reduceEqDiff, Nat.reduceSub, Nat.zero_add, Nat.add_zero, List.drop_succ_cons, List.drop_zero, List.take_succ_cons, List.take_zero]
  unfold checkType
  simp only [first, cond, bne_iff_ne, ne_eq, beq_iff_eq, Bool.not_eq_true', Bool.and_eq_false_iff, Bool.and_eq_true, decide_eq_true_eq, decide_eq_false_iff_not, Bool.or_eq_false_iff, beq_eq_false_iff_ne]
  grind


end Go.Bv
