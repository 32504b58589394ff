/- BY VALUE, chapter 26: values. -/
import Derived.Test.YtnfmilnlekmjgaaC26I
set_option linter.unusedSimpArgs false
set_option linter.unusedVariables false
namespace Go.Bv
variable {S : RT}
attribute [local congr] ite_congr congr_bindOps congr_bindC congr_andThen congr_orNone congr_onBool congr_onEff congr_headC
set_option maxRecDepth 100000
set_option maxHeartbeats 40000000
def valsEq : List Val → List Val → Bool
  | [], _ => true
  | a :: l, m => if (a.n == (m.getD 0 default).n && a.s.toList == (m.getD 0 default).s.toList) = true then valsEq l (m.drop 1) else false
theorem valsEq_refl (l : List Val) : valsEq l l = true := by
  induction l with
  | nil => rfl
  | cons a l ih => simp [valsEq, ih]
theorem run21 (a b : List Val) (ha : a.length ≤ 1000000) : run T S 21 [.sl (a.map encV), .sl (b.map encV)] = some (.bool (if ((a.length : Int) != (b.length : Int)) = true then false else valsEq a b)) := by
  (refine run_fn T21 ⟨rfl, by decide⟩ ?_; rw [start21])
  simp (config := {decide := true, contextual := true, maxSteps := 3000000}) only [F21, List.length_map, List.replicate, ↓simPre, simPost, Bool.not_not, Bool.not_false, Bool.not_true, Bool.false_eq_true, reduceCtorEq, ↓reduceIte, decide_true, decide_false, splice, results, resT, resTs, AV.key, Bool.and_true, Bool.true_and, and_true, true_and, and_self, List.flatMap_nil, List.flatMap_cons, List.append_nil, List.nil_append, List.cons_append, List.map_cons, List.map_nil, List.all_cons, List.all_nil, List.length_cons, List.length_nil, Nat.reduceAdd, Nat.reduceLT, Nat.reduceLeDiff, Nat.reduceEqDiff, Nat.reduceSub, Nat.zero_add, Nat.add_zero, List.drop_succ_cons, List.drop_zero, List.take_succ_cons, List.take_zero]
  split
  · rfl
  rename_i hab
  have hab : a.length = b.length := by simp at hab; omega
  refine Eq.trans (headC_ind (σ := Nat) (fun i => ⟨[.sl (a.map encV), .sl (b.map encV), .unk, .unk, .unk, .int .i64 i] ++ List.replicate 20 .unk, List.replicate 26 ⟨0, .dead⟩⟩)
    (fun i => some (AV.bool (valsEq (a.drop i) (b.drop i)))) (fun i => a.length - i) (fun i => i ≤ a.length) ?_ 0 (Nat.zero_le _)) (by simp only [List.drop_zero])
  intro i hi ih
  by_cases hlt : i < a.length
  · obtain ⟨h1, h2, h4, h5⟩ := idx hlt (by omega)
    have h2' : ((i : Int) < (b.length : Int)) = True := by simp; omega
    have h3 := map_get encV a i default hlt
    have h3' := map_get encV b i default (by omega)
    have e1 : (List.drop i b).getD 0 default = b.getD i default := by simp [List.getD_eq_getElem?_getD]
    rw [drop_cons default hlt]
    simp only [encV] at h3 h3'
    simp (config := {decide := true, contextual := true, maxSteps := 3000000}) only [h1, h2, h2', h3, h3', h4, h5, List.length_map, List.replicate, ↓simPre, simPost, Bool.not_not, Bool.not_false, Bool.not_true, Bool.false_eq_true, reduceCtorEq, ↓reduceIte, decide_true, decide_false, splice, results, resT, resTs, AV.key, Bool.and_true, Bool.true_and, and_true, true_and, and_self, List.flatMap_nil, List.flatMap_cons, List.append_nil, List.nil_append, List.cons_append, List.map_cons, List.map_nil, List.all_cons, List.all_nil, List.length_cons, List.length_nil, Nat.reduceAdd, Nat.reduceLT, Nat.reduceLeDiff, Nat.reduceEqDiff, Nat.reduceSub, Nat.zero_add, Nat.add_zero, List.drop_succ_cons, List.drop_zero, List.take_succ_cons, List.take_zero]
    simp only [valsEq, e1, List.drop_drop]
    have hi1 := ih (i + 1) (by omega) (by omega)
    cases hc : ((a.getD i default).n == (b.getD i default).n && (a.getD i default).s.toList == (b.getD i default).s.toList) with
    | true => simp only [Bool.not_true, Bool.false_eq_true, if_false, if_true]; exact hi1
    | false => simp only [Bool.not_false, Bool.false_eq_true, if_false, if_true]
  · have h2 := idxEnd (Nat.le_of_not_lt hlt)
    have h7 : a.drop i = [] := List.drop_eq_nil_of_le (by omega)
    simp (config := {decide := true, contextual := true, maxSteps := 3000000}) only [h2, h7, valsEq, List.length_map, List.replicate, ↓simPre, simPost, Bool.not_not, Bool.not_false, Bool.not_true, Bool.false_eq_true, reduceCtorEq, ↓reduceIte, decide_true, decide_false, splice, results, resT, resTs, AV.key, Bool.and_true, Bool.true_and, and_true, true_and, and_self, List.flatMap_nil, List.flatMap_cons, List.append_nil, List.nil_append, List.cons_append, List.map_cons, List.map_nil, List.all_cons, List.all_nil, List.length_cons, List.length_nil, Nat.reduceAdd, Nat.reduceLT, Nat.reduceLeDiff, Nat.reduceEqDiff, Nat.reduceSub, Nat.zero_add, Nat.add_zero, List.drop_succ_cons, List.drop_zero, List.take_succ_cons, List.take_zero]
end Go.Bv
