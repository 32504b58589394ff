/- BY VALUE, chapter 26: power, CheckValue. -/
import Derived.Test.YtnfmilnlekmjgaaC26I
set_option linter.unusedSimpArgs false
set_option linter.unusedVariables false
namespace Go.Bv
variable {S : RT}
attribute [local congr] ite_congr congr_bindOps congr_bindC congr_andThen congr_orNone congr_onBool congr_onEff congr_headC
set_option maxRecDepth 100000
set_option maxHeartbeats 40000000
theorem run153 (n : Int) (hn : n ≤ 9223372036854775807) : run T S 153 [.int .i64 n] = some (.int .i64 (powT n)) := by
  (refine run_fn T153 ⟨rfl, by decide⟩ ?_; rw [start153])
  simp (config := {decide := true, contextual := true, maxSteps := 3000000}) only [F153, List.replicate, ↓simPre, simPost, Bool.not_not, Bool.not_false, Bool.not_true, Bool.false_eq_true, reduceCtorEq, ↓reduceIte, decide_true, decide_false, splice, results, resT, resTs, AV.key, Bool.and_true, Bool.true_and, and_true, true_and, and_self, List.flatMap_nil, List.flatMap_cons, List.append_nil, List.nil_append, List.cons_append, List.map_cons, List.map_nil, List.all_cons, List.all_nil, List.length_cons, List.length_nil, Nat.reduceAdd, Nat.reduceLT, Nat.reduceLeDiff, Nat.reduceEqDiff, Nat.reduceSub, Nat.zero_add, Nat.add_zero, List.drop_succ_cons, List.drop_zero, List.take_succ_cons, List.take_zero]
  unfold powT
  generalize hm : (if 18 < n then (18 : Int) else n) = m
  have hm18 : m ≤ 18 := by rw [← hm]; split <;> omega
  refine Eq.trans (headC_ind (σ := Nat) (fun i => ⟨[.unk, .unk, .unk, .int .i64 (pow10 i), .unk, .int .i64 m, .int .i64 i] ++ List.replicate 5 .unk, List.replicate 12 ⟨0, .dead⟩⟩)
    (fun i => some (AV.int .i64 (pow10 m.toNat))) (fun i => m.toNat - i) (fun i => i ≤ m.toNat) ?_ 0 (Nat.zero_le _)) (by simp)
  intro i hi ih
  by_cases hlt : i < m.toNat
  · have h2 : ((i : Int) < m) = True := by simp; omega
    obtain ⟨h1, -, h4, h5⟩ := idx hlt (by omega)
    have hr := pow10_range (n := i + 1) (by omega)
    simp only [pow10] at hr
    have h6 : IntKind.wrap .i64 (pow10 i * 10) = pow10 (i + 1) := by simp only [pow10]; rw [Int.mul_comm]; exact wrap_i64 (by omega) (by omega)
    simp (config := {decide := true, contextual := true, maxSteps := 3000000}) only [h2, h5, h6, List.replicate, ↓simPre, simPost, Bool.not_not, Bool.not_false, Bool.not_true, Bool.false_eq_true, reduceCtorEq, ↓reduceIte, decide_true, decide_false, splice, results, resT, resTs, AV.key, Bool.and_true, Bool.true_and, and_true, true_and, and_self, List.flatMap_nil, List.flatMap_cons, List.append_nil, List.nil_append, List.cons_append, List.map_cons, List.map_nil, List.all_cons, List.all_nil, List.length_cons, List.length_nil, Nat.reduceAdd, Nat.reduceLT, Nat.reduceLeDiff, Nat.reduceEqDiff, Nat.reduceSub, Nat.zero_add, Nat.add_zero, List.drop_succ_cons, List.drop_zero, List.take_succ_cons, List.take_zero]
    exact ih (i + 1) (by omega) (by omega)
  · have h2 : ((i : Int) < m) = False := by simp; omega
    have h7 : m.toNat = i := by omega
    simp (config := {decide := true, contextual := true, maxSteps := 3000000}) only [h2, h7, List.replicate, ↓simPre, simPost, Bool.not_not, Bool.not_false, Bool.not_true, Bool.false_eq_true, reduceCtorEq, ↓reduceIte, decide_true, decide_false, splice, results, resT, resTs, AV.key, Bool.and_true, Bool.true_and, and_true, true_and, and_self, List.flatMap_nil, List.flatMap_cons, List.append_nil, List.nil_append, List.cons_append, List.map_cons, List.map_nil, List.all_cons, List.all_nil, List.length_cons, List.length_nil, Nat.reduceAdd, Nat.reduceLT, Nat.reduceLeDiff, Nat.reduceEqDiff, Nat.reduceSub, Nat.zero_add, Nat.add_zero, List.drop_succ_cons, List.drop_zero, List.take_succ_cons, List.take_zero]
theorem run126 (t : Ty) (v : Val) : run T S 126 [.agg (encT t), .agg (encV v)] = some (.int .i64 (checkValue t v)) := by
  obtain ⟨k, l, sc⟩ := t
  obtain ⟨n, s⟩ := v
  simp only [encT, encV]
  have h89 := run89 (S := S) ⟨k, l, sc⟩
  simp only [encT] at h89
  have hr := powT_range l
  have w1 : IntKind.wrap .i64 (powT l - 1) = powT l - 1 := wrap_i64 (by omega) (by omega)
  have w2 : IntKind.wrap .i64 (0 - (powT l - 1)) = -(powT l - 1) := by rw [wrap_i64 (by omega) (by omega)]; omega
  by_cases h : checkType ⟨k, l, sc⟩ = 0
  · have h153 := run153 (S := S) l (by have := (checkType_zero h).2.1; simp only at this; omega)
    (refine run_fn T126 ⟨rfl, by decide⟩ ?_; rw [start126])
    simp (config := {decide := true, contextual := true, maxSteps := 3000000}) only [F126, h89, run131, run130_2, run129, h153, w1, w2, List.replicate, ↓simPre, simPost, Bool.not_not, Bool.not_false, Bool.not_true, Bool.false_eq_true, reduceCtorEq, ↓reduceIte, decide_true, decide_false, splice, results, resT, resTs, AV.key, Bool.and_true, Bool.true_and, and_true, true_and, and_self, List.flatMap_nil, List.flatMap_cons, List.append_nil, List.nil_append, List.cons_append, List.map_cons, List.map_nil, List.all_cons, List.all_nil, List.length_cons, List.length_nil, Nat.reduceAdd, Nat.reduceLT, Nat.reduceLeDiff, Nat.reduceEqDiff, Nat.reduceSub, Nat.zero_add, Nat.add_zero, List.drop_succ_cons, List.drop_zero, List.take_succ_cons, List.take_zero]
    unfold checkValue
    simp only
    (repeat' split) <;> rfl
  · have h0 : (first [checkType ⟨k, l, sc⟩, cond (k == 4) 17] != 0) = true := by simp [first, h]
    (refine run_fn T126 ⟨rfl, by decide⟩ ?_; rw [start126])
    simp (config := {decide := true, contextual := true, maxSteps := 3000000}) only [F126, h89, run131, run130_2, run129, h0, List.replicate, ↓simPre, simPost, Bool.not_not, Bool.not_false, Bool.not_true, Bool.false_eq_true, reduceCtorEq, ↓reduceIte, decide_true, decide_false, splice, results, resT, resTs, AV.key, Bool.and_true, Bool.true_and, and_true, true_and, and_self, List.flatMap_nil, List.flatMap_cons, List.append_nil, List.nil_append, List.cons_append, List.map_cons, List.map_nil, List.all_cons, List.all_nil, List.length_cons, List.length_nil, Nat.reduceAdd, Nat.reduceLT, Nat.reduceLeDiff, Nat.reduceEqDiff, Nat.reduceSub, Nat.zero_add, Nat.add_zero, List.drop_succ_cons, List.drop_zero, List.take_succ_cons, List.take_zero]
    simp only [checkValue, h0, if_true]
end Go.Bv

/- BY VALUE, chapter 26: FewFile. -/
set_option linter.unusedSimpArgs false
set_option linter.unusedVariables false
namespace Go.Bv
variable {S : RT}
attribute [local congr] ite_congr congr_bindOps congr_bindC congr_andThen congr_orNone congr_onBool congr_onEff congr_headC
set_option maxRecDepth 100000
set_option maxHeartbeats 40000000
theorem run25 (fn n : ByteArray) (l : List Fd) (ks : List (ByteArray × Bool)) (u : Bool) :
    run T S 25 [.agg [.str fn, .str n, .sl (l.map encF), .sl (ks.map encK), .bool u]] = some (.bool (fewFile fn n l ks)) := by
  (refine run_fn T25 ⟨rfl, by decide⟩ ?_; rw [start25])
  simp (config := {decide := true, contextual := true, maxSteps := 3000000}) only [F25, List.length_map, List.replicate, ↓simPre, simPost, Bool.not_not, Bool.not_false, Bool.not_true, Bool.false_eq_true, reduceCtorEq, ↓reduceIte, decide_true, decide_false, splice, results, resT, resTs, AV.key, Bool.and_true, Bool.true_and, and_true, true_and, and_self, List.flatMap_nil, List.flatMap_cons, List.append_nil, List.nil_append, List.cons_append, List.map_cons, List.map_nil, List.all_cons, List.all_nil, List.length_cons, List.length_nil, Nat.reduceAdd, Nat.reduceLT, Nat.reduceLeDiff, Nat.reduceEqDiff, Nat.reduceSub, Nat.zero_add, Nat.add_zero, List.drop_succ_cons, List.drop_zero, List.take_succ_cons, List.take_zero]
  unfold fewFile
  split
  · rfl
  rename_i hkk
  simp only [Bool.or_eq_true, decide_eq_true_eq, not_or] at hkk
  have hl : l.length ≤ 40 := by omega
  have h86 := run86 (S := S) ks (by omega)
  refine Eq.trans (headC_ind (σ := Nat) (fun i => ⟨[.unk, .ptr 1 0 0, .unk, .int .i64 i] ++ List.replicate 44 .unk, ⟨0, .dead⟩ :: ⟨0, .box [.str fn, .str n, .sl (l.map encF), .sl (ks.map encK), .bool u]⟩ :: List.replicate 46 ⟨0, .dead⟩⟩)
    (fun i => some (AV.bool (fieldsShort (l.drop i) && keyShort ks))) (fun i => l.length - i) (fun i => i ≤ l.length) ?_ 0 (Nat.zero_le _)) (by simp)
  intro i hi ih
  by_cases hlt : i < l.length
  · obtain ⟨h1, h2, h4, h5⟩ := idx hlt (by omega)
    have h3 := map_get encF l i default hlt
    rw [drop_cons default hlt]
    simp only [encF] at h3
    simp (config := {decide := true, contextual := true, maxSteps := 3000000}) only [h1, h2, h3, h4, h5, List.length_map, List.replicate, ↓simPre, simPost, Bool.not_not, Bool.not_false, Bool.not_true, Bool.false_eq_true, reduceCtorEq, ↓reduceIte, decide_true, decide_false, splice, results, resT, resTs, AV.key, Bool.and_true, Bool.true_and, and_true, true_and, and_self, List.flatMap_nil, List.flatMap_cons, List.append_nil, List.nil_append, List.cons_append, List.map_cons, List.map_nil, List.all_cons, List.all_nil, List.length_cons, List.length_nil, Nat.reduceAdd, Nat.reduceLT, Nat.reduceLeDiff, Nat.reduceEqDiff, Nat.reduceSub, Nat.zero_add, Nat.add_zero, List.drop_succ_cons, List.drop_zero, List.take_succ_cons, List.take_zero]
    simp only [fieldsShort]
    split
    · simp
    · exact ih (i + 1) (by omega) (by omega)
  · have h2 := idxEnd (Nat.le_of_not_lt hlt)
    have h7 : l.drop i = [] := List.drop_eq_nil_of_le (by omega)
    simp (config := {decide := true, contextual := true, maxSteps := 3000000}) only [h2, h7, fieldsShort, List.length_map, h86, List.replicate, ↓simPre, simPost, Bool.not_not, Bool.not_false, Bool.not_true, Bool.false_eq_true, reduceCtorEq, ↓reduceIte, decide_true, decide_false, splice, results, resT, resTs, AV.key, Bool.and_true, Bool.true_and, and_true, true_and, and_self, List.flatMap_nil, List.flatMap_cons, List.append_nil, List.nil_append, List.cons_append, List.map_cons, List.map_nil, List.all_cons, List.all_nil, List.length_cons, List.length_nil, Nat.reduceAdd, Nat.reduceLT, Nat.reduceLeDiff, Nat.reduceEqDiff, Nat.reduceSub, Nat.zero_add, Nat.add_zero, List.drop_succ_cons, List.drop_zero, List.take_succ_cons, List.take_zero]
theorem run16 (n : ByteArray) (l : List Fd) : run T S 16 [.agg [.str n, .sl (l.map encF)]] = some (.bool (fewFile (bs []) n l [])) := by
  have h25 := run25 (S := S) (bs []) n l [] false
  simp only [List.map_nil] at h25
  (refine run_fn T16 ⟨rfl, by decide⟩ ?_; rw [start16])
  simp (config := {decide := true, contextual := true, maxSteps := 3000000}) only [F16, h25, List.replicate, ↓simPre, simPost, Bool.not_not, Bool.not_false, Bool.not_true, Bool.false_eq_true, reduceCtorEq, ↓reduceIte, decide_true, decide_false, splice, results, resT, resTs, AV.key, Bool.and_true, Bool.true_and, and_true, true_and, and_self, List.flatMap_nil, List.flatMap_cons, List.append_nil, List.nil_append, List.cons_append, List.map_cons, List.map_nil, List.all_cons, List.all_nil, List.length_cons, List.length_nil, Nat.reduceAdd, Nat.reduceLT, Nat.reduceLeDiff, Nat.reduceEqDiff, Nat.reduceSub, Nat.zero_add, Nat.add_zero, List.drop_succ_cons, List.drop_zero, List.take_succ_cons, List.take_zero]
end Go.Bv
