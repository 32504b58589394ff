/- BY VALUE, chapter 26: CheckTable, and the reference's Check. -/
import Derived.Test.YtnfmilnlekmjgaaU1
set_option linter.unusedSimpArgs false
set_option linter.unusedVariables false
namespace Go.Bv
variable {S : RT}
attribute [local congr] ite_congr congr_bindOps congr_bindC congr_andThen congr_orNone congr_onBool congr_onEff congr_headC
set_option maxRecDepth 100000
set_option maxHeartbeats 40000000
def recErr (n : ByteArray) (l : List Fd) (r : Bool × ByteArray) : Int := if (!r.1) = true then (bytesErr n l r.2).2 else cond (!(r.2.toList == (bs []).toList)) 5
def recsGo (n : ByteArray) (l : List Fd) : List (Bool × ByteArray) → Int → Int × Int
  | [], _ => (0, 0)
  | r :: rs, i => if (recErr n l r != 0) = true then (i, recErr n l r) else recsGo n l rs (i + 1)
def tabE (fn n : ByteArray) (l : List Fd) (ks : List (ByteArray × Bool)) (rs : List (Bool × ByteArray)) : Int := first [(checkFile fn n l ks).2, cond (decide ((rs.length : Int) > 60)) 2]
/-- An index and the error of a table. -/
def checkTable (fn n : ByteArray) (l : List Fd) (ks : List (ByteArray × Bool)) (rs : List (Bool × ByteArray)) : Int × Int := if (tabE fn n l ks rs != 0) = true then (0, tabE fn n l ks rs) else recsGo n l rs 0
structure Small (fn n : ByteArray) (l : List Fd) (ks : List (ByteArray × Bool)) (rs : List (Bool × ByteArray)) : Prop where
  qfn : fn.size ≤ 1000
  qsh : Short n l
  qks : ks.length ≤ 1000
  qrs : rs.length ≤ 1000
  qby : ∀ r ∈ rs, r.2.size ≤ 1000
theorem rec_mem (rs : List (Bool × ByteArray)) (i : Nat) (h : i < rs.length) : rs.getD i (false, bs []) ∈ rs := by
  rw [List.getD_eq_getElem?_getD, List.getElem?_eq_getElem h]; simp
theorem run37 (hS : Told28 S) (fn n : ByteArray) (l : List Fd) (ks : List (ByteArray × Bool)) (u : Bool) (rs : List (Bool × ByteArray)) (h : Small fn n l ks rs) :
    run T S 37 [.agg (tabC fn n l ks u rs)] = some (.tup [.int .i64 (checkTable fn n l ks rs).1, .int .i64 (checkTable fn n l ks rs).2]) := by
  have h97 := run97 hS fn n l ks u (by have := h.qfn; omega) h.qsh h.qks
  have hrs := h.qrs
  simp only [fileC] at h97
  simp only [tabC]
  unfold checkTable tabE
  (refine run_fn T37 ⟨rfl, by decide⟩ ?_; rw [start37])
  simp (config := {decide := true, contextual := true, maxSteps := 3000000}) only [F37, h97, run81, run80_2, List.length_map, List.replicate, ↓simPre, simPost, Bool.not_not, Bool.not_false, Bool.not_true, Bool.false_eq_true, reduceCtorEq, ↓reduceIte, decide_true, decide_false, splice, results, resT, resTs, AV.key, Bool.and_true, Bool.true_and, and_true, true_and, and_self, List.flatMap_nil, List.flatMap_cons, List.append_nil, List.nil_append, List.cons_append, List.map_cons, List.map_nil, List.all_cons, List.all_nil, List.length_cons, List.length_nil, Nat.reduceAdd, Nat.reduceLT, Nat.reduceLeDiff, Nat.reduceEqDiff, Nat.reduceSub, Nat.zero_add, Nat.add_zero, List.drop_succ_cons, List.drop_zero, List.take_succ_cons, List.take_zero]
  split
  · rfl
  refine Eq.trans (headC_ind (σ := Nat) (fun i => ⟨[.unk, .ptr 1 0 0] ++ List.replicate 20 .unk ++ [.sl (rs.map encR), .int .i64 rs.length, .int .i64 i] ++ List.replicate 22 .unk, ⟨0, .dead⟩ :: ⟨0, .box [.str fn, .str n, .sl (l.map encF), .sl (ks.map encK), .bool u, .sl (rs.map encR)]⟩ :: List.replicate 45 ⟨0, .dead⟩⟩)
    (fun i => some (AV.tup [.int .i64 (recsGo n l (rs.drop i) i).1, .int .i64 (recsGo n l (rs.drop i) i).2])) (fun i => rs.length - i) (fun i => i ≤ rs.length) ?_ 0 (Nat.zero_le _)) (by simp)
  intro i hi ih
  by_cases hlt : i < rs.length
  · obtain ⟨h1, h2, h4, h5⟩ := idx hlt (by omega)
    have h3 := map_get encR rs i (false, bs []) hlt
    have hm := h.qby _ (rec_mem rs i hlt)
    have hih := ih (i + 1) (by omega) (by omega)
    rw [drop_cons (false, bs []) hlt]
    generalize rs.getD i (false, bs []) = r at h3 hm
    obtain ⟨d, b⟩ := r
    have h85 := run85 (S := S) n l b h.qsh (by simp only at hm; omega)
    simp only [encR] at h3
    simp only [recsGo, recErr]
    cases d with
    | true =>
      simp (config := {decide := true, contextual := true, maxSteps := 3000000}) only [h1, h2, h3, h4, h5, run81, List.length_map, List.replicate, ↓simPre, simPost, Bool.not_not, Bool.not_false, Bool.not_true, Bool.false_eq_true, reduceCtorEq, ↓reduceIte, decide_true, decide_false, splice, results, resT, resTs, AV.key, Bool.and_true, Bool.true_and, and_true, true_and, and_self, List.flatMap_nil, List.flatMap_cons, List.append_nil, List.nil_append, List.cons_append, List.map_cons, List.map_nil, List.all_cons, List.all_nil, List.length_cons, List.length_nil, Nat.reduceAdd, Nat.reduceLT, Nat.reduceLeDiff, Nat.reduceEqDiff, Nat.reduceSub, Nat.zero_add, Nat.add_zero, List.drop_succ_cons, List.drop_zero, List.take_succ_cons, List.take_zero]
      skip
      split
      · rfl
      · exact hih
    | false =>
      simp (config := {decide := true, contextual := true, maxSteps := 3000000}) only [h1, h2, h3, h4, h5, h85, run81, List.length_map, List.replicate, ↓simPre, simPost, Bool.not_not, Bool.not_false, Bool.not_true, Bool.false_eq_true, reduceCtorEq, ↓reduceIte, decide_true, decide_false, splice, results, resT, resTs, AV.key, Bool.and_true, Bool.true_and, and_true, true_and, and_self, List.flatMap_nil, List.flatMap_cons, List.append_nil, List.nil_append, List.cons_append, List.map_cons, List.map_nil, List.all_cons, List.all_nil, List.length_cons, List.length_nil, Nat.reduceAdd, Nat.reduceLT, Nat.reduceLeDiff, Nat.reduceEqDiff, Nat.reduceSub, Nat.zero_add, Nat.add_zero, List.drop_succ_cons, List.drop_zero, List.take_succ_cons, List.take_zero]
      skip
      split
      · rfl
      · exact hih
  · have h2 := idxEnd (Nat.le_of_not_lt hlt)
    have h7 : rs.drop i = [] := List.drop_eq_nil_of_le (by omega)
    simp (config := {decide := true, contextual := true, maxSteps := 3000000}) only [h2, h7, recsGo, List.length_map, List.replicate, ↓simPre, simPost, Bool.not_not, Bool.not_false, Bool.not_true, Bool.false_eq_true, reduceCtorEq, ↓reduceIte, decide_true, decide_false, splice, results, resT, resTs, AV.key, Bool.and_true, Bool.true_and, and_true, true_and, and_self, List.flatMap_nil, List.flatMap_cons, List.append_nil, List.nil_append, List.cons_append, List.map_cons, List.map_nil, List.all_cons, List.all_nil, List.length_cons, List.length_nil, Nat.reduceAdd, Nat.reduceLT, Nat.reduceLeDiff, Nat.reduceEqDiff, Nat.reduceSub, Nat.zero_add, Nat.add_zero, List.drop_succ_cons, List.drop_zero, List.take_succ_cons, List.take_zero]
theorem run39 (fn n : ByteArray) (l : List Fd) (ks : List (ByteArray × Bool)) (u : Bool) (rs : List (Bool × ByteArray)) (h : Small fn n l ks rs) :
    run T S 39 [.agg (tabC fn n l ks u rs)] = some (.tup [.int .i64 (checkTable fn n l ks rs).1, .int .i64 (checkTable fn n l ks rs).2]) := by
  have h99 := run99 (S := S) fn n l ks u (by have := h.qfn; omega) h.qsh (by have := h.qks; omega)
  have hrs := h.qrs
  simp only [fileC] at h99
  simp only [tabC]
  have main : (checkFile fn n l ks).2 = 0 → ¬ (rs.length : Int) > 60 → run T S 39 [.agg [.str fn, .str n, .sl (l.map encF), .sl (ks.map encK), .bool u, .sl (rs.map encR)]] = some (.tup [.int .i64 (recsGo n l rs 0).1, .int .i64 (recsGo n l rs 0).2]) := by
    intro c1 c2
    have c1b : ((checkFile fn n l ks).2 != 0) = false := by simpa using c1
    have c2b : decide ((rs.length : Int) > 60) = false := by simpa using c2
    (refine run_fn T39 ⟨rfl, by decide⟩ ?_; rw [start39])
    simp (config := {decide := true, contextual := true, maxSteps := 3000000}) only [F39, h99, c1b, c2b, List.length_map, List.replicate, ↓simPre, simPost, Bool.not_not, Bool.not_false, Bool.not_true, Bool.false_eq_true, reduceCtorEq, ↓reduceIte, decide_true, decide_false, splice, results, resT, resTs, AV.key, Bool.and_true, Bool.true_and, and_true, true_and, and_self, List.flatMap_nil, List.flatMap_cons, List.append_nil, List.nil_append, List.cons_append, List.map_cons, List.map_nil, List.all_cons, List.all_nil, List.length_cons, List.length_nil, Nat.reduceAdd, Nat.reduceLT, Nat.reduceLeDiff, Nat.reduceEqDiff, Nat.reduceSub, Nat.zero_add, Nat.add_zero, List.drop_succ_cons, List.drop_zero, List.take_succ_cons, List.take_zero]
    refine Eq.trans (headC_ind (σ := Nat) (fun i => ⟨[.unk, .ptr 1 0 0, .unk, .unk, .unk, .int .i64 i] ++ List.replicate 45 .unk, ⟨0, .dead⟩ :: ⟨0, .box [.str fn, .str n, .sl (l.map encF), .sl (ks.map encK), .bool u, .sl (rs.map encR)]⟩ :: List.replicate 49 ⟨0, .dead⟩⟩)
      (fun i => some (AV.tup [.int .i64 (recsGo n l (rs.drop i) i).1, .int .i64 (recsGo n l (rs.drop i) i).2])) (fun i => rs.length - i) (fun i => i ≤ rs.length) ?_ 0 (Nat.zero_le _)) (by simp)
    intro i hi ih
    by_cases hlt : i < rs.length
    · obtain ⟨h1, h2, h4, h5⟩ := idx hlt (by omega)
      have h3 := map_get encR rs i (false, bs []) hlt
      have hm := h.qby _ (rec_mem rs i hlt)
      have hih := ih (i + 1) (by omega) (by omega)
      rw [drop_cons (false, bs []) hlt]
      generalize rs.getD i (false, bs []) = r at h3 hm
      obtain ⟨d, b⟩ := r
      have h100 := run100 (S := S) n l b h.qsh (by simp only at hm; omega)
      simp only [encR] at h3
      simp only [recsGo, recErr]
      cases d with
      | true =>
        have e5 : cond (!(b.toList == (bs []).toList)) 5 = if (!(b.toList == (bs []).toList)) = true then 5 else 0 := rfl
        by_cases cb : (b.toList == (bs []).toList) = true
        · simp (config := {decide := true, contextual := true, maxSteps := 3000000}) only [h1, h2, h3, h4, h5, cb, List.length_map, List.replicate, ↓simPre, simPost, Bool.not_not, Bool.not_false, Bool.not_true, Bool.false_eq_true, reduceCtorEq, ↓reduceIte, decide_true, decide_false, splice, results, resT, resTs, AV.key, Bool.and_true, Bool.true_and, and_true, true_and, and_self, List.flatMap_nil, List.flatMap_cons, List.append_nil, List.nil_append, List.cons_append, List.map_cons, List.map_nil, List.all_cons, List.all_nil, List.length_cons, List.length_nil, Nat.reduceAdd, Nat.reduceLT, Nat.reduceLeDiff, Nat.reduceEqDiff, Nat.reduceSub, Nat.zero_add, Nat.add_zero, List.drop_succ_cons, List.drop_zero, List.take_succ_cons, List.take_zero]
          exact hih
        · have cb' : (b.toList == (bs []).toList) = false := by simpa using cb
          simp (config := {decide := true, contextual := true, maxSteps := 3000000}) only [h1, h2, h3, h4, h5, cb', List.length_map, List.replicate, ↓simPre, simPost, Bool.not_not, Bool.not_false, Bool.not_true, Bool.false_eq_true, reduceCtorEq, ↓reduceIte, decide_true, decide_false, splice, results, resT, resTs, AV.key, Bool.and_true, Bool.true_and, and_true, true_and, and_self, List.flatMap_nil, List.flatMap_cons, List.append_nil, List.nil_append, List.cons_append, List.map_cons, List.map_nil, List.all_cons, List.all_nil, List.length_cons, List.length_nil, Nat.reduceAdd, Nat.reduceLT, Nat.reduceLeDiff, Nat.reduceEqDiff, Nat.reduceSub, Nat.zero_add, Nat.add_zero, List.drop_succ_cons, List.drop_zero, List.take_succ_cons, List.take_zero]
          rfl
      | false =>
        simp (config := {decide := true, contextual := true, maxSteps := 3000000}) only [h1, h2, h3, h4, h5, h100, List.length_map, List.replicate, ↓simPre, simPost, Bool.not_not, Bool.not_false, Bool.not_true, Bool.false_eq_true, reduceCtorEq, ↓reduceIte, decide_true, decide_false, splice, results, resT, resTs, AV.key, Bool.and_true, Bool.true_and, and_true, true_and, and_self, List.flatMap_nil, List.flatMap_cons, List.append_nil, List.nil_append, List.cons_append, List.map_cons, List.map_nil, List.all_cons, List.all_nil, List.length_cons, List.length_nil, Nat.reduceAdd, Nat.reduceLT, Nat.reduceLeDiff, Nat.reduceEqDiff, Nat.reduceSub, Nat.zero_add, Nat.add_zero, List.drop_succ_cons, List.drop_zero, List.take_succ_cons, List.take_zero]
        skip
        split
        · rfl
        · exact hih
    · have h2 := idxEnd (Nat.le_of_not_lt hlt)
      have h7 : rs.drop i = [] := List.drop_eq_nil_of_le (by omega)
      simp (config := {decide := true, contextual := true, maxSteps := 3000000}) only [h2, h7, recsGo, List.length_map, List.replicate, ↓simPre, simPost, Bool.not_not, Bool.not_false, Bool.not_true, Bool.false_eq_true, reduceCtorEq, ↓reduceIte, decide_true, decide_false, splice, results, resT, resTs, AV.key, Bool.and_true, Bool.true_and, and_true, true_and, and_self, List.flatMap_nil, List.flatMap_cons, List.append_nil, List.nil_append, List.cons_append, List.map_cons, List.map_nil, List.all_cons, List.all_nil, List.length_cons, List.length_nil, Nat.reduceAdd, Nat.reduceLT, Nat.reduceLeDiff, Nat.reduceEqDiff, Nat.reduceSub, Nat.zero_add, Nat.add_zero, List.drop_succ_cons, List.drop_zero, List.take_succ_cons, List.take_zero]
  unfold checkTable tabE
  by_cases c1 : (checkFile fn n l ks).2 = 0
  · by_cases c2 : (rs.length : Int) > 60
    · have c1b : ((checkFile fn n l ks).2 != 0) = false := by simpa using c1
      have c2b : decide ((rs.length : Int) > 60) = true := by simpa using c2
      rw [c1, c2b]
      (refine run_fn T39 ⟨rfl, by decide⟩ ?_; rw [start39])
      simp (config := {decide := true, contextual := true, maxSteps := 3000000}) only [F39, h99, c1b, c2b, List.length_map, List.replicate, ↓simPre, simPost, Bool.not_not, Bool.not_false, Bool.not_true, Bool.false_eq_true, reduceCtorEq, ↓reduceIte, decide_true, decide_false, splice, results, resT, resTs, AV.key, Bool.and_true, Bool.true_and, and_true, true_and, and_self, List.flatMap_nil, List.flatMap_cons, List.append_nil, List.nil_append, List.cons_append, List.map_cons, List.map_nil, List.all_cons, List.all_nil, List.length_cons, List.length_nil, Nat.reduceAdd, Nat.reduceLT, Nat.reduceLeDiff, Nat.reduceEqDiff, Nat.reduceSub, Nat.zero_add, Nat.add_zero, List.drop_succ_cons, List.drop_zero, List.take_succ_cons, List.take_zero]
      rfl
    · have c2b : decide ((rs.length : Int) > 60) = false := by simpa using c2
      rw [main c1 c2, c1, c2b]
      rfl
  · have c1b : ((checkFile fn n l ks).2 != 0) = true := by simpa using c1
    have ef : first [(checkFile fn n l ks).2, cond (decide ((rs.length : Int) > 60)) 2] = (checkFile fn n l ks).2 := by simp [first, c1]
    rw [ef, if_pos c1b]
    (refine run_fn T39 ⟨rfl, by decide⟩ ?_; rw [start39])
    simp (config := {decide := true, contextual := true, maxSteps := 3000000}) only [F39, h99, c1b, List.length_map, List.replicate, ↓simPre, simPost, Bool.not_not, Bool.not_false, Bool.not_true, Bool.false_eq_true, reduceCtorEq, ↓reduceIte, decide_true, decide_false, splice, results, resT, resTs, AV.key, Bool.and_true, Bool.true_and, and_true, true_and, and_self, List.flatMap_nil, List.flatMap_cons, List.append_nil, List.nil_append, List.cons_append, List.map_cons, List.map_nil, List.all_cons, List.all_nil, List.length_cons, List.length_nil, Nat.reduceAdd, Nat.reduceLT, Nat.reduceLeDiff, Nat.reduceEqDiff, Nat.reduceSub, Nat.zero_add, Nat.add_zero, List.drop_succ_cons, List.drop_zero, List.take_succ_cons, List.take_zero]
end Go.Bv
