/- BY VALUE, chapter 26: put, IsThere, Free, IndexFunc; the changes of one record, and their reference. -/
import Derived.Test.YtnfmilnlekmjgaaU4
set_option linter.unusedSimpArgs false
set_option linter.unusedVariables false
namespace Go.Bv
variable {S : RT}
attribute [local congr] ite_congr congr_bindOps congr_bindC congr_andThen congr_orNone congr_onBool congr_onEff congr_headC
set_option maxRecDepth 100000
set_option maxHeartbeats 40000000
theorem run109 (fn n : ByteArray) (l : List Fd) (ks : List (ByteArray × Bool)) (u : Bool) (rs : List (Bool × ByteArray)) (rrn : Int) (r : Bool × ByteArray) (hl : l.length ≤ 1000000) (hk : ks.length ≤ 1000000) (hr : rs.length ≤ 100000) (h1 : 1 ≤ rrn) :
    run T S 109 [.agg (tabC fn n l ks u rs), .int .i64 rrn, .agg (encR r)] = some (.agg (tabC fn n l ks u (put rs rrn r))) := by
  have h38 := run38 (S := S) fn n l ks u rs hl hk (by omega)
  unfold put
  by_cases hb : rrn > (rs.length : Int)
  · have d1 : decide (rrn > (rs.length : Int)) = true := by simpa using hb
    have g1 : ((rs.length + 1) * 24 ≤ 140737488355328) = True := by simp; omega
    have e1 : rs.map encR ++ [[.bool r.1, .str r.2]] = (rs ++ [r]).map encR := by simp [encR]
    rw [if_pos hb]
    simp only [tabC, tabN, encR] at h38 ⊢
    (refine run_fn T109 ⟨rfl, by decide⟩ ?_; rw [start109])
    simp (config := {decide := true, contextual := true, maxSteps := 3000000}) only [F109, h38, d1, g1, e1, List.length_map, List.replicate, ↓simPre, simPost, Bool.not_not, Bool.not_false, Bool.not_true, Bool.false_eq_true, reduceCtorEq, ↓reduceIte, decide_true, decide_false, splice, results, resT, resTs, AV.key, Bool.and_true, Bool.true_and, and_true, true_and, and_self, List.flatMap_nil, List.flatMap_cons, List.append_nil, List.nil_append, List.cons_append, List.map_cons, List.map_nil, List.all_cons, List.all_nil, List.length_cons, List.length_nil, Nat.reduceAdd, Nat.reduceLT, Nat.reduceLeDiff, Nat.reduceEqDiff, Nat.reduceSub, Nat.zero_add, Nat.add_zero, List.drop_succ_cons, List.drop_zero, List.take_succ_cons, List.take_zero]
  · have d1 : decide (rrn > (rs.length : Int)) = false := by simpa using hb
    have w1 : IntKind.wrap .i64 (rrn - 1) = ((rrn - 1).toNat : Int) := by rw [wrap_i64 (by omega) (by omega)]; omega
    obtain ⟨i1, i2, i4, i5⟩ := idx (i := (rrn - 1).toNat) (n := rs.length) (by omega) (by omega)
    have i3 := map_get encR rs (rrn - 1).toNat (false, bs []) (by omega)
    have e1 : (rs.map encR).set (rrn - 1).toNat [.bool r.1, .str r.2] = (rs.set (rrn - 1).toNat r).map encR := by rw [List.map_set]; rfl
    rw [if_neg hb]
    simp only [tabC, tabN, encR] at h38 ⊢
    simp only [encR] at i3
    have n2 : ((rrn - 1).toNat < rs.length) = True := by simp; omega
    have f0 : (0 ≤ (rrn - 1).toNat) = True := by simp
    (refine run_fn T109 ⟨rfl, by decide⟩ ?_; rw [start109])
    simp (config := {decide := true, contextual := true, maxSteps := 3000000}) only [F109, h38, d1, w1, i1, i2, i3, i4, e1, n2, f0, storeA, List.length_map, List.replicate, ↓simPre, simPost, Bool.not_not, Bool.not_false, Bool.not_true, Bool.false_eq_true, reduceCtorEq, ↓reduceIte, decide_true, decide_false, splice, results, resT, resTs, AV.key, Bool.and_true, Bool.true_and, and_true, true_and, and_self, List.flatMap_nil, List.flatMap_cons, List.append_nil, List.nil_append, List.cons_append, List.map_cons, List.map_nil, List.all_cons, List.all_nil, List.length_cons, List.length_nil, Nat.reduceAdd, Nat.reduceLT, Nat.reduceLeDiff, Nat.reduceEqDiff, Nat.reduceSub, Nat.zero_add, Nat.add_zero, List.drop_succ_cons, List.drop_zero, List.take_succ_cons, List.take_zero]
def isThere (rs : List (Bool × ByteArray)) (rrn : Int) : Bool := (decide (1 ≤ rrn) && decide (rrn ≤ (rs.length : Int))) && !isDel rs rrn
theorem run47 (fn n : ByteArray) (l : List Fd) (ks : List (ByteArray × Bool)) (u : Bool) (rs : List (Bool × ByteArray)) (rrn : Int) (hr : rs.length ≤ 1000000) :
    run T S 47 [.agg (tabC fn n l ks u rs), .int .i64 rrn] = some (.bool (isThere rs rrn)) := by
  have h62 := run62 (S := S) rrn 1 rs.length
  unfold isThere
  simp only [tabC]
  by_cases hin : 1 ≤ rrn ∧ rrn ≤ (rs.length : Int)
  · have d3 : decide (1 ≤ rrn) = true := by simp; omega
    have d4 : decide (rrn ≤ (rs.length : Int)) = true := by simp; omega
    have w1 : IntKind.wrap .i64 (rrn - 1) = ((rrn - 1).toNat : Int) := by rw [wrap_i64 (by omega) (by omega)]; omega
    obtain ⟨i1, i2, i4, i5⟩ := idx (i := (rrn - 1).toNat) (n := rs.length) (by omega) (by omega)
    have i3 := map_get encR rs (rrn - 1).toNat (false, bs []) (by omega)
    simp only [encR] at i3
    rw [d3, d4] at h62
    simp only [isDel, d3, d4]
    (refine run_fn T47 ⟨rfl, by decide⟩ ?_; rw [start47])
    simp (config := {decide := true, contextual := true, maxSteps := 3000000}) only [F47, h62, w1, i1, i2, i3, i4, List.length_map, List.replicate, ↓simPre, simPost, Bool.not_not, Bool.not_false, Bool.not_true, Bool.false_eq_true, reduceCtorEq, ↓reduceIte, decide_true, decide_false, splice, results, resT, resTs, AV.key, Bool.and_true, Bool.true_and, and_true, true_and, and_self, List.flatMap_nil, List.flatMap_cons, List.append_nil, List.nil_append, List.cons_append, List.map_cons, List.map_nil, List.all_cons, List.all_nil, List.length_cons, List.length_nil, Nat.reduceAdd, Nat.reduceLT, Nat.reduceLeDiff, Nat.reduceEqDiff, Nat.reduceSub, Nat.zero_add, Nat.add_zero, List.drop_succ_cons, List.drop_zero, List.take_succ_cons, List.take_zero]
  · have d3 : (decide (1 ≤ rrn) && decide (rrn ≤ (rs.length : Int))) = false := by
      rw [Bool.and_eq_false_iff]; simp; omega
    rw [d3] at h62 ⊢
    (refine run_fn T47 ⟨rfl, by decide⟩ ?_; rw [start47])
    simp (config := {decide := true, contextual := true, maxSteps := 3000000}) only [F47, h62, List.length_map, List.replicate, ↓simPre, simPost, Bool.not_not, Bool.not_false, Bool.not_true, Bool.false_eq_true, reduceCtorEq, ↓reduceIte, decide_true, decide_false, splice, results, resT, resTs, AV.key, Bool.and_true, Bool.true_and, and_true, true_and, and_self, List.flatMap_nil, List.flatMap_cons, List.append_nil, List.nil_append, List.cons_append, List.map_cons, List.map_nil, List.all_cons, List.all_nil, List.length_cons, List.length_nil, Nat.reduceAdd, Nat.reduceLT, Nat.reduceLeDiff, Nat.reduceEqDiff, Nat.reduceSub, Nat.zero_add, Nat.add_zero, List.drop_succ_cons, List.drop_zero, List.take_succ_cons, List.take_zero]
    rfl
/-- The first deleted record, told from 1 on, or 0. -/
def freeFrom : List (Bool × ByteArray) → Int → Int
  | [], _ => 0
  | r :: l, i => if r.1 = true then i + 1 else freeFrom l (i + 1)
theorem run108 (fn n : ByteArray) (l : List Fd) (ks : List (ByteArray × Bool)) (u : Bool) (rs : List (Bool × ByteArray)) (hr : rs.length ≤ 1000000) :
    run T S 108 [.agg (tabC fn n l ks u rs)] = some (.int .i64 (freeFrom rs 0)) := by
  simp only [tabC]
  (refine run_fn T108 ⟨rfl, by decide⟩ ?_; rw [start108])
  simp (config := {decide := true, contextual := true, maxSteps := 3000000}) only [F108, List.length_map, List.replicate, ↓simPre, simPost, Bool.not_not, Bool.not_false, Bool.not_true, Bool.false_eq_true, reduceCtorEq, ↓reduceIte, decide_true, decide_false, splice, results, resT, resTs, AV.key, Bool.and_true, Bool.true_and, and_true, true_and, and_self, List.flatMap_nil, List.flatMap_cons, List.append_nil, List.nil_append, List.cons_append, List.map_cons, List.map_nil, List.all_cons, List.all_nil, List.length_cons, List.length_nil, Nat.reduceAdd, Nat.reduceLT, Nat.reduceLeDiff, Nat.reduceEqDiff, Nat.reduceSub, Nat.zero_add, Nat.add_zero, List.drop_succ_cons, List.drop_zero, List.take_succ_cons, List.take_zero]
  refine headC_ind (σ := Nat) (fun i => ⟨.unk :: .ptr 1 0 0 :: .unk :: .int .i64 i :: List.replicate 15 .unk, ⟨0, .dead⟩ :: ⟨0, .box [.str fn, .str n, .sl (l.map encF), .sl (ks.map encK), .bool u, .sl (rs.map encR)]⟩ :: List.replicate 17 ⟨0, .dead⟩⟩)
    (fun i => some (AV.int .i64 (freeFrom (rs.drop i) i))) (fun i => rs.length - i) (fun i => i ≤ rs.length) ?_ 0 (Nat.zero_le _)
  intro i hi ih
  by_cases hlt : i < rs.length
  · obtain ⟨h1, h2, h4, h5⟩ := idx (i := i) (n := rs.length) hlt (by omega)
    have h3 := map_get encR rs i (false, bs []) hlt
    simp only [encR] at h3
    have ih1 := ih (i + 1) (by omega) (by omega)
    simp only [List.replicate] at ih1
    rw [drop_cons (false, bs []) hlt]
    simp (config := {decide := true, contextual := true, maxSteps := 3000000}) only [h1, h2, h3, h4, h5, ih1, List.length_map, List.replicate, ↓simPre, simPost, Bool.not_not, Bool.not_false, Bool.not_true, Bool.false_eq_true, reduceCtorEq, ↓reduceIte, decide_true, decide_false, splice, results, resT, resTs, AV.key, Bool.and_true, Bool.true_and, and_true, true_and, and_self, List.flatMap_nil, List.flatMap_cons, List.append_nil, List.nil_append, List.cons_append, List.map_cons, List.map_nil, List.all_cons, List.all_nil, List.length_cons, List.length_nil, Nat.reduceAdd, Nat.reduceLT, Nat.reduceLeDiff, Nat.reduceEqDiff, Nat.reduceSub, Nat.zero_add, Nat.add_zero, List.drop_succ_cons, List.drop_zero, List.take_succ_cons, List.take_zero]
    simp only [freeFrom]
    split
    · simp only [Option.some.injEq, AV.int.injEq, true_and]; omega
    · congr 2
  · have h2 := idxEnd (i := i) (n := rs.length) (by omega)
    have h7 : rs.drop i = [] := List.drop_eq_nil_of_le (by omega)
    simp (config := {decide := true, contextual := true, maxSteps := 3000000}) only [h2, h7, freeFrom, List.length_map, List.replicate, ↓simPre, simPost, Bool.not_not, Bool.not_false, Bool.not_true, Bool.false_eq_true, reduceCtorEq, ↓reduceIte, decide_true, decide_false, splice, results, resT, resTs, AV.key, Bool.and_true, Bool.true_and, and_true, true_and, and_self, List.flatMap_nil, List.flatMap_cons, List.append_nil, List.nil_append, List.cons_append, List.map_cons, List.map_nil, List.all_cons, List.all_nil, List.length_cons, List.length_nil, Nat.reduceAdd, Nat.reduceLT, Nat.reduceLeDiff, Nat.reduceEqDiff, Nat.reduceSub, Nat.zero_add, Nat.add_zero, List.drop_succ_cons, List.drop_zero, List.take_succ_cons, List.take_zero]
theorem run106 (r : Bool × ByteArray) : run T S 106 [.agg (encR r)] = some (.bool r.1) := by
  simp only [encR]
  (refine run_fn T106 ⟨rfl, by decide⟩ ?_; rw [start106])
  simp (config := {decide := true, contextual := true, maxSteps := 3000000}) only [F106, List.replicate, ↓simPre, simPost, Bool.not_not, Bool.not_false, Bool.not_true, Bool.false_eq_true, reduceCtorEq, ↓reduceIte, decide_true, decide_false, splice, results, resT, resTs, AV.key, Bool.and_true, Bool.true_and, and_true, true_and, and_self, List.flatMap_nil, List.flatMap_cons, List.append_nil, List.nil_append, List.cons_append, List.map_cons, List.map_nil, List.all_cons, List.all_nil, List.length_cons, List.length_nil, Nat.reduceAdd, Nat.reduceLT, Nat.reduceLeDiff, Nat.reduceEqDiff, Nat.reduceSub, Nat.zero_add, Nat.add_zero, List.drop_succ_cons, List.drop_zero, List.take_succ_cons, List.take_zero]
theorem run105 (rs : List (Bool × ByteArray)) (hr : rs.length ≤ 1000000) : run T S 105 [.sl (rs.map encR), .fn 106 []] = some (.int .i64 (freeFrom rs 0 - 1)) := by
  (refine run_fn T105 ⟨rfl, by decide⟩ ?_; rw [start105])
  simp (config := {decide := true, contextual := true, maxSteps := 3000000}) only [F105, List.length_map, List.replicate, ↓simPre, simPost, Bool.not_not, Bool.not_false, Bool.not_true, Bool.false_eq_true, reduceCtorEq, ↓reduceIte, decide_true, decide_false, splice, results, resT, resTs, AV.key, Bool.and_true, Bool.true_and, and_true, true_and, and_self, List.flatMap_nil, List.flatMap_cons, List.append_nil, List.nil_append, List.cons_append, List.map_cons, List.map_nil, List.all_cons, List.all_nil, List.length_cons, List.length_nil, Nat.reduceAdd, Nat.reduceLT, Nat.reduceLeDiff, Nat.reduceEqDiff, Nat.reduceSub, Nat.zero_add, Nat.add_zero, List.drop_succ_cons, List.drop_zero, List.take_succ_cons, List.take_zero]
  refine headC_ind (σ := Nat) (fun i => ⟨.sl (rs.map encR) :: .fn 106 [] :: List.replicate 5 .unk ++ [.int .i64 rs.length, .int .i64 i] ++ List.replicate 10 .unk, List.replicate 19 ⟨0, .dead⟩⟩)
    (fun i => some (AV.int .i64 (freeFrom (rs.drop i) i - 1))) (fun i => rs.length - i) (fun i => i ≤ rs.length) ?_ 0 (Nat.zero_le _)
  intro i hi ih
  by_cases hlt : i < rs.length
  · obtain ⟨h1, h2, h4, h5⟩ := idx (i := i) (n := rs.length) hlt (by omega)
    have h3 := map_get encR rs i (false, bs []) hlt
    have h106 := run106 (S := S) (rs.getD i (false, bs []))
    simp only [encR] at h3 h106
    have ih1 := ih (i + 1) (by omega) (by omega)
    simp only [List.replicate] at ih1
    rw [drop_cons (false, bs []) hlt]
    simp (config := {decide := true, contextual := true, maxSteps := 3000000}) only [h1, h2, h3, h4, h5, ih1, h106, List.length_map, List.replicate, ↓simPre, simPost, Bool.not_not, Bool.not_false, Bool.not_true, Bool.false_eq_true, reduceCtorEq, ↓reduceIte, decide_true, decide_false, splice, results, resT, resTs, AV.key, Bool.and_true, Bool.true_and, and_true, true_and, and_self, List.flatMap_nil, List.flatMap_cons, List.append_nil, List.nil_append, List.cons_append, List.map_cons, List.map_nil, List.all_cons, List.all_nil, List.length_cons, List.length_nil, Nat.reduceAdd, Nat.reduceLT, Nat.reduceLeDiff, Nat.reduceEqDiff, Nat.reduceSub, Nat.zero_add, Nat.add_zero, List.drop_succ_cons, List.drop_zero, List.take_succ_cons, List.take_zero]
    simp only [freeFrom]
    split
    · simp only [Option.some.injEq, AV.int.injEq, true_and]; omega
    · congr 3
  · have h2 := idxEnd (i := i) (n := rs.length) (by omega)
    have h7 : rs.drop i = [] := List.drop_eq_nil_of_le (by omega)
    simp (config := {decide := true, contextual := true, maxSteps := 3000000}) only [h2, h7, freeFrom, List.length_map, List.replicate, ↓simPre, simPost, Bool.not_not, Bool.not_false, Bool.not_true, Bool.false_eq_true, reduceCtorEq, ↓reduceIte, decide_true, decide_false, splice, results, resT, resTs, AV.key, Bool.and_true, Bool.true_and, and_true, true_and, and_self, List.flatMap_nil, List.flatMap_cons, List.append_nil, List.nil_append, List.cons_append, List.map_cons, List.map_nil, List.all_cons, List.all_nil, List.length_cons, List.length_nil, Nat.reduceAdd, Nat.reduceLT, Nat.reduceLeDiff, Nat.reduceEqDiff, Nat.reduceSub, Nat.zero_add, Nat.add_zero, List.drop_succ_cons, List.drop_zero, List.take_succ_cons, List.take_zero]
    rfl
end Go.Bv
