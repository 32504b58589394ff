/- BY VALUE, chapter 26: the functions of RecordsAdds, RecordsChanges, RecordsFits give true. -/
import Derived.Test.YtnfmilnlekmjgaaU9a
import Derived.Test.YtnfmilnlekmjgaaV1
set_option linter.unusedSimpArgs false
set_option linter.unusedVariables false
namespace Go.Bv
attribute [local congr] ite_congr congr_bindOps congr_bindC congr_andThen congr_orNone congr_onBool congr_onEff congr_headC
set_option maxRecDepth 100000
set_option maxHeartbeats 40000000
section
variable (fn n : ByteArray) (l : List Fd) (ks : List (ByteArray × Bool)) (u : Bool) (rs : List (Bool × ByteArray))
theorem run8 (s : ByteArray) (reuse : Bool) : run T S40 8 [.agg (tabC fn n l ks u rs), .str s, .bool reuse] = some (.bool true) := by
  have h15 := awake40
  have h36 := run36 (S := S40) fn n l ks u rs
  cases g1 : fewTable fn n l ks rs with
  | false =>
    rw [g1] at h36
    simp only [tabC] at h36 ⊢
    (refine run_fn T8 ⟨rfl, by decide⟩ ?_; rw [start8])
    simp (config := {decide := true, contextual := true, maxSteps := 3000000}) only [F8, h15, h36, List.replicate, ↓simPre, simPost, Bool.not_not, Bool.not_false, Bool.not_true, Bool.false_eq_true, reduceCtorEq, ↓reduceIte, decide_true, decide_false, splice, results, resT, resTs, AV.key, Bool.and_true, Bool.true_and, and_true, true_and, and_self, List.flatMap_nil, List.flatMap_cons, List.append_nil, List.nil_append, List.cons_append, List.map_cons, List.map_nil, List.all_cons, List.all_nil, List.length_cons, List.length_nil, Nat.reduceAdd, Nat.reduceLT, Nat.reduceLeDiff, Nat.reduceEqDiff, Nat.reduceSub, Nat.zero_add, Nat.add_zero, List.drop_succ_cons, List.drop_zero, List.take_succ_cons, List.take_zero]
  | true =>
  rw [g1] at h36
  by_cases hs : (s.size : Int) > 700
  · have d1 : decide ((s.size : Int) > 700) = true := by simpa using hs
    simp only [tabC] at h36 ⊢
    (refine run_fn T8 ⟨rfl, by decide⟩ ?_; rw [start8])
    simp (config := {decide := true, contextual := true, maxSteps := 3000000}) only [F8, h15, h36, d1, List.replicate, ↓simPre, simPost, Bool.not_not, Bool.not_false, Bool.not_true, Bool.false_eq_true, reduceCtorEq, ↓reduceIte, decide_true, decide_false, splice, results, resT, resTs, AV.key, Bool.and_true, Bool.true_and, and_true, true_and, and_self, List.flatMap_nil, List.flatMap_cons, List.append_nil, List.nil_append, List.cons_append, List.map_cons, List.map_nil, List.all_cons, List.all_nil, List.length_cons, List.length_nil, Nat.reduceAdd, Nat.reduceLT, Nat.reduceLeDiff, Nat.reduceEqDiff, Nat.reduceSub, Nat.zero_add, Nat.add_zero, List.drop_succ_cons, List.drop_zero, List.take_succ_cons, List.take_zero]
  have d1 : decide ((s.size : Int) > 700) = false := by simpa using hs
  have hsm := small_few g1
  obtain ⟨t1, t2, t3, t4, t5⟩ := few_table g1
  have h38 := run38 (S := S40) fn n l ks u rs (by have := t2.2.1; omega) (by omega) (by omega)
  have h49 := run49 fn n l ks u rs s hsm told28 told138 reuse (by omega)
  have h50 := run50 (S := S40) fn n l ks u rs s hsm reuse (by omega)
  have h43 := run43s (S := S40) fn n l ks u (put rs (addAt rs reuse) (false, s)) (by have := t2.2.1; omega) (by omega) (by have := put_le rs (addAt rs reuse) (false, s); omega)
  have h43n := run43n (S := S40)
  generalize put rs (addAt rs reuse) (false, s) = z at *
  generalize addAt rs reuse = A at *
  generalize addE fn n l ks rs s reuse = E at *
  by_cases hE : E = 0
  · have hE' : (E != 0) = false := by simpa using hE
    simp only [hE', Bool.false_eq_true, if_false] at h49 h50
    simp only [tabC, tabN, List.cons_append, List.nil_append] at h36 h38 h49 h50 h43 ⊢
    have a1 : (A == A) = true := by simp
    (refine run_fn T8 ⟨rfl, by decide⟩ ?_; rw [start8])
    simp (config := {decide := true, contextual := true, maxSteps := 3000000}) only [F8, h15, h36, d1, h38, h49, h50, h43, a1, List.length_map, List.replicate, ↓simPre, simPost, Bool.not_not, Bool.not_false, Bool.not_true, Bool.false_eq_true, reduceCtorEq, ↓reduceIte, decide_true, decide_false, splice, results, resT, resTs, AV.key, Bool.and_true, Bool.true_and, and_true, true_and, and_self, List.flatMap_nil, List.flatMap_cons, List.append_nil, List.nil_append, List.cons_append, List.map_cons, List.map_nil, List.all_cons, List.all_nil, List.length_cons, List.length_nil, Nat.reduceAdd, Nat.reduceLT, Nat.reduceLeDiff, Nat.reduceEqDiff, Nat.reduceSub, Nat.zero_add, Nat.add_zero, List.drop_succ_cons, List.drop_zero, List.take_succ_cons, List.take_zero]
  · have hE' : (E != 0) = true := by simpa using hE
    simp only [hE', if_true] at h49 h50
    simp only [tabC, tabN, List.cons_append, List.nil_append] at h36 h38 h49 h50 h43 h43n ⊢
    have a1 : (E == E) = true := by simp
    (refine run_fn T8 ⟨rfl, by decide⟩ ?_; rw [start8])
    simp (config := {decide := true, contextual := true, maxSteps := 3000000}) only [F8, h15, h36, d1, h38, h49, h50, h43n, a1, List.length_map, List.replicate, ↓simPre, simPost, Bool.not_not, Bool.not_false, Bool.not_true, Bool.false_eq_true, reduceCtorEq, ↓reduceIte, decide_true, decide_false, splice, results, resT, resTs, AV.key, Bool.and_true, Bool.true_and, and_true, true_and, and_self, List.flatMap_nil, List.flatMap_cons, List.append_nil, List.nil_append, List.cons_append, List.map_cons, List.map_nil, List.all_cons, List.all_nil, List.length_cons, List.length_nil, Nat.reduceAdd, Nat.reduceLT, Nat.reduceLeDiff, Nat.reduceEqDiff, Nat.reduceSub, Nat.zero_add, Nat.add_zero, List.drop_succ_cons, List.drop_zero, List.take_succ_cons, List.take_zero]
theorem run9 (rrn : Int) (s : ByteArray) : run T S40 9 [.agg (tabC fn n l ks u rs), .int .i64 rrn, .str s] = some (.bool true) := by
  have h15 := awake40
  have h36 := run36 (S := S40) fn n l ks u rs
  cases g1 : fewTable fn n l ks rs with
  | false =>
    rw [g1] at h36
    simp only [tabC] at h36 ⊢
    (refine run_fn T9 ⟨rfl, by decide⟩ ?_; rw [start9])
    simp (config := {decide := true, contextual := true, maxSteps := 3000000}) only [F9, h15, h36, List.replicate, ↓simPre, simPost, Bool.not_not, Bool.not_false, Bool.not_true, Bool.false_eq_true, reduceCtorEq, ↓reduceIte, decide_true, decide_false, splice, results, resT, resTs, AV.key, Bool.and_true, Bool.true_and, and_true, true_and, and_self, List.flatMap_nil, List.flatMap_cons, List.append_nil, List.nil_append, List.cons_append, List.map_cons, List.map_nil, List.all_cons, List.all_nil, List.length_cons, List.length_nil, Nat.reduceAdd, Nat.reduceLT, Nat.reduceLeDiff, Nat.reduceEqDiff, Nat.reduceSub, Nat.zero_add, Nat.add_zero, List.drop_succ_cons, List.drop_zero, List.take_succ_cons, List.take_zero]
  | true =>
  rw [g1] at h36
  by_cases hs : (s.size : Int) > 700
  · have d1 : decide ((s.size : Int) > 700) = true := by simpa using hs
    simp only [tabC] at h36 ⊢
    (refine run_fn T9 ⟨rfl, by decide⟩ ?_; rw [start9])
    simp (config := {decide := true, contextual := true, maxSteps := 3000000}) only [F9, h15, h36, d1, List.replicate, ↓simPre, simPost, Bool.not_not, Bool.not_false, Bool.not_true, Bool.false_eq_true, reduceCtorEq, ↓reduceIte, decide_true, decide_false, splice, results, resT, resTs, AV.key, Bool.and_true, Bool.true_and, and_true, true_and, and_self, List.flatMap_nil, List.flatMap_cons, List.append_nil, List.nil_append, List.cons_append, List.map_cons, List.map_nil, List.all_cons, List.all_nil, List.length_cons, List.length_nil, Nat.reduceAdd, Nat.reduceLT, Nat.reduceLeDiff, Nat.reduceEqDiff, Nat.reduceSub, Nat.zero_add, Nat.add_zero, List.drop_succ_cons, List.drop_zero, List.take_succ_cons, List.take_zero]
  have d1 : decide ((s.size : Int) > 700) = false := by simpa using hs
  have hsm := small_few g1
  obtain ⟨t1, t2, t3, t4, t5⟩ := few_table g1
  have h38 := run38 (S := S40) fn n l ks u rs (by have := t2.2.1; omega) (by omega) (by omega)
  have h51 := run51 fn n l ks u rs rrn s hsm told28 told138 (by omega)
  have h52 := run52 (S := S40) fn n l ks u rs rrn s hsm (by omega)
  have h53 := run53 fn n l ks u rs rrn hsm told28 told138
  have h54 := run54 (S := S40) fn n l ks u rs rrn hsm
  have h55 := run55 fn n l ks u rs rrn hsm told28
  have h56 := run56 (S := S40) fn n l ks u rs rrn hsm
  have h43a := run43s (S := S40) fn n l ks u (put rs rrn (false, s)) (by have := t2.2.1; omega) (by omega) (by have := put_le rs rrn (false, s); omega)
  have h43b := run43s (S := S40) fn n l ks u (put rs rrn (true, bs [])) (by have := t2.2.1; omega) (by omega) (by have := put_le rs rrn (true, bs []); omega)
  have h43n := run43n (S := S40)
  obtain ⟨rb, re, hrd⟩ : ∃ rb re, readA (thereE (checkTable fn n l ks rs).2 rs rrn) rs rrn = .tup [.str rb, .int .i64 re] := by
    unfold readA; split <;> exact ⟨_, _, rfl⟩
  rw [hrd] at h55 h56
  have b1 : (rb.toList == rb.toList) = true := by simp
  have b2 : (re == re) = true := by simp
  generalize put rs rrn (false, s) = za at *
  generalize put rs rrn (true, bs []) = zb at *
  have hU : (thereE (checkTable fn n l ks rs).2 rs rrn != 0) = true → updE fn n l ks rs rrn s = thereE (checkTable fn n l ks rs).2 rs rrn := fun hh => by unfold updE; rw [if_pos hh]
  generalize updE fn n l ks rs rrn s = U at *
  generalize thereE (checkTable fn n l ks rs).2 rs rrn = E at *
  have a1 : (E == E) = true := by simp
  have a2 : (U == U) = true := by simp
  have a7 : (U != U) = false := by simp
  by_cases hE : E = 0
  · have hE' : (E != 0) = false := by simpa using hE
    simp only [hE', Bool.false_eq_true, if_false] at h53 h54
    by_cases hX : U = 0
    · have hX' : (U != 0) = false := by simpa using hX
      simp only [hX', Bool.false_eq_true, if_false] at h51 h52
      simp only [tabC, tabN, List.cons_append, List.nil_append] at h36 h38 h51 h52 h53 h54 h55 h56 h43a h43b ⊢
      (refine run_fn T9 ⟨rfl, by decide⟩ ?_; rw [start9])
      simp (config := {decide := true, contextual := true, maxSteps := 3000000}) only [F9, h15, h36, d1, h38, h51, h52, h53, h54, h55, h56, h43a, h43b, a1, b1, b2, List.length_map, List.replicate, ↓simPre, simPost, Bool.not_not, Bool.not_false, Bool.not_true, Bool.false_eq_true, reduceCtorEq, ↓reduceIte, decide_true, decide_false, splice, results, resT, resTs, AV.key, Bool.and_true, Bool.true_and, and_true, true_and, and_self, List.flatMap_nil, List.flatMap_cons, List.append_nil, List.nil_append, List.cons_append, List.map_cons, List.map_nil, List.all_cons, List.all_nil, List.length_cons, List.length_nil, Nat.reduceAdd, Nat.reduceLT, Nat.reduceLeDiff, Nat.reduceEqDiff, Nat.reduceSub, Nat.zero_add, Nat.add_zero, List.drop_succ_cons, List.drop_zero, List.take_succ_cons, List.take_zero]
    · have hX' : (U != 0) = true := by simpa using hX
      simp only [hX', if_true] at h51 h52
      simp only [tabC, tabN, List.cons_append, List.nil_append] at h36 h38 h51 h52 h53 h54 h55 h56 h43n h43b ⊢
      (refine run_fn T9 ⟨rfl, by decide⟩ ?_; rw [start9])
      simp (config := {decide := true, contextual := true, maxSteps := 3000000}) only [F9, h15, h36, d1, h38, h51, h52, h53, h54, h55, h56, h43n, h43b, a1, a2, a7, b1, b2, List.length_map, List.replicate, ↓simPre, simPost, Bool.not_not, Bool.not_false, Bool.not_true, Bool.false_eq_true, reduceCtorEq, ↓reduceIte, decide_true, decide_false, splice, results, resT, resTs, AV.key, Bool.and_true, Bool.true_and, and_true, true_and, and_self, List.flatMap_nil, List.flatMap_cons, List.append_nil, List.nil_append, List.cons_append, List.map_cons, List.map_nil, List.all_cons, List.all_nil, List.length_cons, List.length_nil, Nat.reduceAdd, Nat.reduceLT, Nat.reduceLeDiff, Nat.reduceEqDiff, Nat.reduceSub, Nat.zero_add, Nat.add_zero, List.drop_succ_cons, List.drop_zero, List.take_succ_cons, List.take_zero]
  · have hE' : (E != 0) = true := by simpa using hE
    have hUE := hU hE'
    subst hUE
    simp only [hE', if_true] at h51 h52 h53 h54
    simp only [tabC, tabN, List.cons_append, List.nil_append] at h36 h38 h51 h52 h53 h54 h55 h56 h43n ⊢
    (refine run_fn T9 ⟨rfl, by decide⟩ ?_; rw [start9])
    simp (config := {decide := true, contextual := true, maxSteps := 3000000}) only [F9, h15, h36, d1, h38, h51, h52, h53, h54, h55, h56, h43n, a1, a2, a7, b1, b2, List.length_map, List.replicate, ↓simPre, simPost, Bool.not_not, Bool.not_false, Bool.not_true, Bool.false_eq_true, reduceCtorEq, ↓reduceIte, decide_true, decide_false, splice, results, resT, resTs, AV.key, Bool.and_true, Bool.true_and, and_true, true_and, and_self, List.flatMap_nil, List.flatMap_cons, List.append_nil, List.nil_append, List.cons_append, List.map_cons, List.map_nil, List.all_cons, List.all_nil, List.length_cons, List.length_nil, Nat.reduceAdd, Nat.reduceLT, Nat.reduceLeDiff, Nat.reduceEqDiff, Nat.reduceSub, Nat.zero_add, Nat.add_zero, List.drop_succ_cons, List.drop_zero, List.take_succ_cons, List.take_zero]
end
end Go.Bv
