/- BY VALUE, chapter 26: Rewritten and its reference; RecordsSteps' function gives true. -/
import Derived.Test.YtnfmilnlekmjgaaV8
import Derived.Test.YtnfmilnlekmjgaaU9a
set_option linter.unusedSimpArgs false
set_option linter.unusedVariables false
namespace Go.Bv
attribute [local congr] ite_congr congr_bindOps congr_bindC congr_andThen congr_orNone congr_onBool congr_onEff congr_headC
set_option maxRecDepth 100000
set_option maxHeartbeats 40000000
def newR (s : ByteArray) : Bool × ByteArray := if (s.toList == (bs []).toList) = true then (true, bs []) else (false, s)
def rewE (fn n : ByteArray) (l : List Fd) (ks : List (ByteArray × Bool)) (rs : List (Bool × ByteArray)) (o : Int) (ou : Bool) (s : ByteArray) : Int :=
  if (openE (checkTable fn n l ks rs).2 rs o != 0) = true then openE (checkTable fn n l ks rs).2 rs o else if (!ou || !isThere rs o) = true then 26 else if (s.toList == (bs []).toList) = true then 0 else (bytesErr n l s).2
theorem there_is {rs : List (Bool × ByteArray)} {o : Int} : thereE 0 rs o = 0 ↔ isThere rs o = true := by
  unfold thereE isThere
  simp only [bne_self_eq_false, Bool.false_eq_true, if_false]
  cases (decide (1 ≤ o) && decide (o ≤ (rs.length : Int))) <;> cases isDel rs o <;> simp
section
variable {S : RT} (fn n : ByteArray) (l : List Fd) (ks : List (ByteArray × Bool)) (u : Bool) (rs : List (Bool × ByteArray)) (h : Small fn n l ks rs) (o : Int) (ou : Bool) (s : ByteArray) (hs : s.size ≤ 1000000)
include h hs
theorem run65 (hS : Told28 S) (h138 : Told138 S) : run T S 65 [.agg (tabC fn n l ks u rs), .agg [.int .i64 o, .bool ou], .str s] =
    some (if (rewE fn n l ks rs o ou s != 0) = true then .tup [.agg noTab, .agg [.int .i64 0, .bool false], .int .i64 (rewE fn n l ks rs o ou s)] else .tup [.agg (tabC fn n l ks u (put rs o (newR s))), .agg [.int .i64 o, .bool false], .int .i64 0]) := by
  have h104 := run104 fn n l ks u rs h o ou hS
  have h110 := run110 hS fn n l ks u rs o h
  have h53 := run53 fn n l ks u rs o h hS h138
  have h51 := run51 fn n l ks u rs o s h hS h138 hs
  have hop := @open_in rs (checkTable fn n l ks rs).2 o
  have hti := @there_is rs o
  unfold rewE
  unfold updE at h51
  generalize hC : (checkTable fn n l ks rs).2 = C at *
  generalize hX : (bytesErr n l s).2 = X at *
  by_cases hE : openE C rs o = 0
  case neg =>
    have hE' : (openE C rs o != 0) = true := by simpa using hE
    generalize openE C rs o = E at *
    simp only [hE', if_true]
    simp only [tabC] at h104 ⊢
    (refine run_fn T65 ⟨rfl, by decide⟩ ?_; rw [start65])
    simp (config := {decide := true, contextual := true, maxSteps := 3000000}) only [F65, h104, hE', List.replicate, ↓simPre, simPost, Bool.not_not, Bool.not_false, Bool.not_true, Bool.false_eq_true, reduceCtorEq, ↓reduceIte, decide_true, decide_false, splice, results, resT, resTs, AV.key, Bool.and_true, Bool.true_and, and_true, true_and, and_self, List.flatMap_nil, List.flatMap_cons, List.append_nil, List.nil_append, List.cons_append, List.map_cons, List.map_nil, List.all_cons, List.all_nil, List.length_cons, List.length_nil, Nat.reduceAdd, Nat.reduceLT, Nat.reduceLeDiff, Nat.reduceEqDiff, Nat.reduceSub, Nat.zero_add, Nat.add_zero, List.drop_succ_cons, List.drop_zero, List.take_succ_cons, List.take_zero]
  have hE' : (openE C rs o != 0) = false := by simpa using hE
  obtain ⟨c0, _, _⟩ := hop hE
  subst c0
  rw [hE] at h104
  simp only [hE', Bool.false_eq_true, if_false]
  cases ou with
  | false =>
    simp only [Bool.not_false, Bool.true_or, if_true]
    simp only [tabC] at h104 ⊢
    (refine run_fn T65 ⟨rfl, by decide⟩ ?_; rw [start65])
    simp (config := {decide := true, contextual := true, maxSteps := 3000000}) only [F65, h104, List.replicate, ↓simPre, simPost, Bool.not_not, Bool.not_false, Bool.not_true, Bool.false_eq_true, reduceCtorEq, ↓reduceIte, decide_true, decide_false, splice, results, resT, resTs, AV.key, Bool.and_true, Bool.true_and, and_true, true_and, and_self, List.flatMap_nil, List.flatMap_cons, List.append_nil, List.nil_append, List.cons_append, List.map_cons, List.map_nil, List.all_cons, List.all_nil, List.length_cons, List.length_nil, Nat.reduceAdd, Nat.reduceLT, Nat.reduceLeDiff, Nat.reduceEqDiff, Nat.reduceSub, Nat.zero_add, Nat.add_zero, List.drop_succ_cons, List.drop_zero, List.take_succ_cons, List.take_zero]
  | true =>
  cases hi : isThere rs o with
  | false =>
    have ht : thereE 0 rs o ≠ 0 := fun hh => by rw [hti.1 hh] at hi; cases hi
    have ht' : (thereE 0 rs o != 0) = true := by simpa using ht
    generalize thereE 0 rs o = E at *
    simp only [Bool.not_false, Bool.or_true, if_true]
    simp only [tabC] at h104 h110 ⊢
    (refine run_fn T65 ⟨rfl, by decide⟩ ?_; rw [start65])
    simp (config := {decide := true, contextual := true, maxSteps := 3000000}) only [F65, h104, h110, ht', List.replicate, ↓simPre, simPost, Bool.not_not, Bool.not_false, Bool.not_true, Bool.false_eq_true, reduceCtorEq, ↓reduceIte, decide_true, decide_false, splice, results, resT, resTs, AV.key, Bool.and_true, Bool.true_and, and_true, true_and, and_self, List.flatMap_nil, List.flatMap_cons, List.append_nil, List.nil_append, List.cons_append, List.map_cons, List.map_nil, List.all_cons, List.all_nil, List.length_cons, List.length_nil, Nat.reduceAdd, Nat.reduceLT, Nat.reduceLeDiff, Nat.reduceEqDiff, Nat.reduceSub, Nat.zero_add, Nat.add_zero, List.drop_succ_cons, List.drop_zero, List.take_succ_cons, List.take_zero]
  | true =>
    have ht : thereE 0 rs o = 0 := hti.2 hi
    rw [ht] at h110 h53 h51
    simp only [bne_self_eq_false, Bool.false_eq_true, if_false] at h53 h51
    simp only [Bool.not_true, Bool.or_false, Bool.false_eq_true, if_false]
    unfold newR
    cases hq : (s.toList == (bs []).toList) with
    | true =>
      simp only [if_true, bne_self_eq_false, Bool.false_eq_true, if_false]
      generalize put rs o (true, bs []) = z at *
      simp only [tabC] at h104 h110 h53 ⊢
      (refine run_fn T65 ⟨rfl, by decide⟩ ?_; rw [start65])
      simp (config := {decide := true, contextual := true, maxSteps := 3000000}) only [F65, h104, h110, h53, hq, List.replicate, ↓simPre, simPost, Bool.not_not, Bool.not_false, Bool.not_true, Bool.false_eq_true, reduceCtorEq, ↓reduceIte, decide_true, decide_false, splice, results, resT, resTs, AV.key, Bool.and_true, Bool.true_and, and_true, true_and, and_self, List.flatMap_nil, List.flatMap_cons, List.append_nil, List.nil_append, List.cons_append, List.map_cons, List.map_nil, List.all_cons, List.all_nil, List.length_cons, List.length_nil, Nat.reduceAdd, Nat.reduceLT, Nat.reduceLeDiff, Nat.reduceEqDiff, Nat.reduceSub, Nat.zero_add, Nat.add_zero, List.drop_succ_cons, List.drop_zero, List.take_succ_cons, List.take_zero]
    | false =>
      simp only [Bool.false_eq_true, if_false]
      generalize put rs o (false, s) = z at *
      by_cases hX0 : X = 0
      · subst hX0
        simp only [bne_self_eq_false, Bool.false_eq_true, if_false] at h51 ⊢
        simp only [tabC] at h104 h110 h51 ⊢
        (refine run_fn T65 ⟨rfl, by decide⟩ ?_; rw [start65])
        simp (config := {decide := true, contextual := true, maxSteps := 3000000}) only [F65, h104, h110, h51, hq, List.replicate, ↓simPre, simPost, Bool.not_not, Bool.not_false, Bool.not_true, Bool.false_eq_true, reduceCtorEq, ↓reduceIte, decide_true, decide_false, splice, results, resT, resTs, AV.key, Bool.and_true, Bool.true_and, and_true, true_and, and_self, List.flatMap_nil, List.flatMap_cons, List.append_nil, List.nil_append, List.cons_append, List.map_cons, List.map_nil, List.all_cons, List.all_nil, List.length_cons, List.length_nil, Nat.reduceAdd, Nat.reduceLT, Nat.reduceLeDiff, Nat.reduceEqDiff, Nat.reduceSub, Nat.zero_add, Nat.add_zero, List.drop_succ_cons, List.drop_zero, List.take_succ_cons, List.take_zero]
      · have hX' : (X != 0) = true := by simpa using hX0
        simp only [hX', if_true] at h51 ⊢
        simp only [tabC] at h104 h110 h51 ⊢
        (refine run_fn T65 ⟨rfl, by decide⟩ ?_; rw [start65])
        simp (config := {decide := true, contextual := true, maxSteps := 3000000}) only [F65, h104, h110, h51, hq, hX', List.replicate, ↓simPre, simPost, Bool.not_not, Bool.not_false, Bool.not_true, Bool.false_eq_true, reduceCtorEq, ↓reduceIte, decide_true, decide_false, splice, results, resT, resTs, AV.key, Bool.and_true, Bool.true_and, and_true, true_and, and_self, List.flatMap_nil, List.flatMap_cons, List.append_nil, List.nil_append, List.cons_append, List.map_cons, List.map_nil, List.all_cons, List.all_nil, List.length_cons, List.length_nil, Nat.reduceAdd, Nat.reduceLT, Nat.reduceLeDiff, Nat.reduceEqDiff, Nat.reduceSub, Nat.zero_add, Nat.add_zero, List.drop_succ_cons, List.drop_zero, List.take_succ_cons, List.take_zero]
theorem run66 : run T S 66 [.agg (tabC fn n l ks u rs), .agg [.int .i64 o, .bool ou], .str s] =
    some (if (rewE fn n l ks rs o ou s != 0) = true then .agg (noTab ++ [.int .i64 0, .int .i64 (rewE fn n l ks rs o ou s)]) else .agg (tabC fn n l ks u (put rs o (newR s)) ++ [.int .i64 o, .int .i64 0])) := by
  have h45 := run45 (S := S) fn n l ks u rs h
  have hrs := h.qrs
  have w00 : IntKind.wrap .i64 ((rs.length : Int) + 1) = (rs.length : Int) + 1 := wrap_i64 (by omega) (by omega)
  have h62 := run62 (S := S) o 0 ((rs.length : Int) + 1)
  have h47 := run47 (S := S) fn n l ks u rs o (by omega)
  have h100 := run100 (S := S) n l s h.qsh hs
  have h109 := fun r h1 => run109 (S := S) fn n l ks u rs o r (by have := h.qsh.2.1; omega) (by have := h.qks; omega) (by omega) h1
  unfold rewE openE
  generalize (checkTable fn n l ks rs).2 = C at *
  generalize (bytesErr n l s).2 = X at *
  by_cases hE : C = 0
  case neg =>
    have hE' : (C != 0) = true := by simpa using hE
    simp only [hE', if_true]
    simp only [tabC] at h45 ⊢
    (refine run_fn T66 ⟨rfl, by decide⟩ ?_; rw [start66])
    simp (config := {decide := true, contextual := true, maxSteps := 3000000}) only [F66, h45, hE', List.replicate, ↓simPre, simPost, Bool.not_not, Bool.not_false, Bool.not_true, Bool.false_eq_true, reduceCtorEq, ↓reduceIte, decide_true, decide_false, splice, results, resT, resTs, AV.key, Bool.and_true, Bool.true_and, and_true, true_and, and_self, List.flatMap_nil, List.flatMap_cons, List.append_nil, List.nil_append, List.cons_append, List.map_cons, List.map_nil, List.all_cons, List.all_nil, List.length_cons, List.length_nil, Nat.reduceAdd, Nat.reduceLT, Nat.reduceLeDiff, Nat.reduceEqDiff, Nat.reduceSub, Nat.zero_add, Nat.add_zero, List.drop_succ_cons, List.drop_zero, List.take_succ_cons, List.take_zero]
  subst hE
  simp only [bne_self_eq_false, Bool.false_eq_true, if_false]
  by_cases ho : 0 ≤ o ∧ o ≤ (rs.length : Int) + 1
  case neg =>
    have d6 : (decide (0 ≤ o) && decide (o ≤ (rs.length : Int) + 1)) = false := by rw [Bool.and_eq_false_iff]; simp; omega
    rw [d6] at h62 ⊢
    simp only [tabC] at h45 ⊢
    (refine run_fn T66 ⟨rfl, by decide⟩ ?_; rw [start66])
    simp (config := {decide := true, contextual := true, maxSteps := 3000000}) only [F66, h45, w00, h62, List.length_map, List.replicate, ↓simPre, simPost, Bool.not_not, Bool.not_false, Bool.not_true, Bool.false_eq_true, reduceCtorEq, ↓reduceIte, decide_true, decide_false, splice, results, resT, resTs, AV.key, Bool.and_true, Bool.true_and, and_true, true_and, and_self, List.flatMap_nil, List.flatMap_cons, List.append_nil, List.nil_append, List.cons_append, List.map_cons, List.map_nil, List.all_cons, List.all_nil, List.length_cons, List.length_nil, Nat.reduceAdd, Nat.reduceLT, Nat.reduceLeDiff, Nat.reduceEqDiff, Nat.reduceSub, Nat.zero_add, Nat.add_zero, List.drop_succ_cons, List.drop_zero, List.take_succ_cons, List.take_zero]
  have d6 : (decide (0 ≤ o) && decide (o ≤ (rs.length : Int) + 1)) = true := by simp; omega
  rw [d6] at h62 ⊢
  simp only [Bool.not_true, Bool.false_eq_true, if_false, bne_self_eq_false]
  cases ou with
  | false =>
    simp only [Bool.not_false, Bool.true_or, if_true]
    simp only [tabC] at h45 ⊢
    (refine run_fn T66 ⟨rfl, by decide⟩ ?_; rw [start66])
    simp (config := {decide := true, contextual := true, maxSteps := 3000000}) only [F66, h45, w00, h62, List.length_map, List.replicate, ↓simPre, simPost, Bool.not_not, Bool.not_false, Bool.not_true, Bool.false_eq_true, reduceCtorEq, ↓reduceIte, decide_true, decide_false, splice, results, resT, resTs, AV.key, Bool.and_true, Bool.true_and, and_true, true_and, and_self, List.flatMap_nil, List.flatMap_cons, List.append_nil, List.nil_append, List.cons_append, List.map_cons, List.map_nil, List.all_cons, List.all_nil, List.length_cons, List.length_nil, Nat.reduceAdd, Nat.reduceLT, Nat.reduceLeDiff, Nat.reduceEqDiff, Nat.reduceSub, Nat.zero_add, Nat.add_zero, List.drop_succ_cons, List.drop_zero, List.take_succ_cons, List.take_zero]
  | true =>
  cases hi : isThere rs o with
  | false =>
    rw [hi] at h47
    simp only [Bool.not_false, Bool.or_true, if_true]
    simp only [tabC] at h45 h47 ⊢
    (refine run_fn T66 ⟨rfl, by decide⟩ ?_; rw [start66])
    simp (config := {decide := true, contextual := true, maxSteps := 3000000}) only [F66, h45, w00, h62, h47, List.length_map, List.replicate, ↓simPre, simPost, Bool.not_not, Bool.not_false, Bool.not_true, Bool.false_eq_true, reduceCtorEq, ↓reduceIte, decide_true, decide_false, splice, results, resT, resTs, AV.key, Bool.and_true, Bool.true_and, and_true, true_and, and_self, List.flatMap_nil, List.flatMap_cons, List.append_nil, List.nil_append, List.cons_append, List.map_cons, List.map_nil, List.all_cons, List.all_nil, List.length_cons, List.length_nil, Nat.reduceAdd, Nat.reduceLT, Nat.reduceLeDiff, Nat.reduceEqDiff, Nat.reduceSub, Nat.zero_add, Nat.add_zero, List.drop_succ_cons, List.drop_zero, List.take_succ_cons, List.take_zero]
  | true =>
    rw [hi] at h47
    have h1 : 1 ≤ o := by
      unfold isThere at hi
      simp only [Bool.and_eq_true, decide_eq_true_eq] at hi
      exact hi.1.1
    simp only [Bool.not_true, Bool.or_false, Bool.false_eq_true, if_false]
    unfold newR
    cases hq : (s.toList == (bs []).toList) with
    | true =>
      have h109 := h109 (true, bs []) h1
      simp only [if_true, bne_self_eq_false, Bool.false_eq_true, if_false]
      generalize put rs o (true, bs []) = z at *
      simp only [tabC, encR] at h45 h47 h109 ⊢
      (refine run_fn T66 ⟨rfl, by decide⟩ ?_; rw [start66])
      simp (config := {decide := true, contextual := true, maxSteps := 3000000}) only [F66, h45, w00, h62, h47, h109, hq, List.length_map, List.replicate, ↓simPre, simPost, Bool.not_not, Bool.not_false, Bool.not_true, Bool.false_eq_true, reduceCtorEq, ↓reduceIte, decide_true, decide_false, splice, results, resT, resTs, AV.key, Bool.and_true, Bool.true_and, and_true, true_and, and_self, List.flatMap_nil, List.flatMap_cons, List.append_nil, List.nil_append, List.cons_append, List.map_cons, List.map_nil, List.all_cons, List.all_nil, List.length_cons, List.length_nil, Nat.reduceAdd, Nat.reduceLT, Nat.reduceLeDiff, Nat.reduceEqDiff, Nat.reduceSub, Nat.zero_add, Nat.add_zero, List.drop_succ_cons, List.drop_zero, List.take_succ_cons, List.take_zero]
    | false =>
      have h109 := h109 (false, s) h1
      simp only [Bool.false_eq_true, if_false]
      generalize put rs o (false, s) = z at *
      by_cases hX0 : X = 0
      · subst hX0
        simp only [bne_self_eq_false, Bool.false_eq_true, if_false]
        simp only [tabC, encR] at h45 h47 h109 ⊢
        (refine run_fn T66 ⟨rfl, by decide⟩ ?_; rw [start66])
        simp (config := {decide := true, contextual := true, maxSteps := 3000000}) only [F66, h45, w00, h62, h47, h109, h100, hq, List.length_map, List.replicate, ↓simPre, simPost, Bool.not_not, Bool.not_false, Bool.not_true, Bool.false_eq_true, reduceCtorEq, ↓reduceIte, decide_true, decide_false, splice, results, resT, resTs, AV.key, Bool.and_true, Bool.true_and, and_true, true_and, and_self, List.flatMap_nil, List.flatMap_cons, List.append_nil, List.nil_append, List.cons_append, List.map_cons, List.map_nil, List.all_cons, List.all_nil, List.length_cons, List.length_nil, Nat.reduceAdd, Nat.reduceLT, Nat.reduceLeDiff, Nat.reduceEqDiff, Nat.reduceSub, Nat.zero_add, Nat.add_zero, List.drop_succ_cons, List.drop_zero, List.take_succ_cons, List.take_zero]
      · have hX' : (X != 0) = true := by simpa using hX0
        simp only [hX', if_true]
        simp only [tabC, encR] at h45 h47 h109 ⊢
        (refine run_fn T66 ⟨rfl, by decide⟩ ?_; rw [start66])
        simp (config := {decide := true, contextual := true, maxSteps := 3000000}) only [F66, h45, w00, h62, h47, h100, hq, hX', List.length_map, List.replicate, ↓simPre, simPost, Bool.not_not, Bool.not_false, Bool.not_true, Bool.false_eq_true, reduceCtorEq, ↓reduceIte, decide_true, decide_false, splice, results, resT, resTs, AV.key, Bool.and_true, Bool.true_and, and_true, true_and, and_self, List.flatMap_nil, List.flatMap_cons, List.append_nil, List.nil_append, List.cons_append, List.map_cons, List.map_nil, List.all_cons, List.all_nil, List.length_cons, List.length_nil, Nat.reduceAdd, Nat.reduceLT, Nat.reduceLeDiff, Nat.reduceEqDiff, Nat.reduceSub, Nat.zero_add, Nat.add_zero, List.drop_succ_cons, List.drop_zero, List.take_succ_cons, List.take_zero]
end
theorem newR_small {s : ByteArray} (h : s.size ≤ 700) : (newR s).2.size ≤ 700 := by
  unfold newR; split
  · exact Nat.zero_le _
  · exact h
theorem run13 (fn n : ByteArray) (l : List Fd) (ks : List (ByteArray × Bool)) (u : Bool) (rs : List (Bool × ByteArray)) (o : Int) (ou back up : Bool) (s : ByteArray) :
    run T S40 13 [.agg [.str fn, .str n, .sl (l.map encF), .sl (ks.map encK), .bool u, .sl (rs.map encR), .int .i64 o, .bool ou, .bool back, .bool up, .str s]] = some (.bool true) := by
  have h15 := awake40
  have h36 := run36 (S := S40) fn n l ks u rs
  simp only [tabC] at h36
  cases g1 : fewTable fn n l ks rs with
  | false =>
    rw [g1] at h36
    (refine run_fn T13 ⟨rfl, by decide⟩ ?_; rw [start13])
    simp (config := {decide := true, contextual := true, maxSteps := 3000000}) only [F13, h15, h36, List.replicate, ↓simPre, simPost, Bool.not_not, Bool.not_false, Bool.not_true, Bool.false_eq_true, reduceCtorEq, ↓reduceIte, decide_true, decide_false, splice, results, resT, resTs, AV.key, Bool.and_true, Bool.true_and, and_true, true_and, and_self, List.flatMap_nil, List.flatMap_cons, List.append_nil, List.nil_append, List.cons_append, List.map_cons, List.map_nil, List.all_cons, List.all_nil, List.length_cons, List.length_nil, Nat.reduceAdd, Nat.reduceLT, Nat.reduceLeDiff, Nat.reduceEqDiff, Nat.reduceSub, Nat.zero_add, Nat.add_zero, List.drop_succ_cons, List.drop_zero, List.take_succ_cons, List.take_zero]
  | true =>
  rw [g1] at h36
  by_cases hs : (s.size : Int) > 700
  · have d1 : decide ((s.size : Int) > 700) = true := by simpa using hs
    (refine run_fn T13 ⟨rfl, by decide⟩ ?_; rw [start13])
    simp (config := {decide := true, contextual := true, maxSteps := 3000000}) only [F13, h15, h36, d1, List.replicate, ↓simPre, simPost, Bool.not_not, Bool.not_false, Bool.not_true, Bool.false_eq_true, reduceCtorEq, ↓reduceIte, decide_true, decide_false, splice, results, resT, resTs, AV.key, Bool.and_true, Bool.true_and, and_true, true_and, and_self, List.flatMap_nil, List.flatMap_cons, List.append_nil, List.nil_append, List.cons_append, List.map_cons, List.map_nil, List.all_cons, List.all_nil, List.length_cons, List.length_nil, Nat.reduceAdd, Nat.reduceLT, Nat.reduceLeDiff, Nat.reduceEqDiff, Nat.reduceSub, Nat.zero_add, Nat.add_zero, List.drop_succ_cons, List.drop_zero, List.take_succ_cons, List.take_zero]
  have d1 : decide ((s.size : Int) > 700) = false := by simpa using hs
  have hsm := small_few g1
  obtain ⟨t1, t2, t3, t4, t5⟩ := few_table g1
  have h38 := run38 (S := S40) fn n l ks u rs (by have := t2.2.1; omega) (by omega) (by omega)
  have h46 := run46 fn n l ks u rs hsm o ou told28 back up
  have h64 := run64 (S := S40) fn n l ks u rs hsm o ou back up
  have h65 := run65 fn n l ks u rs hsm o ou s (by omega) told28 told138
  have h66 := run66 (S := S40) fn n l ks u rs hsm o ou s (by omega)
  have h43 := run43s (S := S40) fn n l ks u (put rs o (newR s)) (by have := t2.2.1; omega) (by omega) (by have := put_le rs o (newR s); omega)
  have h43n := run43n (S := S40)
  have hst : ∃ p q b e, (if (openE (checkTable fn n l ks rs).2 rs o != 0) = true then AV.tup [.agg [.int .i64 0, .bool false], .str (bs []), .int .i64 (openE (checkTable fn n l ks rs).2 rs o)] else stepA rs up (find rs (byOf back) (o + byOf back))) = .tup [.agg [.int .i64 p, .bool q], .str b, .int .i64 e] ∧
      (if (openE (checkTable fn n l ks rs).2 rs o != 0) = true then AV.agg [.int .i64 0, .bool false, .str (bs []), .int .i64 (openE (checkTable fn n l ks rs).2 rs o)] else stepB rs up (find rs (byOf back) (o + byOf back))) = .agg [.int .i64 p, .bool q, .str b, .int .i64 e] := by
    split
    · exact ⟨_, _, _, _, rfl, rfl⟩
    · unfold stepA stepB
      split
      · exact ⟨_, _, _, _, rfl, rfl⟩
      · exact ⟨_, _, _, _, rfl, rfl⟩
  obtain ⟨p, q, b, e, q1, q2⟩ := hst
  rw [q1] at h46
  rw [q2] at h64
  have a1 : (p == p) = true := by simp
  have a2 : (q == q) = true := by simp
  have a3 : (b.toList == b.toList) = true := by simp
  have a4 : (e == e) = true := by simp
  have a5 : (o == o) = true := by simp
  have a8 : (e != e) = false := by simp
  generalize put rs o (newR s) = z at *
  generalize rewE fn n l ks rs o ou s = E at *
  by_cases hE : E = 0
  · subst hE
    simp only [bne_self_eq_false, Bool.false_eq_true, if_false] at h65 h66
    simp only [tabC, tabN, List.cons_append, List.nil_append] at h38 h46 h64 h65 h66 h43 ⊢
    (refine run_fn T13 ⟨rfl, by decide⟩ ?_; rw [start13])
    simp (config := {decide := true, contextual := true, maxSteps := 3000000}) only [F13, h15, h36, d1, h38, h46, h64, h65, h66, h43, a1, a2, a3, a4, a5, a8, List.length_map, List.replicate, ↓simPre, simPost, Bool.not_not, Bool.not_false, Bool.not_true, Bool.false_eq_true, reduceCtorEq, ↓reduceIte, decide_true, decide_false, splice, results, resT, resTs, AV.key, Bool.and_true, Bool.true_and, and_true, true_and, and_self, List.flatMap_nil, List.flatMap_cons, List.append_nil, List.nil_append, List.cons_append, List.map_cons, List.map_nil, List.all_cons, List.all_nil, List.length_cons, List.length_nil, Nat.reduceAdd, Nat.reduceLT, Nat.reduceLeDiff, Nat.reduceEqDiff, Nat.reduceSub, Nat.zero_add, Nat.add_zero, List.drop_succ_cons, List.drop_zero, List.take_succ_cons, List.take_zero]
    rfl
  · have hE' : (E != 0) = true := by simpa using hE
    have a6 : (E == E) = true := by simp
    have a9 : (E != E) = false := by simp
    simp only [hE', if_true] at h65 h66
    simp only [tabC, tabN, List.cons_append, List.nil_append] at h38 h46 h64 h65 h66 h43n ⊢
    (refine run_fn T13 ⟨rfl, by decide⟩ ?_; rw [start13])
    simp (config := {decide := true, contextual := true, maxSteps := 3000000}) only [F13, h15, h36, d1, h38, h46, h64, h65, h66, h43n, hE', a1, a2, a3, a4, a6, a8, a9, List.length_map, List.replicate, ↓simPre, simPost, Bool.not_not, Bool.not_false, Bool.not_true, Bool.false_eq_true, reduceCtorEq, ↓reduceIte, decide_true, decide_false, splice, results, resT, resTs, AV.key, Bool.and_true, Bool.true_and, and_true, true_and, and_self, List.flatMap_nil, List.flatMap_cons, List.append_nil, List.nil_append, List.cons_append, List.map_cons, List.map_nil, List.all_cons, List.all_nil, List.length_cons, List.length_nil, Nat.reduceAdd, Nat.reduceLT, Nat.reduceLeDiff, Nat.reduceEqDiff, Nat.reduceSub, Nat.zero_add, Nat.add_zero, List.drop_succ_cons, List.drop_zero, List.take_succ_cons, List.take_zero]
    rfl
end Go.Bv
