/- BY VALUE, chapter 26: put, IsThere, Free, IndexFunc; the changes of one record, and their reference. -/
import Derived.Test.YtnfmilnlekmjgaaU3
set_option linter.unusedSimpArgs false
set_option linter.unusedVariables false
namespace Go.Bv
variable {S : RT}
attribute [local congr] ite_congr congr_bindOps congr_bindC congr_andThen congr_orNone congr_onBool congr_onEff congr_headC
set_option maxRecDepth 100000
set_option maxHeartbeats 40000000
theorem run109 (fn n : ByteArray) (l : List Fd) (ks : List (ByteArray × Bool)) (u : Bool) (rs : List (Bool × ByteArray)) (rrn : Int) (r : Bool × ByteArray) (hl : l.length ≤ 1000000) (hk : ks.length ≤ 1000000) (hr : rs.length ≤ 100000) (h1 : 1 ≤ rrn) :
    run T S 109 [.agg (tabC fn n l ks u rs), .int .i64 rrn, .agg (encR r)] = some (.agg (tabC fn n l ks u (put rs rrn r))) := by
  have h38 := run38 (S := S) fn n l ks u rs hl hk (by omega)
  unfold put
  by_cases hb : rrn > (rs.length : Int)
  · have d1 : decide (rrn > (rs.length : Int)) = true := by simpa using hb
    have g1 : ((rs.length + 1) * 24 ≤ 140737488355328) = True := by simp; omega
    have e1 : rs.map encR ++ [[.bool r.1, .str r.2]] = (rs ++ [r]).map encR := by simp [encR]
    rw [if_pos hb]
    simp only [tabC, tabN, encR] at h38 ⊢
    (refine run_fn T109 ⟨rfl, by decide⟩ ?_; rw [start109])
    simp (config := {decide := true, contextual := true, maxSteps := 3000000}) only [F109, h38, d1, g1, e1, List.length_map, List.replicate, ↓simPre, simPost, Bool.not_not, Bool.not_false, Bool.not_true, Bool.false_eq_true, reduceCtorEq, ↓reduceIte, decide_true, decide_false, splice, results, resT, resTs, AV.key, Bool.and_true, Bool.true_and, and_true, true_and, and_self, List.flatMap_nil, List.flatMap_cons, List.append_nil, List.nil_append, List.cons_append, List.map_cons, List.map_nil, List.all_cons, List.all_nil, List.length_cons, List.length_nil, Nat.reduceAdd, Nat.reduceLT, Nat.reduceLeDiff, Nat.reduceEqDiff, Nat.reduceSub, Nat.zero_add, Nat.add_zero, List.drop_succ_cons, List.drop_zero, List.take_succ_cons, List.take_zero]
  · have d1 : decide (rrn > (rs.length : Int)) = false := by simpa using hb
    have w1 : IntKind.wrap .i64 (rrn - 1) = ((rrn - 1).toNat : Int) := by rw [wrap_i64 (by omega) (by omega)]; omega
    obtain ⟨i1, i2, i4, i5⟩ := idx (i := (rrn - 1).toNat) (n := rs.length) (by omega) (by omega)
    have i3 := map_get encR rs (rrn - 1).toNat (false, bs []) (by omega)
    have e1 : (rs.map encR).set (rrn - 1).toNat [.bool r.1, .str r.2] = (rs.set (rrn - 1).toNat r).map encR := by rw [List.map_set]; rfl
    rw [if_neg hb]
    simp only [tabC, tabN, encR] at h38 ⊢
    simp only [encR] at i3
    have n2 : ((rrn - 1).toNat < rs.length) = True := by simp; omega
    have f0 : (0 ≤ (rrn - 1).toNat) = True := by simp
    (refine run_fn T109 ⟨rfl, by decide⟩ ?_; rw [start109])
    simp (config := {decide := true, contextual := true, maxSteps := 3000000}) only [F109, h38, d1, w1, i1, i2, i3, i4, e1, n2, f0, storeA, List.length_map, List.replicate, ↓simPre, simPost, Bool.not_not, Bool.not_false, Bool.not_true, Bool.false_eq_true, reduceCtorEq, ↓reduceIte, decide_true, decide_false, splice, results, resT, resTs, AV.key, Bool.and_true, Bool.true_and, and_true, true_and, and_self, List.flatMap_nil, List.flatMap_cons, List.append_nil, List.nil_append, List.cons_append, List.map_cons, List.map_nil, List.all_cons, List.all_nil, List.length_cons, List.length_nil, Nat.reduceAdd, Nat.reduceLT, Nat.reduceLeDiff, Nat.reduceEqDiff, Nat.reduceSub, Nat.zero_add, Nat.add_zero, List.drop_succ_cons, List.drop_zero, List.take_succ_cons, List.take_zero]
def isThere (rs : List (Bool × ByteArray)) (rrn : Int) : Bool := (decide (1 ≤ rrn) && decide (rrn ≤ (rs.length : Int))) && !isDel rs rrn
theorem run47 (fn n : ByteArray) (l : List Fd) (ks : List (ByteArray × Bool)) (u : Bool) (rs : List (Bool × ByteArray)) (rrn : Int) (hr : rs.length ≤ 1000000) :
    run T S 47 [.agg (tabC fn n l ks u rs), .int .i64 rrn] = some (.bool (isThere rs rrn)) := by
  have h62 := run62 (S := S) rrn 1 rs.length
  unfold isThere
  simp only [tabC]
  by_cases hin : 1 ≤ rrn ∧ rrn ≤ (rs.length : Int)
  · have d3 : decide (1 ≤ rrn) = true := by simp; omega
    have d4 : decide (rrn ≤ (rs.length : Int)) = true := by simp; omega
    have w1 : IntKind.wrap .i64 (rrn - 1) = ((rrn - 1).toNat : Int) := by rw [wrap_i64 (by omega) (by omega)]; omega
    obtain ⟨i1, i2, i4, i5⟩ := idx (i := (rrn - 1).toNat) (n := rs.length) (by omega) (by omega)
    have i3 := map_get encR rs (rrn - 1).toNat (false, bs []) (by omega)
    simp only [encR] at i3
    rw [d3, d4] at h62
    simp only [isDel, d3, d4]
    (refine run_fn T47 ⟨rfl, by decide⟩ ?_; rw [start47])
    simp (config := {decide := true, contextual := true, maxSteps := 3000000}) only [F47, h62, w1, i1, i2, i3, i4, List.length_map, List.replicate, ↓simPre, simPost, Bool.not_not, Bool.not_false, Bool.not_true, Bool.false_eq_true, reduceCtorEq, ↓reduceIte, decide_true, decide_false, splice, results, resT, resTs, AV.key, Bool.and_true, Bool.true_and, and_true, true_and, and_self, List.flatMap_nil, List.flatMap_cons, List.append_nil, List.nil_append, List.cons_append, List.map_cons, List.map_nil, List.all_cons, List.all_nil, List.length_cons, List.length_nil, Nat.reduceAdd, Nat.reduceLT, Nat.reduceLeDiff, Nat.reduceEqDiff, Nat.reduceSub, Nat.zero_add, Nat.add_zero, List.drop_succ_cons, List.drop_zero, List.take_succ_cons, List.take_zero]
  · have d3 : (decide (1 ≤ rrn) && decide (rrn ≤ (rs.length : Int))) = false := by
      rw [Bool.and_eq_false_iff]; simp; omega
    rw [d3] at h62 ⊢
    (refine run_fn T47 ⟨rfl, by decide⟩ ?_; rw [start47])
    simp (config := {decide := true, contextual := true, maxSteps := 3000000}) only [F47, h62, List.length_map, List.replicate, ↓simPre, simPost, Bool.not_not, Bool.not_false, Bool.not_true, Bool.false_eq_true, reduceCtorEq, ↓reduceIte, decide_true, decide_false, splice, results, resT, resTs, AV.key, Bool.and_true, Bool.true_and, and_true, true_and, and_self, List.flatMap_nil, List.flatMap_cons, List.append_nil, List.nil_append, List.cons_append, List.map_cons, List.map_nil, List.all_cons, List.all_nil, List.length_cons, List.length_nil, Nat.reduceAdd, Nat.reduceLT, Nat.reduceLeDiff, Nat.reduceEqDiff, Nat.reduceSub, Nat.zero_add, Nat.add_zero, List.drop_succ_cons, List.drop_zero, List.take_succ_cons, List.take_zero]
    rfl
/-- The first deleted record, told from 1 on, or 0. -/
def freeFrom : List (Bool × ByteArray) → Int → Int
  | [], _ => 0
  | r :: l, i => if r.1 = true then i + 1 else freeFrom l (i + 1)
theorem run108 (fn n : ByteArray) (l : List Fd) (ks : List (ByteArray × Bool)) (u : Bool) (rs : List (Bool × ByteArray)) (hr : rs.length ≤ 1000000) :
    run T S 108 [.agg (tabC fn n l ks u rs)] = some (.int .i64 (freeFrom rs 0)) := by
  simp only [tabC]
  (refine run_fn T108 ⟨rfl, by decide⟩ ?_; rw [start108])
  simp (config := {decide := true, contextual := true, maxSteps := 3000000}) only [F108, List.length_map, List.replicate, ↓simPre, simPost, Bool.not_not, Bool.not_false, Bool.not_true, Bool.false_eq_true, reduceCtorEq, ↓reduceIte, decide_true, decide_false, splice, results, resT, resTs, AV.key, Bool.and_true, Bool.true_and, and_true, true_and, and_self, List.flatMap_nil, List.flatMap_cons, List.append_nil, List.nil_append, List.cons_append, List.map_cons, List.map_nil, List.all_cons, List.all_nil, List.length_cons, List.length_nil, Nat.reduceAdd, Nat.reduceLT, Nat.reduceLeDiff, Nat.reduceEqDiff, Nat.reduceSub, Nat.zero_add, Nat.add_zero, List.drop_succ_cons, List.drop_zero, List.take_succ_cons, List.take_zero]
  refine headC_ind (σ := Nat) (fun i => ⟨.unk :: .ptr 1 0 0 :: .unk :: .int .i64 i :: List.replicate 15 .unk, ⟨0, .dead⟩ :: ⟨0, .box [.str fn, .str n, .sl (l.map encF), .sl (ks.map encK), .bool u, .sl (rs.map encR)]⟩ :: List.replicate 17 ⟨0, .dead⟩⟩)
    (fun i => some (AV.int .i64 (freeFrom (rs.drop i) i))) (fun i => rs.length - i) (fun i => i ≤ rs.length) ?_ 0 (Nat.zero_le _)
  intro i hi ih
  by_cases hlt : i < rs.length
  · obtain ⟨h1, h2, h4, h5⟩ := idx (i := i) (n := rs.length) hlt (by omega)
    have h3 := map_get encR rs i (false, bs []) hlt
    simp only [encR] at h3
    have ih1 := ih (i + 1) (by omega) (by omega)
    simp only [List.replicate] at ih1
    rw [drop_cons (false, bs []) hlt]
    simp (config := {decide := true, contextual := true, maxSteps := 3000000}) only [h1, h2, h3, h4, h5, ih1, List.length_map, List.replicate, ↓simPre, simPost, Bool.not_not, Bool.not_false, Bool.not_true, Bool.false_eq_true, reduceCtorEq, ↓reduceIte, decide_true, decide_false, splice, results, resT, resTs, AV.key, Bool.and_true, Bool.true_and, and_true, true_and, and_self, List.flatMap_nil, List.flatMap_cons, List.append_nil, List.nil_append, List.cons_append, List.map_cons, List.map_nil, List.all_cons, List.all_nil, List.length_cons, List.length_nil, Nat.reduceAdd, Nat.reduceLT, Nat.reduceLeDiff, Nat.reduceEqDiff, Nat.reduceSub, Nat.zero_add, Nat.add_zero, List.drop_succ_cons, List.drop_zero, List.take_succ_cons, List.take_zero]
    simp only [freeFrom]
    split
    · simp only [Option.some.injEq, AV.int.injEq, true_and]; omega
    · congr 2
  · have h2 := idxEnd (i := i) (n := rs.length) (by omega)
    have h7 : rs.drop i = [] := List.drop_eq_nil_of_le (by omega)
    simp (config := {decide := true, contextual := true, maxSteps := 3000000}) only [h2, h7, freeFrom, List.length_map, List.replicate, ↓simPre, simPost, Bool.not_not, Bool.not_false, Bool.not_true, Bool.false_eq_true, reduceCtorEq, ↓reduceIte, decide_true, decide_false, splice, results, resT, resTs, AV.key, Bool.and_true, Bool.true_and, and_true, true_and, and_self, List.flatMap_nil, List.flatMap_cons, List.append_nil, List.nil_append, List.cons_append, List.map_cons, List.map_nil, List.all_cons, List.all_nil, List.length_cons, List.length_nil, Nat.reduceAdd, Nat.reduceLT, Nat.reduceLeDiff, Nat.reduceEqDiff, Nat.reduceSub, Nat.zero_add, Nat.add_zero, List.drop_succ_cons, List.drop_zero, List.take_succ_cons, List.take_zero]
theorem run106 (r : Bool × ByteArray) : run T S 106 [.agg (encR r)] = some (.bool r.1) := by
  simp only [encR]
  (refine run_fn T106 ⟨rfl, by decide⟩ ?_; rw [start106])
  simp (config := {decide := true, contextual := true, maxSteps := 3000000}) only [F106, List.replicate, ↓simPre, simPost, Bool.not_not, Bool.not_false, Bool.not_true, Bool.false_eq_true, reduceCtorEq, ↓reduceIte, decide_true, decide_false, splice, results, resT, resTs, AV.key, Bool.and_true, Bool.true_and, and_true, true_and, and_self, List.flatMap_nil, List.flatMap_cons, List.append_nil, List.nil_append, List.cons_append, List.map_cons, List.map_nil, List.all_cons, List.all_nil, List.length_cons, List.length_nil, Nat.reduceAdd, Nat.reduceLT, Nat.reduceLeDiff, Nat.reduceEqDiff, Nat.reduceSub, Nat.zero_add, Nat.add_zero, List.drop_succ_cons, List.drop_zero, List.take_succ_cons, List.take_zero]
theorem run105 (rs : List (Bool × ByteArray)) (hr : rs.length ≤ 1000000) : run T S 105 [.sl (rs.map encR), .fn 106 []] = some (.int .i64 (freeFrom rs 0 - 1)) := by
  (refine run_fn T105 ⟨rfl, by decide⟩ ?_; rw [start105])
  simp (config := {decide := true, contextual := true, maxSteps := 3000000}) only [F105, List.length_map, List.replicate, ↓simPre, simPost, Bool.not_not, Bool.not_false, Bool.not_true, Bool.false_eq_true, reduceCtorEq, ↓reduceIte, decide_true, decide_false, splice, results, resT, resTs, AV.key, Bool.and_true, Bool.true_and, and_true, true_and, and_self, List.flatMap_nil, List.flatMap_cons, List.append_nil, List.nil_append, List.cons_append, List.map_cons, List.map_nil, List.all_cons, List.all_nil, List.length_cons, List.length_nil, Nat.reduceAdd, Nat.reduceLT, Nat.reduceLeDiff, Nat.reduceEqDiff, Nat.reduceSub, Nat.zero_add, Nat.add_zero, List.drop_succ_cons, List.drop_zero, List.take_succ_cons, List.take_zero]
  refine headC_ind (σ := Nat) (fun i => ⟨.sl (rs.map encR) :: .fn 106 [] :: List.replicate 5 .unk ++ [.int .i64 rs.length, .int .i64 i] ++ List.replicate 10 .unk, List.replicate 19 ⟨0, .dead⟩⟩)
    (fun i => some (AV.int .i64 (freeFrom (rs.drop i) i - 1))) (fun i => rs.length - i) (fun i => i ≤ rs.length) ?_ 0 (Nat.zero_le _)
  intro i hi ih
  by_cases hlt : i < rs.length
  · obtain ⟨h1, h2, h4, h5⟩ := idx (i := i) (n := rs.length) hlt (by omega)
    have h3 := map_get encR rs i (false, bs []) hlt
    have h106 := run106 (S := S) (rs.getD i (false, bs []))
    simp only [encR] at h3 h106
    have ih1 := ih (i + 1) (by omega) (by omega)
    simp only [List.replicate] at ih1
    rw [drop_cons (false, bs []) hlt]
    simp (config := {decide := true, contextual := true, maxSteps := 3000000}) only [h1, h2, h3, h4, h5, ih1, h106, List.length_map, List.replicate, ↓simPre, simPost, Bool.not_not, Bool.not_false, Bool.not_true, Bool.false_eq_true, reduceCtorEq, ↓reduceIte, decide_true, decide_false, splice, results, resT, resTs, AV.key, Bool.and_true, Bool.true_and, and_true, true_and, and_self, List.flatMap_nil, List.flatMap_cons, List.append_nil, List.nil_append, List.cons_append, List.map_cons, List.map_nil, List.all_cons, List.all_nil, List.length_cons, List.length_nil, Nat.reduceAdd, Nat.reduceLT, Nat.reduceLeDiff, Nat.reduceEqDiff, Nat.reduceSub, Nat.zero_add, Nat.add_zero, List.drop_succ_cons, List.drop_zero, List.take_succ_cons, List.take_zero]
    simp only [freeFrom]
    split
    · simp only [Option.some.injEq, AV.int.injEq, true_and]; omega
    · congr 3
  · have h2 := idxEnd (i := i) (n := rs.length) (by omega)
    have h7 : rs.drop i = [] := List.drop_eq_nil_of_le (by omega)
    simp (config := {decide := true, contextual := true, maxSteps := 3000000}) only [h2, h7, freeFrom, List.length_map, List.replicate, ↓simPre, simPost, Bool.not_not, Bool.not_false, Bool.not_true, Bool.false_eq_true, reduceCtorEq, ↓reduceIte, decide_true, decide_false, splice, results, resT, resTs, AV.key, Bool.and_true, Bool.true_and, and_true, true_and, and_self, List.flatMap_nil, List.flatMap_cons, List.append_nil, List.nil_append, List.cons_append, List.map_cons, List.map_nil, List.all_cons, List.all_nil, List.length_cons, List.length_nil, Nat.reduceAdd, Nat.reduceLT, Nat.reduceLeDiff, Nat.reduceEqDiff, Nat.reduceSub, Nat.zero_add, Nat.add_zero, List.drop_succ_cons, List.drop_zero, List.take_succ_cons, List.take_zero]
    rfl
end Go.Bv

/- BY VALUE, chapter 26: Updated, Deleted, Read, and their reference; Added. -/
set_option linter.unusedSimpArgs false
set_option linter.unusedVariables false
namespace Go.Bv
variable {S : RT}
attribute [local congr] ite_congr congr_bindOps congr_bindC congr_andThen congr_orNone congr_onBool congr_onEff congr_headC
set_option maxRecDepth 100000
set_option maxHeartbeats 40000000
theorem run111 (fn n : ByteArray) (l : List Fd) (ks : List (ByteArray × Bool)) (u : Bool) (rs : List (Bool × ByteArray)) (rrn : Int) (h : Small fn n l ks rs) :
    run T S 111 [.agg (tabC fn n l ks u rs), .int .i64 rrn] = some (.int .i64 (thereE (checkTable fn n l ks rs).2 rs rrn)) := by
  have h45 := run45 (S := S) fn n l ks u rs h
  have hrs := h.qrs
  have h62 := run62 (S := S) rrn 1 rs.length
  unfold thereE
  simp only [tabC] at h45 ⊢
  generalize (checkTable fn n l ks rs).2 = E at *
  by_cases hE : E = 0
  · subst hE
    by_cases hin : 1 ≤ rrn ∧ rrn ≤ (rs.length : Int)
    · have d3 : decide (1 ≤ rrn) = true := by simp; omega
      have d4 : decide (rrn ≤ (rs.length : Int)) = true := by simp; omega
      have w1 : IntKind.wrap .i64 (rrn - 1) = ((rrn - 1).toNat : Int) := by rw [wrap_i64 (by omega) (by omega)]; omega
      obtain ⟨i1, i2, i4, i5⟩ := idx (i := (rrn - 1).toNat) (n := rs.length) (by omega) (by omega)
      have i3 := map_get encR rs (rrn - 1).toNat (false, bs []) (by omega)
      simp only [encR] at i3
      have w2 : ∀ b : Bool, IntKind.wrap .i64 (11 * if b = true then 1 else 0) = if b = true then 11 else 0 := fun b => by cases b <;> rfl
      rw [d3, d4] at h62
      simp only [isDel, d3, d4]
      (refine run_fn T111 ⟨rfl, by decide⟩ ?_; rw [start111])
      simp (config := {decide := true, contextual := true, maxSteps := 3000000}) only [F111, h45, h62, run48, w1, w2, i1, i2, i3, i4, List.length_map, List.replicate, ↓simPre, simPost, Bool.not_not, Bool.not_false, Bool.not_true, Bool.false_eq_true, reduceCtorEq, ↓reduceIte, decide_true, decide_false, splice, results, resT, resTs, AV.key, Bool.and_true, Bool.true_and, and_true, true_and, and_self, List.flatMap_nil, List.flatMap_cons, List.append_nil, List.nil_append, List.cons_append, List.map_cons, List.map_nil, List.all_cons, List.all_nil, List.length_cons, List.length_nil, Nat.reduceAdd, Nat.reduceLT, Nat.reduceLeDiff, Nat.reduceEqDiff, Nat.reduceSub, Nat.zero_add, Nat.add_zero, List.drop_succ_cons, List.drop_zero, List.take_succ_cons, List.take_zero]
      rfl
    · have d3 : (decide (1 ≤ rrn) && decide (rrn ≤ (rs.length : Int))) = false := by
        rw [Bool.and_eq_false_iff]; simp; omega
      rw [d3] at h62 ⊢
      (refine run_fn T111 ⟨rfl, by decide⟩ ?_; rw [start111])
      simp (config := {decide := true, contextual := true, maxSteps := 3000000}) only [F111, h45, h62, List.length_map, List.replicate, ↓simPre, simPost, Bool.not_not, Bool.not_false, Bool.not_true, Bool.false_eq_true, reduceCtorEq, ↓reduceIte, decide_true, decide_false, splice, results, resT, resTs, AV.key, Bool.and_true, Bool.true_and, and_true, true_and, and_self, List.flatMap_nil, List.flatMap_cons, List.append_nil, List.nil_append, List.cons_append, List.map_cons, List.map_nil, List.all_cons, List.all_nil, List.length_cons, List.length_nil, Nat.reduceAdd, Nat.reduceLT, Nat.reduceLeDiff, Nat.reduceEqDiff, Nat.reduceSub, Nat.zero_add, Nat.add_zero, List.drop_succ_cons, List.drop_zero, List.take_succ_cons, List.take_zero]
  · have cEb : (E != 0) = true := by simpa using hE
    rw [if_pos cEb]
    (refine run_fn T111 ⟨rfl, by decide⟩ ?_; rw [start111])
    simp (config := {decide := true, contextual := true, maxSteps := 3000000}) only [F111, h45, cEb, List.length_map, List.replicate, ↓simPre, simPost, Bool.not_not, Bool.not_false, Bool.not_true, Bool.false_eq_true, reduceCtorEq, ↓reduceIte, decide_true, decide_false, splice, results, resT, resTs, AV.key, Bool.and_true, Bool.true_and, and_true, true_and, and_self, List.flatMap_nil, List.flatMap_cons, List.append_nil, List.nil_append, List.cons_append, List.map_cons, List.map_nil, List.all_cons, List.all_nil, List.length_cons, List.length_nil, Nat.reduceAdd, Nat.reduceLT, Nat.reduceLeDiff, Nat.reduceEqDiff, Nat.reduceSub, Nat.zero_add, Nat.add_zero, List.drop_succ_cons, List.drop_zero, List.take_succ_cons, List.take_zero]
theorem there_one {E : Int} {rs : List (Bool × ByteArray)} {rrn : Int} (h : thereE E rs rrn = 0) : E = 0 ∧ 1 ≤ rrn ∧ rrn ≤ (rs.length : Int) ∧ isDel rs rrn = false := by
  unfold thereE at h
  split at h
  · rename_i hh; subst h; simp at hh
  · rename_i hh
    split at h
    · omega
    · rename_i hin
      simp only [Bool.not_eq_true', Bool.not_eq_false, Bool.and_eq_true, decide_eq_true_eq] at hin
      split at h
      · omega
      · rename_i hd
        exact ⟨by simpa using hh, hin.1, hin.2, by simpa using hd⟩
section
variable (fn n : ByteArray) (l : List Fd) (ks : List (ByteArray × Bool)) (u : Bool) (rs : List (Bool × ByteArray)) (rrn : Int) (s : ByteArray) (h : Small fn n l ks rs)
def updE (fn n : ByteArray) (l : List Fd) (ks : List (ByteArray × Bool)) (rs : List (Bool × ByteArray)) (rrn : Int) (s : ByteArray) : Int :=
  if (thereE (checkTable fn n l ks rs).2 rs rrn != 0) = true then thereE (checkTable fn n l ks rs).2 rs rrn else (bytesErr n l s).2
include h
theorem run51 (hS : Told28 S) (h138 : Told138 S) (hs : s.size ≤ 1000000) : run T S 51 [.agg (tabC fn n l ks u rs), .int .i64 rrn, .str s] =
    some (if (updE fn n l ks rs rrn s != 0) = true then .tup [.agg noTab, .int .i64 (updE fn n l ks rs rrn s)] else .tup [.agg (tabC fn n l ks u (put rs rrn (false, s))), .int .i64 0]) := by
  have h110 := run110 hS fn n l ks u rs rrn h
  have h85 := run85 (S := S) n l s h.qsh hs
  have h107 := fun h1 => run107 h138 fn n l ks u rs rrn (false, s) (by have := h.qrs; omega) h1
  have hp := @there_one (checkTable fn n l ks rs).2 rs rrn
  unfold updE
  generalize thereE (checkTable fn n l ks rs).2 rs rrn = E at *
  generalize (bytesErr n l s).2 = X at *
  simp only [tabC, encR] at h110 h107 ⊢
  by_cases hE : E = 0
  · have hE' : (E != 0) = false := by simpa using hE
    have h107 := h107 (hp hE).2.1
    by_cases hX : X = 0
    · have hX' : (X != 0) = false := by simpa using hX
      simp only [hE', hX']
      (refine run_fn T51 ⟨rfl, by decide⟩ ?_; rw [start51])
      simp (config := {decide := true, contextual := true, maxSteps := 3000000}) only [F51, h110, h85, h107, hE', hX', List.replicate, ↓simPre, simPost, Bool.not_not, Bool.not_false, Bool.not_true, Bool.false_eq_true, reduceCtorEq, ↓reduceIte, decide_true, decide_false, splice, results, resT, resTs, AV.key, Bool.and_true, Bool.true_and, and_true, true_and, and_self, List.flatMap_nil, List.flatMap_cons, List.append_nil, List.nil_append, List.cons_append, List.map_cons, List.map_nil, List.all_cons, List.all_nil, List.length_cons, List.length_nil, Nat.reduceAdd, Nat.reduceLT, Nat.reduceLeDiff, Nat.reduceEqDiff, Nat.reduceSub, Nat.zero_add, Nat.add_zero, List.drop_succ_cons, List.drop_zero, List.take_succ_cons, List.take_zero]
    · have hX' : (X != 0) = true := by simpa using hX
      simp only [hE', hX', Bool.false_eq_true, if_false, if_true]
      (refine run_fn T51 ⟨rfl, by decide⟩ ?_; rw [start51])
      simp (config := {decide := true, contextual := true, maxSteps := 3000000}) only [F51, h110, h85, hE', hX', List.replicate, ↓simPre, simPost, Bool.not_not, Bool.not_false, Bool.not_true, Bool.false_eq_true, reduceCtorEq, ↓reduceIte, decide_true, decide_false, splice, results, resT, resTs, AV.key, Bool.and_true, Bool.true_and, and_true, true_and, and_self, List.flatMap_nil, List.flatMap_cons, List.append_nil, List.nil_append, List.cons_append, List.map_cons, List.map_nil, List.all_cons, List.all_nil, List.length_cons, List.length_nil, Nat.reduceAdd, Nat.reduceLT, Nat.reduceLeDiff, Nat.reduceEqDiff, Nat.reduceSub, Nat.zero_add, Nat.add_zero, List.drop_succ_cons, List.drop_zero, List.take_succ_cons, List.take_zero]
  · have hE' : (E != 0) = true := by simpa using hE
    simp only [hE', if_true]
    (refine run_fn T51 ⟨rfl, by decide⟩ ?_; rw [start51])
    simp (config := {decide := true, contextual := true, maxSteps := 3000000}) only [F51, h110, hE', List.replicate, ↓simPre, simPost, Bool.not_not, Bool.not_false, Bool.not_true, Bool.false_eq_true, reduceCtorEq, ↓reduceIte, decide_true, decide_false, splice, results, resT, resTs, AV.key, Bool.and_true, Bool.true_and, and_true, true_and, and_self, List.flatMap_nil, List.flatMap_cons, List.append_nil, List.nil_append, List.cons_append, List.map_cons, List.map_nil, List.all_cons, List.all_nil, List.length_cons, List.length_nil, Nat.reduceAdd, Nat.reduceLT, Nat.reduceLeDiff, Nat.reduceEqDiff, Nat.reduceSub, Nat.zero_add, Nat.add_zero, List.drop_succ_cons, List.drop_zero, List.take_succ_cons, List.take_zero]
theorem run52 (hs : s.size ≤ 1000000) : run T S 52 [.agg (tabC fn n l ks u rs), .int .i64 rrn, .str s] =
    some (if (updE fn n l ks rs rrn s != 0) = true then .agg (noTab ++ [.int .i64 0, .int .i64 (updE fn n l ks rs rrn s)]) else .agg (tabC fn n l ks u (put rs rrn (false, s)) ++ [.int .i64 0, .int .i64 0])) := by
  have h111 := run111 (S := S) fn n l ks u rs rrn h
  have h100 := run100 (S := S) n l s h.qsh hs
  have h109 := fun h1 => run109 (S := S) fn n l ks u rs rrn (false, s) (by have := h.qsh.2.1; omega) (by have := h.qks; omega) (by have := h.qrs; omega) h1
  have hp := @there_one (checkTable fn n l ks rs).2 rs rrn
  unfold updE
  generalize thereE (checkTable fn n l ks rs).2 rs rrn = E at *
  generalize (bytesErr n l s).2 = X at *
  simp only [tabC, encR] at h111 h109 ⊢
  by_cases hE : E = 0
  · have hE' : (E != 0) = false := by simpa using hE
    have h109 := h109 (hp hE).2.1
    by_cases hX : X = 0
    · have hX' : (X != 0) = false := by simpa using hX
      simp only [hE', hX']
      (refine run_fn T52 ⟨rfl, by decide⟩ ?_; rw [start52])
      simp (config := {decide := true, contextual := true, maxSteps := 3000000}) only [F52, h111, h100, h109, hE', hX', List.replicate, ↓simPre, simPost, Bool.not_not, Bool.not_false, Bool.not_true, Bool.false_eq_true, reduceCtorEq, ↓reduceIte, decide_true, decide_false, splice, results, resT, resTs, AV.key, Bool.and_true, Bool.true_and, and_true, true_and, and_self, List.flatMap_nil, List.flatMap_cons, List.append_nil, List.nil_append, List.cons_append, List.map_cons, List.map_nil, List.all_cons, List.all_nil, List.length_cons, List.length_nil, Nat.reduceAdd, Nat.reduceLT, Nat.reduceLeDiff, Nat.reduceEqDiff, Nat.reduceSub, Nat.zero_add, Nat.add_zero, List.drop_succ_cons, List.drop_zero, List.take_succ_cons, List.take_zero]
    · have hX' : (X != 0) = true := by simpa using hX
      simp only [hE', hX', Bool.false_eq_true, if_false, if_true]
      (refine run_fn T52 ⟨rfl, by decide⟩ ?_; rw [start52])
      simp (config := {decide := true, contextual := true, maxSteps := 3000000}) only [F52, h111, h100, hE', hX', List.replicate, ↓simPre, simPost, Bool.not_not, Bool.not_false, Bool.not_true, Bool.false_eq_true, reduceCtorEq, ↓reduceIte, decide_true, decide_false, splice, results, resT, resTs, AV.key, Bool.and_true, Bool.true_and, and_true, true_and, and_self, List.flatMap_nil, List.flatMap_cons, List.append_nil, List.nil_append, List.cons_append, List.map_cons, List.map_nil, List.all_cons, List.all_nil, List.length_cons, List.length_nil, Nat.reduceAdd, Nat.reduceLT, Nat.reduceLeDiff, Nat.reduceEqDiff, Nat.reduceSub, Nat.zero_add, Nat.add_zero, List.drop_succ_cons, List.drop_zero, List.take_succ_cons, List.take_zero]
  · have hE' : (E != 0) = true := by simpa using hE
    simp only [hE', if_true]
    (refine run_fn T52 ⟨rfl, by decide⟩ ?_; rw [start52])
    simp (config := {decide := true, contextual := true, maxSteps := 3000000}) only [F52, h111, hE', List.replicate, ↓simPre, simPost, Bool.not_not, Bool.not_false, Bool.not_true, Bool.false_eq_true, reduceCtorEq, ↓reduceIte, decide_true, decide_false, splice, results, resT, resTs, AV.key, Bool.and_true, Bool.true_and, and_true, true_and, and_self, List.flatMap_nil, List.flatMap_cons, List.append_nil, List.nil_append, List.cons_append, List.map_cons, List.map_nil, List.all_cons, List.all_nil, List.length_cons, List.length_nil, Nat.reduceAdd, Nat.reduceLT, Nat.reduceLeDiff, Nat.reduceEqDiff, Nat.reduceSub, Nat.zero_add, Nat.add_zero, List.drop_succ_cons, List.drop_zero, List.take_succ_cons, List.take_zero]
theorem run53 (hS : Told28 S) (h138 : Told138 S) : run T S 53 [.agg (tabC fn n l ks u rs), .int .i64 rrn] =
    some (if (thereE (checkTable fn n l ks rs).2 rs rrn != 0) = true then .tup [.agg noTab, .int .i64 (thereE (checkTable fn n l ks rs).2 rs rrn)] else .tup [.agg (tabC fn n l ks u (put rs rrn (true, bs []))), .int .i64 0]) := by
  have h110 := run110 hS fn n l ks u rs rrn h
  have h107 := fun h1 => run107 h138 fn n l ks u rs rrn (true, bs []) (by have := h.qrs; omega) h1
  have hp := @there_one (checkTable fn n l ks rs).2 rs rrn
  generalize thereE (checkTable fn n l ks rs).2 rs rrn = E at *
  simp only [tabC, encR] at h110 h107 ⊢
  by_cases hE : E = 0
  · have hE' : (E != 0) = false := by simpa using hE
    have h107 := h107 (hp hE).2.1
    simp only [hE']
    (refine run_fn T53 ⟨rfl, by decide⟩ ?_; rw [start53])
    simp (config := {decide := true, contextual := true, maxSteps := 3000000}) only [F53, h110, h107, hE', List.replicate, ↓simPre, simPost, Bool.not_not, Bool.not_false, Bool.not_true, Bool.false_eq_true, reduceCtorEq, ↓reduceIte, decide_true, decide_false, splice, results, resT, resTs, AV.key, Bool.and_true, Bool.true_and, and_true, true_and, and_self, List.flatMap_nil, List.flatMap_cons, List.append_nil, List.nil_append, List.cons_append, List.map_cons, List.map_nil, List.all_cons, List.all_nil, List.length_cons, List.length_nil, Nat.reduceAdd, Nat.reduceLT, Nat.reduceLeDiff, Nat.reduceEqDiff, Nat.reduceSub, Nat.zero_add, Nat.add_zero, List.drop_succ_cons, List.drop_zero, List.take_succ_cons, List.take_zero]
  · have hE' : (E != 0) = true := by simpa using hE
    simp only [hE', if_true]
    (refine run_fn T53 ⟨rfl, by decide⟩ ?_; rw [start53])
    simp (config := {decide := true, contextual := true, maxSteps := 3000000}) only [F53, h110, hE', List.replicate, ↓simPre, simPost, Bool.not_not, Bool.not_false, Bool.not_true, Bool.false_eq_true, reduceCtorEq, ↓reduceIte, decide_true, decide_false, splice, results, resT, resTs, AV.key, Bool.and_true, Bool.true_and, and_true, true_and, and_self, List.flatMap_nil, List.flatMap_cons, List.append_nil, List.nil_append, List.cons_append, List.map_cons, List.map_nil, List.all_cons, List.all_nil, List.length_cons, List.length_nil, Nat.reduceAdd, Nat.reduceLT, Nat.reduceLeDiff, Nat.reduceEqDiff, Nat.reduceSub, Nat.zero_add, Nat.add_zero, List.drop_succ_cons, List.drop_zero, List.take_succ_cons, List.take_zero]
theorem run54 : run T S 54 [.agg (tabC fn n l ks u rs), .int .i64 rrn] =
    some (if (thereE (checkTable fn n l ks rs).2 rs rrn != 0) = true then .agg (noTab ++ [.int .i64 0, .int .i64 (thereE (checkTable fn n l ks rs).2 rs rrn)]) else .agg (tabC fn n l ks u (put rs rrn (true, bs [])) ++ [.int .i64 0, .int .i64 0])) := by
  have h111 := run111 (S := S) fn n l ks u rs rrn h
  have h109 := fun h1 => run109 (S := S) fn n l ks u rs rrn (true, bs []) (by have := h.qsh.2.1; omega) (by have := h.qks; omega) (by have := h.qrs; omega) h1
  have hp := @there_one (checkTable fn n l ks rs).2 rs rrn
  generalize thereE (checkTable fn n l ks rs).2 rs rrn = E at *
  simp only [tabC, encR] at h111 h109 ⊢
  by_cases hE : E = 0
  · have hE' : (E != 0) = false := by simpa using hE
    have h109 := h109 (hp hE).2.1
    simp only [hE']
    (refine run_fn T54 ⟨rfl, by decide⟩ ?_; rw [start54])
    simp (config := {decide := true, contextual := true, maxSteps := 3000000}) only [F54, h111, h109, hE', List.replicate, ↓simPre, simPost, Bool.not_not, Bool.not_false, Bool.not_true, Bool.false_eq_true, reduceCtorEq, ↓reduceIte, decide_true, decide_false, splice, results, resT, resTs, AV.key, Bool.and_true, Bool.true_and, and_true, true_and, and_self, List.flatMap_nil, List.flatMap_cons, List.append_nil, List.nil_append, List.cons_append, List.map_cons, List.map_nil, List.all_cons, List.all_nil, List.length_cons, List.length_nil, Nat.reduceAdd, Nat.reduceLT, Nat.reduceLeDiff, Nat.reduceEqDiff, Nat.reduceSub, Nat.zero_add, Nat.add_zero, List.drop_succ_cons, List.drop_zero, List.take_succ_cons, List.take_zero]
  · have hE' : (E != 0) = true := by simpa using hE
    simp only [hE', if_true]
    (refine run_fn T54 ⟨rfl, by decide⟩ ?_; rw [start54])
    simp (config := {decide := true, contextual := true, maxSteps := 3000000}) only [F54, h111, hE', List.replicate, ↓simPre, simPost, Bool.not_not, Bool.not_false, Bool.not_true, Bool.false_eq_true, reduceCtorEq, ↓reduceIte, decide_true, decide_false, splice, results, resT, resTs, AV.key, Bool.and_true, Bool.true_and, and_true, true_and, and_self, List.flatMap_nil, List.flatMap_cons, List.append_nil, List.nil_append, List.cons_append, List.map_cons, List.map_nil, List.all_cons, List.all_nil, List.length_cons, List.length_nil, Nat.reduceAdd, Nat.reduceLT, Nat.reduceLeDiff, Nat.reduceEqDiff, Nat.reduceSub, Nat.zero_add, Nat.add_zero, List.drop_succ_cons, List.drop_zero, List.take_succ_cons, List.take_zero]
def readA (E : Int) (rs : List (Bool × ByteArray)) (rrn : Int) : AV := if (E != 0) = true then .tup [.str (bs []), .int .i64 E] else .tup [.str (rs.getD (rrn - 1).toNat (false, bs [])).2, .int .i64 0]
theorem run55 (hS : Told28 S) : run T S 55 [.agg (tabC fn n l ks u rs), .int .i64 rrn] = some (readA (thereE (checkTable fn n l ks rs).2 rs rrn) rs rrn) := by
  have h110 := run110 hS fn n l ks u rs rrn h
  have hrs := h.qrs
  have hp := @there_one (checkTable fn n l ks rs).2 rs rrn
  unfold readA
  generalize thereE (checkTable fn n l ks rs).2 rs rrn = E at *
  simp only [tabC, encR] at h110 ⊢
  by_cases hE : E = 0
  · have hE' : (E != 0) = false := by simpa using hE
    obtain ⟨_, p1, p2, _⟩ := hp hE
    have w1 : IntKind.wrap .i64 (rrn - 1) = ((rrn - 1).toNat : Int) := by rw [wrap_i64 (by omega) (by omega)]; omega
    obtain ⟨i1, i2, i4, i5⟩ := idx (i := (rrn - 1).toNat) (n := rs.length) (by omega) (by omega)
    have i3 := map_get encR rs (rrn - 1).toNat (false, bs []) (by omega)
    simp only [encR] at i3
    simp only [hE']
    (refine run_fn T55 ⟨rfl, by decide⟩ ?_; rw [start55])
    simp (config := {decide := true, contextual := true, maxSteps := 3000000}) only [F55, h110, hE', w1, i1, i2, i3, i4, List.length_map, List.replicate, ↓simPre, simPost, Bool.not_not, Bool.not_false, Bool.not_true, Bool.false_eq_true, reduceCtorEq, ↓reduceIte, decide_true, decide_false, splice, results, resT, resTs, AV.key, Bool.and_true, Bool.true_and, and_true, true_and, and_self, List.flatMap_nil, List.flatMap_cons, List.append_nil, List.nil_append, List.cons_append, List.map_cons, List.map_nil, List.all_cons, List.all_nil, List.length_cons, List.length_nil, Nat.reduceAdd, Nat.reduceLT, Nat.reduceLeDiff, Nat.reduceEqDiff, Nat.reduceSub, Nat.zero_add, Nat.add_zero, List.drop_succ_cons, List.drop_zero, List.take_succ_cons, List.take_zero]
  · have hE' : (E != 0) = true := by simpa using hE
    simp only [hE', if_true]
    (refine run_fn T55 ⟨rfl, by decide⟩ ?_; rw [start55])
    simp (config := {decide := true, contextual := true, maxSteps := 3000000}) only [F55, h110, hE', List.replicate, ↓simPre, simPost, Bool.not_not, Bool.not_false, Bool.not_true, Bool.false_eq_true, reduceCtorEq, ↓reduceIte, decide_true, decide_false, splice, results, resT, resTs, AV.key, Bool.and_true, Bool.true_and, and_true, true_and, and_self, List.flatMap_nil, List.flatMap_cons, List.append_nil, List.nil_append, List.cons_append, List.map_cons, List.map_nil, List.all_cons, List.all_nil, List.length_cons, List.length_nil, Nat.reduceAdd, Nat.reduceLT, Nat.reduceLeDiff, Nat.reduceEqDiff, Nat.reduceSub, Nat.zero_add, Nat.add_zero, List.drop_succ_cons, List.drop_zero, List.take_succ_cons, List.take_zero]
theorem run56 : run T S 56 [.agg (tabC fn n l ks u rs), .int .i64 rrn] = some (readA (thereE (checkTable fn n l ks rs).2 rs rrn) rs rrn) := by
  have h111 := run111 (S := S) fn n l ks u rs rrn h
  have hrs := h.qrs
  have hp := @there_one (checkTable fn n l ks rs).2 rs rrn
  unfold readA
  generalize thereE (checkTable fn n l ks rs).2 rs rrn = E at *
  simp only [tabC, encR] at h111 ⊢
  by_cases hE : E = 0
  · have hE' : (E != 0) = false := by simpa using hE
    obtain ⟨_, p1, p2, _⟩ := hp hE
    have w1 : IntKind.wrap .i64 (rrn - 1) = ((rrn - 1).toNat : Int) := by rw [wrap_i64 (by omega) (by omega)]; omega
    obtain ⟨i1, i2, i4, i5⟩ := idx (i := (rrn - 1).toNat) (n := rs.length) (by omega) (by omega)
    have i3 := map_get encR rs (rrn - 1).toNat (false, bs []) (by omega)
    simp only [encR] at i3
    simp only [hE']
    (refine run_fn T56 ⟨rfl, by decide⟩ ?_; rw [start56])
    simp (config := {decide := true, contextual := true, maxSteps := 3000000}) only [F56, h111, hE', w1, i1, i2, i3, i4, List.length_map, List.replicate, ↓simPre, simPost, Bool.not_not, Bool.not_false, Bool.not_true, Bool.false_eq_true, reduceCtorEq, ↓reduceIte, decide_true, decide_false, splice, results, resT, resTs, AV.key, Bool.and_true, Bool.true_and, and_true, true_and, and_self, List.flatMap_nil, List.flatMap_cons, List.append_nil, List.nil_append, List.cons_append, List.map_cons, List.map_nil, List.all_cons, List.all_nil, List.length_cons, List.length_nil, Nat.reduceAdd, Nat.reduceLT, Nat.reduceLeDiff, Nat.reduceEqDiff, Nat.reduceSub, Nat.zero_add, Nat.add_zero, List.drop_succ_cons, List.drop_zero, List.take_succ_cons, List.take_zero]
  · have hE' : (E != 0) = true := by simpa using hE
    simp only [hE', if_true]
    (refine run_fn T56 ⟨rfl, by decide⟩ ?_; rw [start56])
    simp (config := {decide := true, contextual := true, maxSteps := 3000000}) only [F56, h111, hE', List.replicate, ↓simPre, simPost, Bool.not_not, Bool.not_false, Bool.not_true, Bool.false_eq_true, reduceCtorEq, ↓reduceIte, decide_true, decide_false, splice, results, resT, resTs, AV.key, Bool.and_true, Bool.true_and, and_true, true_and, and_self, List.flatMap_nil, List.flatMap_cons, List.append_nil, List.nil_append, List.cons_append, List.map_cons, List.map_nil, List.all_cons, List.all_nil, List.length_cons, List.length_nil, Nat.reduceAdd, Nat.reduceLT, Nat.reduceLeDiff, Nat.reduceEqDiff, Nat.reduceSub, Nat.zero_add, Nat.add_zero, List.drop_succ_cons, List.drop_zero, List.take_succ_cons, List.take_zero]
/-- A further record: its number, or the error. -/
def addAt (rs : List (Bool × ByteArray)) (reuse : Bool) : Int := if reuse = true ∧ freeFrom rs 0 > 0 then freeFrom rs 0 else (rs.length : Int) + 1
def addE (fn n : ByteArray) (l : List Fd) (ks : List (ByteArray × Bool)) (rs : List (Bool × ByteArray)) (s : ByteArray) (reuse : Bool) : Int :=
  if ((checkTable fn n l ks rs).2 != 0) = true then (checkTable fn n l ks rs).2 else if ((bytesErr n l s).2 != 0) = true then (bytesErr n l s).2 else if addAt rs reuse > 60 then 30 else 0
omit h in
theorem free_range : ∀ (rs : List (Bool × ByteArray)) (i : Int), 0 ≤ i → 0 ≤ freeFrom rs i ∧ freeFrom rs i ≤ i + rs.length
  | [], i, hi => by simp [freeFrom]; exact hi
  | r :: l, i, hi => by
    simp only [freeFrom, List.length_cons]
    have := free_range l (i + 1) (by omega)
    split <;> omega
theorem run49 (hS : Told28 S) (h138 : Told138 S) (reuse : Bool) (hs : s.size ≤ 1000000) : run T S 49 [.agg (tabC fn n l ks u rs), .str s, .bool reuse] =
    some (if (addE fn n l ks rs s reuse != 0) = true then .tup [.agg noTab, .int .i64 0, .int .i64 (addE fn n l ks rs s reuse)] else .tup [.agg (tabC fn n l ks u (put rs (addAt rs reuse) (false, s))), .int .i64 (addAt rs reuse), .int .i64 0]) := by
  have h101 := run101 hS fn n l ks u rs h
  have hrs := h.qrs
  have h85 := run85 (S := S) n l s h.qsh hs
  have h105 := run105 (S := S) rs (by omega)
  obtain ⟨q1, q2⟩ := free_range rs 0 (by omega)
  have ha : 1 ≤ addAt rs reuse := by unfold addAt; split <;> omega
  have h107 := run107 h138 fn n l ks u rs (addAt rs reuse) (false, s) (by omega) ha
  have w0 : IntKind.wrap .i64 ((rs.length : Int) + 1) = (rs.length : Int) + 1 := wrap_i64 (by omega) (by omega)
  have w2 : IntKind.wrap .i64 (freeFrom rs 0 - 1 + 1) = freeFrom rs 0 := by rw [wrap_i64 (by omega) (by omega)]; omega
  unfold addE
  generalize hA : addAt rs reuse = A at *
  unfold addAt at hA
  generalize (checkTable fn n l ks rs).2 = E at *
  generalize (bytesErr n l s).2 = X at *
  simp only [tabC, encR] at h101 h107 h105 ⊢
  by_cases hE : E = 0
  · subst hE
    by_cases hX : X = 0
    · subst hX
      have f0 : first [0, 0] = 0 := rfl
      cases reuse with
      | false =>
        have hA' : A = (rs.length : Int) + 1 := by simpa using hA.symm
        subst hA'
        by_cases hm : (rs.length : Int) + 1 > 60
        · have d1 : decide ((rs.length : Int) + 1 > 60) = true := by simpa using hm
          simp only [hm, if_true]
          (refine run_fn T49 ⟨rfl, by decide⟩ ?_; rw [start49])
          simp (config := {decide := true, contextual := true, maxSteps := 3000000}) only [F49, h101, h85, h105, h107, run80_2, f0, w0, w2, d1, List.length_map, List.replicate, ↓simPre, simPost, Bool.not_not, Bool.not_false, Bool.not_true, Bool.false_eq_true, reduceCtorEq, ↓reduceIte, decide_true, decide_false, splice, results, resT, resTs, AV.key, Bool.and_true, Bool.true_and, and_true, true_and, and_self, List.flatMap_nil, List.flatMap_cons, List.append_nil, List.nil_append, List.cons_append, List.map_cons, List.map_nil, List.all_cons, List.all_nil, List.length_cons, List.length_nil, Nat.reduceAdd, Nat.reduceLT, Nat.reduceLeDiff, Nat.reduceEqDiff, Nat.reduceSub, Nat.zero_add, Nat.add_zero, List.drop_succ_cons, List.drop_zero, List.take_succ_cons, List.take_zero]
        · have d1 : decide ((rs.length : Int) + 1 > 60) = false := by simpa using hm
          simp only [hm, if_false]
          (refine run_fn T49 ⟨rfl, by decide⟩ ?_; rw [start49])
          simp (config := {decide := true, contextual := true, maxSteps := 3000000}) only [F49, h101, h85, h105, h107, run80_2, f0, w0, w2, d1, List.length_map, List.replicate, ↓simPre, simPost, Bool.not_not, Bool.not_false, Bool.not_true, Bool.false_eq_true, reduceCtorEq, ↓reduceIte, decide_true, decide_false, splice, results, resT, resTs, AV.key, Bool.and_true, Bool.true_and, and_true, true_and, and_self, List.flatMap_nil, List.flatMap_cons, List.append_nil, List.nil_append, List.cons_append, List.map_cons, List.map_nil, List.all_cons, List.all_nil, List.length_cons, List.length_nil, Nat.reduceAdd, Nat.reduceLT, Nat.reduceLeDiff, Nat.reduceEqDiff, Nat.reduceSub, Nat.zero_add, Nat.add_zero, List.drop_succ_cons, List.drop_zero, List.take_succ_cons, List.take_zero]
      | true =>
        by_cases hf : freeFrom rs 0 > 0
        · have hA' : A = freeFrom rs 0 := by simpa [hf] using hA.symm
          subst hA'
          have d2 : decide (freeFrom rs 0 - 1 ≥ 0) = true := by simp; omega
          by_cases hm : freeFrom rs 0 > 60
          · have d1 : decide (freeFrom rs 0 > 60) = true := by simpa using hm
            simp only [hm, if_true]
            (refine run_fn T49 ⟨rfl, by decide⟩ ?_; rw [start49])
            simp (config := {decide := true, contextual := true, maxSteps := 3000000}) only [F49, h101, h85, h105, h107, run80_2, f0, w0, w2, d1, d2, List.length_map, List.replicate, ↓simPre, simPost, Bool.not_not, Bool.not_false, Bool.not_true, Bool.false_eq_true, reduceCtorEq, ↓reduceIte, decide_true, decide_false, splice, results, resT, resTs, AV.key, Bool.and_true, Bool.true_and, and_true, true_and, and_self, List.flatMap_nil, List.flatMap_cons, List.append_nil, List.nil_append, List.cons_append, List.map_cons, List.map_nil, List.all_cons, List.all_nil, List.length_cons, List.length_nil, Nat.reduceAdd, Nat.reduceLT, Nat.reduceLeDiff, Nat.reduceEqDiff, Nat.reduceSub, Nat.zero_add, Nat.add_zero, List.drop_succ_cons, List.drop_zero, List.take_succ_cons, List.take_zero]
          · have d1 : decide (freeFrom rs 0 > 60) = false := by simpa using hm
            simp only [hm, if_false]
            (refine run_fn T49 ⟨rfl, by decide⟩ ?_; rw [start49])
            simp (config := {decide := true, contextual := true, maxSteps := 3000000}) only [F49, h101, h85, h105, h107, run80_2, f0, w0, w2, d1, d2, List.length_map, List.replicate, ↓simPre, simPost, Bool.not_not, Bool.not_false, Bool.not_true, Bool.false_eq_true, reduceCtorEq, ↓reduceIte, decide_true, decide_false, splice, results, resT, resTs, AV.key, Bool.and_true, Bool.true_and, and_true, true_and, and_self, List.flatMap_nil, List.flatMap_cons, List.append_nil, List.nil_append, List.cons_append, List.map_cons, List.map_nil, List.all_cons, List.all_nil, List.length_cons, List.length_nil, Nat.reduceAdd, Nat.reduceLT, Nat.reduceLeDiff, Nat.reduceEqDiff, Nat.reduceSub, Nat.zero_add, Nat.add_zero, List.drop_succ_cons, List.drop_zero, List.take_succ_cons, List.take_zero]
        · have hA' : A = (rs.length : Int) + 1 := by simpa [hf] using hA.symm
          subst hA'
          have d2 : decide (freeFrom rs 0 - 1 ≥ 0) = false := by simp; omega
          by_cases hm : (rs.length : Int) + 1 > 60
          · have d1 : decide ((rs.length : Int) + 1 > 60) = true := by simpa using hm
            simp only [hm, if_true]
            (refine run_fn T49 ⟨rfl, by decide⟩ ?_; rw [start49])
            simp (config := {decide := true, contextual := true, maxSteps := 3000000}) only [F49, h101, h85, h105, h107, run80_2, f0, w0, w2, d1, d2, List.length_map, List.replicate, ↓simPre, simPost, Bool.not_not, Bool.not_false, Bool.not_true, Bool.false_eq_true, reduceCtorEq, ↓reduceIte, decide_true, decide_false, splice, results, resT, resTs, AV.key, Bool.and_true, Bool.true_and, and_true, true_and, and_self, List.flatMap_nil, List.flatMap_cons, List.append_nil, List.nil_append, List.cons_append, List.map_cons, List.map_nil, List.all_cons, List.all_nil, List.length_cons, List.length_nil, Nat.reduceAdd, Nat.reduceLT, Nat.reduceLeDiff, Nat.reduceEqDiff, Nat.reduceSub, Nat.zero_add, Nat.add_zero, List.drop_succ_cons, List.drop_zero, List.take_succ_cons, List.take_zero]
          · have d1 : decide ((rs.length : Int) + 1 > 60) = false := by simpa using hm
            simp only [hm, if_false]
            (refine run_fn T49 ⟨rfl, by decide⟩ ?_; rw [start49])
            simp (config := {decide := true, contextual := true, maxSteps := 3000000}) only [F49, h101, h85, h105, h107, run80_2, f0, w0, w2, d1, d2, List.length_map, List.replicate, ↓simPre, simPost, Bool.not_not, Bool.not_false, Bool.not_true, Bool.false_eq_true, reduceCtorEq, ↓reduceIte, decide_true, decide_false, splice, results, resT, resTs, AV.key, Bool.and_true, Bool.true_and, and_true, true_and, and_self, List.flatMap_nil, List.flatMap_cons, List.append_nil, List.nil_append, List.cons_append, List.map_cons, List.map_nil, List.all_cons, List.all_nil, List.length_cons, List.length_nil, Nat.reduceAdd, Nat.reduceLT, Nat.reduceLeDiff, Nat.reduceEqDiff, Nat.reduceSub, Nat.zero_add, Nat.add_zero, List.drop_succ_cons, List.drop_zero, List.take_succ_cons, List.take_zero]
    · have hX' : (X != 0) = true := by simpa using hX
      have f0 : first [0, X] = X := by simp [first, hX]
      simp only [hX', if_true, bne_self_eq_false, Bool.false_eq_true, if_false]
      (refine run_fn T49 ⟨rfl, by decide⟩ ?_; rw [start49])
      simp (config := {decide := true, contextual := true, maxSteps := 3000000}) only [F49, h101, h85, run80_2, f0, hX', List.length_map, List.replicate, ↓simPre, simPost, Bool.not_not, Bool.not_false, Bool.not_true, Bool.false_eq_true, reduceCtorEq, ↓reduceIte, decide_true, decide_false, splice, results, resT, resTs, AV.key, Bool.and_true, Bool.true_and, and_true, true_and, and_self, List.flatMap_nil, List.flatMap_cons, List.append_nil, List.nil_append, List.cons_append, List.map_cons, List.map_nil, List.all_cons, List.all_nil, List.length_cons, List.length_nil, Nat.reduceAdd, Nat.reduceLT, Nat.reduceLeDiff, Nat.reduceEqDiff, Nat.reduceSub, Nat.zero_add, Nat.add_zero, List.drop_succ_cons, List.drop_zero, List.take_succ_cons, List.take_zero]
  · have hE' : (E != 0) = true := by simpa using hE
    have f0 : first [E, X] = E := by simp [first, hE]
    simp only [hE', if_true]
    (refine run_fn T49 ⟨rfl, by decide⟩ ?_; rw [start49])
    simp (config := {decide := true, contextual := true, maxSteps := 3000000}) only [F49, h101, h85, run80_2, f0, hE', List.length_map, List.replicate, ↓simPre, simPost, Bool.not_not, Bool.not_false, Bool.not_true, Bool.false_eq_true, reduceCtorEq, ↓reduceIte, decide_true, decide_false, splice, results, resT, resTs, AV.key, Bool.and_true, Bool.true_and, and_true, true_and, and_self, List.flatMap_nil, List.flatMap_cons, List.append_nil, List.nil_append, List.cons_append, List.map_cons, List.map_nil, List.all_cons, List.all_nil, List.length_cons, List.length_nil, Nat.reduceAdd, Nat.reduceLT, Nat.reduceLeDiff, Nat.reduceEqDiff, Nat.reduceSub, Nat.zero_add, Nat.add_zero, List.drop_succ_cons, List.drop_zero, List.take_succ_cons, List.take_zero]
theorem run50 (reuse : Bool) (hs : s.size ≤ 1000000) : run T S 50 [.agg (tabC fn n l ks u rs), .str s, .bool reuse] =
    some (if (addE fn n l ks rs s reuse != 0) = true then .agg (noTab ++ [.int .i64 0, .int .i64 (addE fn n l ks rs s reuse)]) else .agg (tabC fn n l ks u (put rs (addAt rs reuse) (false, s)) ++ [.int .i64 (addAt rs reuse), .int .i64 0])) := by
  have h45 := run45 (S := S) fn n l ks u rs h
  have hrs := h.qrs
  have h100 := run100 (S := S) n l s h.qsh hs
  have h108 := run108 (S := S) fn n l ks u rs (by omega)
  obtain ⟨q1, q2⟩ := free_range rs 0 (by omega)
  have ha : 1 ≤ addAt rs reuse := by unfold addAt; split <;> omega
  have h109 := run109 (S := S) fn n l ks u rs (addAt rs reuse) (false, s) (by have := h.qsh.2.1; omega) (by have := h.qks; omega) (by omega) ha
  have w0 : IntKind.wrap .i64 ((rs.length : Int) + 1) = (rs.length : Int) + 1 := wrap_i64 (by omega) (by omega)
  unfold addE
  generalize hA : addAt rs reuse = A at *
  unfold addAt at hA
  generalize (checkTable fn n l ks rs).2 = E at *
  generalize (bytesErr n l s).2 = X at *
  simp only [tabC, encR] at h45 h109 h108 ⊢
  by_cases hE : E = 0
  · subst hE
    by_cases hX : X = 0
    · subst hX
      cases reuse with
      | false =>
        have hA' : A = (rs.length : Int) + 1 := by simpa using hA.symm
        subst hA'
        by_cases hm : (rs.length : Int) + 1 > 60
        · have d1 : decide ((rs.length : Int) + 1 > 60) = true := by simpa using hm
          simp only [hm, if_true]
          (refine run_fn T50 ⟨rfl, by decide⟩ ?_; rw [start50])
          simp (config := {decide := true, contextual := true, maxSteps := 3000000}) only [F50, h45, h100, h108, h109, w0, d1, List.length_map, List.replicate, ↓simPre, simPost, Bool.not_not, Bool.not_false, Bool.not_true, Bool.false_eq_true, reduceCtorEq, ↓reduceIte, decide_true, decide_false, splice, results, resT, resTs, AV.key, Bool.and_true, Bool.true_and, and_true, true_and, and_self, List.flatMap_nil, List.flatMap_cons, List.append_nil, List.nil_append, List.cons_append, List.map_cons, List.map_nil, List.all_cons, List.all_nil, List.length_cons, List.length_nil, Nat.reduceAdd, Nat.reduceLT, Nat.reduceLeDiff, Nat.reduceEqDiff, Nat.reduceSub, Nat.zero_add, Nat.add_zero, List.drop_succ_cons, List.drop_zero, List.take_succ_cons, List.take_zero]
        · have d1 : decide ((rs.length : Int) + 1 > 60) = false := by simpa using hm
          simp only [hm, if_false]
          (refine run_fn T50 ⟨rfl, by decide⟩ ?_; rw [start50])
          simp (config := {decide := true, contextual := true, maxSteps := 3000000}) only [F50, h45, h100, h108, h109, w0, d1, List.length_map, List.replicate, ↓simPre, simPost, Bool.not_not, Bool.not_false, Bool.not_true, Bool.false_eq_true, reduceCtorEq, ↓reduceIte, decide_true, decide_false, splice, results, resT, resTs, AV.key, Bool.and_true, Bool.true_and, and_true, true_and, and_self, List.flatMap_nil, List.flatMap_cons, List.append_nil, List.nil_append, List.cons_append, List.map_cons, List.map_nil, List.all_cons, List.all_nil, List.length_cons, List.length_nil, Nat.reduceAdd, Nat.reduceLT, Nat.reduceLeDiff, Nat.reduceEqDiff, Nat.reduceSub, Nat.zero_add, Nat.add_zero, List.drop_succ_cons, List.drop_zero, List.take_succ_cons, List.take_zero]
      | true =>
        by_cases hf : freeFrom rs 0 > 0
        · have hA' : A = freeFrom rs 0 := by simpa [hf] using hA.symm
          subst hA'
          have d2 : decide (freeFrom rs 0 > 0) = true := by simpa using hf
          by_cases hm : freeFrom rs 0 > 60
          · have d1 : decide (freeFrom rs 0 > 60) = true := by simpa using hm
            simp only [hm, if_true]
            (refine run_fn T50 ⟨rfl, by decide⟩ ?_; rw [start50])
            simp (config := {decide := true, contextual := true, maxSteps := 3000000}) only [F50, h45, h100, h108, h109, w0, d1, d2, List.length_map, List.replicate, ↓simPre, simPost, Bool.not_not, Bool.not_false, Bool.not_true, Bool.false_eq_true, reduceCtorEq, ↓reduceIte, decide_true, decide_false, splice, results, resT, resTs, AV.key, Bool.and_true, Bool.true_and, and_true, true_and, and_self, List.flatMap_nil, List.flatMap_cons, List.append_nil, List.nil_append, List.cons_append, List.map_cons, List.map_nil, List.all_cons, List.all_nil, List.length_cons, List.length_nil, Nat.reduceAdd, Nat.reduceLT, Nat.reduceLeDiff, Nat.reduceEqDiff, Nat.reduceSub, Nat.zero_add, Nat.add_zero, List.drop_succ_cons, List.drop_zero, List.take_succ_cons, List.take_zero]
          · have d1 : decide (freeFrom rs 0 > 60) = false := by simpa using hm
            simp only [hm, if_false]
            (refine run_fn T50 ⟨rfl, by decide⟩ ?_; rw [start50])
            simp (config := {decide := true, contextual := true, maxSteps := 3000000}) only [F50, h45, h100, h108, h109, w0, d1, d2, List.length_map, List.replicate, ↓simPre, simPost, Bool.not_not, Bool.not_false, Bool.not_true, Bool.false_eq_true, reduceCtorEq, ↓reduceIte, decide_true, decide_false, splice, results, resT, resTs, AV.key, Bool.and_true, Bool.true_and, and_true, true_and, and_self, List.flatMap_nil, List.flatMap_cons, List.append_nil, List.nil_append, List.cons_append, List.map_cons, List.map_nil, List.all_cons, List.all_nil, List.length_cons, List.length_nil, Nat.reduceAdd, Nat.reduceLT, Nat.reduceLeDiff, Nat.reduceEqDiff, Nat.reduceSub, Nat.zero_add, Nat.add_zero, List.drop_succ_cons, List.drop_zero, List.take_succ_cons, List.take_zero]
        · have hA' : A = (rs.length : Int) + 1 := by simpa [hf] using hA.symm
          subst hA'
          have d2 : decide (freeFrom rs 0 > 0) = false := by simpa using hf
          by_cases hm : (rs.length : Int) + 1 > 60
          · have d1 : decide ((rs.length : Int) + 1 > 60) = true := by simpa using hm
            simp only [hm, if_true]
            (refine run_fn T50 ⟨rfl, by decide⟩ ?_; rw [start50])
            simp (config := {decide := true, contextual := true, maxSteps := 3000000}) only [F50, h45, h100, h108, h109, w0, d1, d2, List.length_map, List.replicate, ↓simPre, simPost, Bool.not_not, Bool.not_false, Bool.not_true, Bool.false_eq_true, reduceCtorEq, ↓reduceIte, decide_true, decide_false, splice, results, resT, resTs, AV.key, Bool.and_true, Bool.true_and, and_true, true_and, and_self, List.flatMap_nil, List.flatMap_cons, List.append_nil, List.nil_append, List.cons_append, List.map_cons, List.map_nil, List.all_cons, List.all_nil, List.length_cons, List.length_nil, Nat.reduceAdd, Nat.reduceLT, Nat.reduceLeDiff, Nat.reduceEqDiff, Nat.reduceSub, Nat.zero_add, Nat.add_zero, List.drop_succ_cons, List.drop_zero, List.take_succ_cons, List.take_zero]
          · have d1 : decide ((rs.length : Int) + 1 > 60) = false := by simpa using hm
            simp only [hm, if_false]
            (refine run_fn T50 ⟨rfl, by decide⟩ ?_; rw [start50])
            simp (config := {decide := true, contextual := true, maxSteps := 3000000}) only [F50, h45, h100, h108, h109, w0, d1, d2, List.length_map, List.replicate, ↓simPre, simPost, Bool.not_not, Bool.not_false, Bool.not_true, Bool.false_eq_true, reduceCtorEq, ↓reduceIte, decide_true, decide_false, splice, results, resT, resTs, AV.key, Bool.and_true, Bool.true_and, and_true, true_and, and_self, List.flatMap_nil, List.flatMap_cons, List.append_nil, List.nil_append, List.cons_append, List.map_cons, List.map_nil, List.all_cons, List.all_nil, List.length_cons, List.length_nil, Nat.reduceAdd, Nat.reduceLT, Nat.reduceLeDiff, Nat.reduceEqDiff, Nat.reduceSub, Nat.zero_add, Nat.add_zero, List.drop_succ_cons, List.drop_zero, List.take_succ_cons, List.take_zero]
    · have hX' : (X != 0) = true := by simpa using hX
      simp only [hX', if_true, bne_self_eq_false, Bool.false_eq_true, if_false]
      (refine run_fn T50 ⟨rfl, by decide⟩ ?_; rw [start50])
      simp (config := {decide := true, contextual := true, maxSteps := 3000000}) only [F50, h45, h100, hX', List.length_map, List.replicate, ↓simPre, simPost, Bool.not_not, Bool.not_false, Bool.not_true, Bool.false_eq_true, reduceCtorEq, ↓reduceIte, decide_true, decide_false, splice, results, resT, resTs, AV.key, Bool.and_true, Bool.true_and, and_true, true_and, and_self, List.flatMap_nil, List.flatMap_cons, List.append_nil, List.nil_append, List.cons_append, List.map_cons, List.map_nil, List.all_cons, List.all_nil, List.length_cons, List.length_nil, Nat.reduceAdd, Nat.reduceLT, Nat.reduceLeDiff, Nat.reduceEqDiff, Nat.reduceSub, Nat.zero_add, Nat.add_zero, List.drop_succ_cons, List.drop_zero, List.take_succ_cons, List.take_zero]
  · have hE' : (E != 0) = true := by simpa using hE
    simp only [hE', if_true]
    (refine run_fn T50 ⟨rfl, by decide⟩ ?_; rw [start50])
    simp (config := {decide := true, contextual := true, maxSteps := 3000000}) only [F50, h45, hE', List.length_map, List.replicate, ↓simPre, simPost, Bool.not_not, Bool.not_false, Bool.not_true, Bool.false_eq_true, reduceCtorEq, ↓reduceIte, decide_true, decide_false, splice, results, resT, resTs, AV.key, Bool.and_true, Bool.true_and, and_true, true_and, and_self, List.flatMap_nil, List.flatMap_cons, List.append_nil, List.nil_append, List.cons_append, List.map_cons, List.map_nil, List.all_cons, List.all_nil, List.length_cons, List.length_nil, Nat.reduceAdd, Nat.reduceLT, Nat.reduceLeDiff, Nat.reduceEqDiff, Nat.reduceSub, Nat.zero_add, Nat.add_zero, List.drop_succ_cons, List.drop_zero, List.take_succ_cons, List.take_zero]
end
end Go.Bv
