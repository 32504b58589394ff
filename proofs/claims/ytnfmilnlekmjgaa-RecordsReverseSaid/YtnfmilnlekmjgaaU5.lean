/- BY VALUE, chapter 26: fewChange, placeErr, CheckChange, Changed. -/
import Derived.Test.YtnfmilnlekmjgaaU4
set_option linter.unusedSimpArgs false
set_option linter.unusedVariables false
namespace Go.Bv
variable {S : RT}
attribute [local congr] ite_congr congr_bindOps congr_bindC congr_andThen congr_orNone congr_onBool congr_onEff congr_headC
set_option maxRecDepth 100000
set_option maxHeartbeats 40000000
/-- A change. -/
structure Ch where
  file : ByteArray
  kind : Int
  rrn : Int
  before : ByteArray
  after : ByteArray
abbrev encC (c : Ch) : List AV := [.str c.file, .int .i64 c.kind, .int .i64 c.rrn, .str c.before, .str c.after]
def fewChange (c : Ch) : Bool := decide ((c.file.size : Int) ≤ 100) && (decide ((c.before.size : Int) ≤ 700) && decide ((c.after.size : Int) ≤ 700))
theorem run57 (c : Ch) : run T S 57 [.agg (encC c)] = some (.bool (fewChange c)) := by
  unfold fewChange
  simp only [encC]
  by_cases h1 : (c.file.size : Int) ≤ 100
  · by_cases h2 : (c.before.size : Int) ≤ 700
    · have d1 : decide ((c.file.size : Int) ≤ 100) = true := by simpa using h1
      have d2 : decide ((c.before.size : Int) ≤ 700) = true := by simpa using h2
      (refine run_fn T57 ⟨rfl, by decide⟩ ?_; rw [start57])
      simp (config := {decide := true, contextual := true, maxSteps := 3000000}) only [F57, d1, d2, List.replicate, ↓simPre, simPost, Bool.not_not, Bool.not_false, Bool.not_true, Bool.false_eq_true, reduceCtorEq, ↓reduceIte, decide_true, decide_false, splice, results, resT, resTs, AV.key, Bool.and_true, Bool.true_and, and_true, true_and, and_self, List.flatMap_nil, List.flatMap_cons, List.append_nil, List.nil_append, List.cons_append, List.map_cons, List.map_nil, List.all_cons, List.all_nil, List.length_cons, List.length_nil, Nat.reduceAdd, Nat.reduceLT, Nat.reduceLeDiff, Nat.reduceEqDiff, Nat.reduceSub, Nat.zero_add, Nat.add_zero, List.drop_succ_cons, List.drop_zero, List.take_succ_cons, List.take_zero]
    · have d1 : decide ((c.file.size : Int) ≤ 100) = true := by simpa using h1
      have d2 : decide ((c.before.size : Int) ≤ 700) = false := by simpa using h2
      (refine run_fn T57 ⟨rfl, by decide⟩ ?_; rw [start57])
      simp (config := {decide := true, contextual := true, maxSteps := 3000000}) only [F57, d1, d2, List.replicate, ↓simPre, simPost, Bool.not_not, Bool.not_false, Bool.not_true, Bool.false_eq_true, reduceCtorEq, ↓reduceIte, decide_true, decide_false, splice, results, resT, resTs, AV.key, Bool.and_true, Bool.true_and, and_true, true_and, and_self, List.flatMap_nil, List.flatMap_cons, List.append_nil, List.nil_append, List.cons_append, List.map_cons, List.map_nil, List.all_cons, List.all_nil, List.length_cons, List.length_nil, Nat.reduceAdd, Nat.reduceLT, Nat.reduceLeDiff, Nat.reduceEqDiff, Nat.reduceSub, Nat.zero_add, Nat.add_zero, List.drop_succ_cons, List.drop_zero, List.take_succ_cons, List.take_zero]
      rfl
  · have d1 : decide ((c.file.size : Int) ≤ 100) = false := by simpa using h1
    (refine run_fn T57 ⟨rfl, by decide⟩ ?_; rw [start57])
    simp (config := {decide := true, contextual := true, maxSteps := 3000000}) only [F57, d1, List.replicate, ↓simPre, simPost, Bool.not_not, Bool.not_false, Bool.not_true, Bool.false_eq_true, reduceCtorEq, ↓reduceIte, decide_true, decide_false, splice, results, resT, resTs, AV.key, Bool.and_true, Bool.true_and, and_true, true_and, and_self, List.flatMap_nil, List.flatMap_cons, List.append_nil, List.nil_append, List.cons_append, List.map_cons, List.map_nil, List.all_cons, List.all_nil, List.length_cons, List.length_nil, Nat.reduceAdd, Nat.reduceLT, Nat.reduceLeDiff, Nat.reduceEqDiff, Nat.reduceSub, Nat.zero_add, Nat.add_zero, List.drop_succ_cons, List.drop_zero, List.take_succ_cons, List.take_zero]
    rfl
def placeErr (rs : List (Bool × ByteArray)) (c : Ch) : Int :=
  let del : Bool := decide (c.rrn = (rs.length : Int) + 1) || isDel rs c.rrn
  if c.kind = 0 then first [cond (!del) 12, cond (decide (c.rrn > 60)) 30]
  else if del = true then 11 else cond (!((rs.getD (c.rrn - 1).toNat (false, bs [])).2.toList == c.before.toList)) 15
theorem run114 (fn n : ByteArray) (l : List Fd) (ks : List (ByteArray × Bool)) (u : Bool) (rs : List (Bool × ByteArray)) (c : Ch) (hr : rs.length ≤ 100000) (h1 : 1 ≤ c.rrn) (h2 : c.rrn ≤ (rs.length : Int) + 1) :
    run T S 114 [.agg (tabC fn n l ks u rs), .agg (encC c)] = some (.int .i64 (placeErr rs c)) := by
  obtain ⟨cf, ck, cr, cb, ca⟩ := c
  simp only at h1 h2
  unfold placeErr
  simp only [tabC, encC]
  have w0 : IntKind.wrap .i64 ((rs.length : Int) + 1) = (rs.length : Int) + 1 := wrap_i64 (by omega) (by omega)
  by_cases hb : cr = (rs.length : Int) + 1
  · have d0 : (cr == (rs.length : Int) + 1) = true := by simpa using hb
    have d00 : decide (cr = (rs.length : Int) + 1) = true := by simpa using hb
    simp only [d00, Bool.true_or]
    by_cases hk : ck = 0
    · have k1 : (ck == 0) = true := by simpa using hk
      (refine run_fn T114 ⟨rfl, by decide⟩ ?_; rw [start114])
      simp (config := {decide := true, contextual := true, maxSteps := 3000000}) only [F114, w0, d0, k1, run81, run80_2, List.length_map, List.replicate, ↓simPre, simPost, Bool.not_not, Bool.not_false, Bool.not_true, Bool.false_eq_true, reduceCtorEq, ↓reduceIte, decide_true, decide_false, splice, results, resT, resTs, AV.key, Bool.and_true, Bool.true_and, and_true, true_and, and_self, List.flatMap_nil, List.flatMap_cons, List.append_nil, List.nil_append, List.cons_append, List.map_cons, List.map_nil, List.all_cons, List.all_nil, List.length_cons, List.length_nil, Nat.reduceAdd, Nat.reduceLT, Nat.reduceLeDiff, Nat.reduceEqDiff, Nat.reduceSub, Nat.zero_add, Nat.add_zero, List.drop_succ_cons, List.drop_zero, List.take_succ_cons, List.take_zero]
      simp [hk]
    · have k1 : (ck == 0) = false := by simpa using hk
      (refine run_fn T114 ⟨rfl, by decide⟩ ?_; rw [start114])
      simp (config := {decide := true, contextual := true, maxSteps := 3000000}) only [F114, w0, d0, k1, run81, run80_2, List.length_map, List.replicate, ↓simPre, simPost, Bool.not_not, Bool.not_false, Bool.not_true, Bool.false_eq_true, reduceCtorEq, ↓reduceIte, decide_true, decide_false, splice, results, resT, resTs, AV.key, Bool.and_true, Bool.true_and, and_true, true_and, and_self, List.flatMap_nil, List.flatMap_cons, List.append_nil, List.nil_append, List.cons_append, List.map_cons, List.map_nil, List.all_cons, List.all_nil, List.length_cons, List.length_nil, Nat.reduceAdd, Nat.reduceLT, Nat.reduceLeDiff, Nat.reduceEqDiff, Nat.reduceSub, Nat.zero_add, Nat.add_zero, List.drop_succ_cons, List.drop_zero, List.take_succ_cons, List.take_zero]
      simp [hk]
  · have d0 : (cr == (rs.length : Int) + 1) = false := by simpa using hb
    have d00 : decide (cr = (rs.length : Int) + 1) = false := by simpa using hb
    have w1 : IntKind.wrap .i64 (cr - 1) = ((cr - 1).toNat : Int) := by rw [wrap_i64 (by omega) (by omega)]; omega
    obtain ⟨i1, i2, i4, i5⟩ := idx (i := (cr - 1).toNat) (n := rs.length) (by omega) (by omega)
    have i3 := map_get encR rs (cr - 1).toNat (false, bs []) (by omega)
    simp only [encR] at i3
    simp only [d00, Bool.false_or, isDel]
    by_cases hk : ck = 0
    · have k1 : (ck == 0) = true := by simpa using hk
      (refine run_fn T114 ⟨rfl, by decide⟩ ?_; rw [start114])
      simp (config := {decide := true, contextual := true, maxSteps := 3000000}) only [F114, w0, w1, d0, k1, i1, i2, i3, i4, run81, run80_2, List.length_map, List.replicate, ↓simPre, simPost, Bool.not_not, Bool.not_false, Bool.not_true, Bool.false_eq_true, reduceCtorEq, ↓reduceIte, decide_true, decide_false, splice, results, resT, resTs, AV.key, Bool.and_true, Bool.true_and, and_true, true_and, and_self, List.flatMap_nil, List.flatMap_cons, List.append_nil, List.nil_append, List.cons_append, List.map_cons, List.map_nil, List.all_cons, List.all_nil, List.length_cons, List.length_nil, Nat.reduceAdd, Nat.reduceLT, Nat.reduceLeDiff, Nat.reduceEqDiff, Nat.reduceSub, Nat.zero_add, Nat.add_zero, List.drop_succ_cons, List.drop_zero, List.take_succ_cons, List.take_zero]
      simp [hk]
    · have k1 : (ck == 0) = false := by simpa using hk
      rw [if_neg hk]
      by_cases hd : (rs.getD (cr - 1).toNat (false, bs [])).1 = true
      · (refine run_fn T114 ⟨rfl, by decide⟩ ?_; rw [start114])
        simp (config := {decide := true, contextual := true, maxSteps := 3000000}) only [F114, w0, w1, d0, k1, i1, i2, i3, i4, hd, run81, run80_2, List.length_map, List.replicate, ↓simPre, simPost, Bool.not_not, Bool.not_false, Bool.not_true, Bool.false_eq_true, reduceCtorEq, ↓reduceIte, decide_true, decide_false, splice, results, resT, resTs, AV.key, Bool.and_true, Bool.true_and, and_true, true_and, and_self, List.flatMap_nil, List.flatMap_cons, List.append_nil, List.nil_append, List.cons_append, List.map_cons, List.map_nil, List.all_cons, List.all_nil, List.length_cons, List.length_nil, Nat.reduceAdd, Nat.reduceLT, Nat.reduceLeDiff, Nat.reduceEqDiff, Nat.reduceSub, Nat.zero_add, Nat.add_zero, List.drop_succ_cons, List.drop_zero, List.take_succ_cons, List.take_zero]
      · have hd' : (rs.getD (cr - 1).toNat (false, bs [])).1 = false := by simpa using hd
        (refine run_fn T114 ⟨rfl, by decide⟩ ?_; rw [start114])
        simp (config := {decide := true, contextual := true, maxSteps := 3000000}) only [F114, w0, w1, d0, k1, i1, i2, i3, i4, hd', run81, run80_2, List.length_map, List.replicate, ↓simPre, simPost, Bool.not_not, Bool.not_false, Bool.not_true, Bool.false_eq_true, reduceCtorEq, ↓reduceIte, decide_true, decide_false, splice, results, resT, resTs, AV.key, Bool.and_true, Bool.true_and, and_true, true_and, and_self, List.flatMap_nil, List.flatMap_cons, List.append_nil, List.nil_append, List.cons_append, List.map_cons, List.map_nil, List.all_cons, List.all_nil, List.length_cons, List.length_nil, Nat.reduceAdd, Nat.reduceLT, Nat.reduceLeDiff, Nat.reduceEqDiff, Nat.reduceSub, Nat.zero_add, Nat.add_zero, List.drop_succ_cons, List.drop_zero, List.take_succ_cons, List.take_zero]
end Go.Bv
