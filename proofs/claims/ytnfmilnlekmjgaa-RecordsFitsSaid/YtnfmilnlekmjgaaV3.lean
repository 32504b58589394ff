/- BY VALUE, chapter 26: the reference of changes; reverses. -/
import Derived.Test.YtnfmilnlekmjgaaV1
import Derived.Test.YtnfmilnlekmjgaaU5
set_option linter.unusedSimpArgs false
set_option linter.unusedVariables false
namespace Go.Bv
variable {S : RT}
attribute [local congr] ite_congr congr_bindOps congr_bindC congr_andThen congr_orNone congr_onBool congr_onEff congr_headC
set_option maxRecDepth 100000
set_option maxHeartbeats 40000000
theorem effT_und : effT .und = some false := _root_.id rfl
theorem effF_und : effF .und = some false := _root_.id rfl
theorem there_del {rs : List (Bool × ByteArray)} {i : Int} (h1 : 1 ≤ i) (h2 : i ≤ (rs.length : Int) + 1) : isThere rs i = !(decide (i = (rs.length : Int) + 1) || isDel rs i) := by
  unfold isThere
  by_cases h : i = (rs.length : Int) + 1
  · have d1 : decide (i ≤ (rs.length : Int)) = false := by simp; omega
    rw [d1]; simp [h]
  · have d1 : decide (i ≤ (rs.length : Int)) = true := by simp; omega
    have d2 : decide (1 ≤ i) = true := by simpa using h1
    simp [h, d1, d2]
section
variable {E : Int} {fn n : ByteArray} {l : List Fd} {rs : List (Bool × ByteArray)} {cf : ByteArray} {ck cr : Int} {cb ca : ByteArray}
theorem ch1 (h : E ≠ 0) : changeE E fn n l rs ⟨cf, ck, cr, cb, ca⟩ = E := by simp [changeE, headE, first, h]
theorem ch2 (h : (cf.toList == fn.toList) = false) : changeE 0 fn n l rs ⟨cf, ck, cr, cb, ca⟩ = 11 := by simp [changeE, headE, first, cond, h]
theorem ch3 (h : (cf.toList == fn.toList) = true) (h1 : ¬ (0 ≤ ck ∧ ck ≤ 2)) : changeE 0 fn n l rs ⟨cf, ck, cr, cb, ca⟩ = 4 := by
  have : (decide (ck < 0) || decide (ck ≥ 3)) = true := by simp; omega
  simp only [changeE, headE, first, cond, h, this]; rfl
theorem ch4 (h : (cf.toList == fn.toList) = true) (h1 : 0 ≤ ck ∧ ck ≤ 2) (h2 : ¬ (1 ≤ cr ∧ cr ≤ (rs.length : Int) + if ck = 0 then 1 else 0)) : changeE 0 fn n l rs ⟨cf, ck, cr, cb, ca⟩ = 3 := by
  have e1 : (decide (ck < 0) || decide (ck ≥ 3)) = false := by simp; omega
  have e2 : (decide (cr < 1) || decide (cr > (if ck = 0 then (rs.length : Int) + 1 else rs.length))) = true := by
    simp only [Bool.or_eq_true, decide_eq_true_eq]
    split at h2 <;> rename_i hk <;> simp only [hk, if_true, if_false] <;> omega
  simp only [changeE, headE, first, cond, h, e1, e2]; rfl
theorem ch_head (h : (cf.toList == fn.toList) = true) (h1 : 0 ≤ ck ∧ ck ≤ 2) (h2 : 1 ≤ cr ∧ cr ≤ (rs.length : Int) + if ck = 0 then 1 else 0) : headE 0 fn rs ⟨cf, ck, cr, cb, ca⟩ = if formE ⟨cf, ck, cr, cb, ca⟩ = true then 5 else 0 := by
  have e1 : (decide (ck < 0) || decide (ck ≥ 3)) = false := by simp; omega
  have e2 : (decide (cr < 1) || decide (cr > (if ck = 0 then (rs.length : Int) + 1 else rs.length))) = false := by
    simp only [Bool.or_eq_false_iff, decide_eq_false_iff_not]
    split at h2 <;> rename_i hk <;> simp only [hk, if_true, if_false] <;> omega
  simp only [headE, first, cond, h, e1, e2]
  cases formE ⟨cf, ck, cr, cb, ca⟩ <;> rfl
theorem ch5 (h : (cf.toList == fn.toList) = true) (h1 : 0 ≤ ck ∧ ck ≤ 2) (h2 : 1 ≤ cr ∧ cr ≤ (rs.length : Int) + if ck = 0 then 1 else 0) (h3 : formE ⟨cf, ck, cr, cb, ca⟩ = true) : changeE 0 fn n l rs ⟨cf, ck, cr, cb, ca⟩ = 5 := by
  unfold changeE; rw [ch_head h h1 h2, h3]; rfl
theorem ch6 (h : (cf.toList == fn.toList) = true) (h1 : 0 ≤ ck ∧ ck ≤ 2) (h2 : 1 ≤ cr ∧ cr ≤ (rs.length : Int) + if ck = 0 then 1 else 0) (h3 : formE ⟨cf, ck, cr, cb, ca⟩ = false) :
    changeE 0 fn n l rs ⟨cf, ck, cr, cb, ca⟩ = if (placeErr rs ⟨cf, ck, cr, cb, ca⟩ != 0 || ck == 2) = true then placeErr rs ⟨cf, ck, cr, cb, ca⟩ else (bytesErr n l ca).2 := by
  unfold changeE; rw [ch_head h h1 h2, h3]; rfl
theorem pl0 (h2 : 1 ≤ cr ∧ cr ≤ (rs.length : Int) + 1) : placeErr rs ⟨cf, 0, cr, cb, ca⟩ = if isThere rs cr = true then 12 else if decide (cr > 60) = true then 30 else 0 := by
  rw [there_del h2.1 h2.2]
  simp only [placeErr, if_true, first, cond]
  cases (decide (cr = (rs.length : Int) + 1) || isDel rs cr) <;> cases decide (cr > 60) <;> rfl
theorem pl0' (hk : ck = 0) (h2 : 1 ≤ cr ∧ cr ≤ (rs.length : Int) + 1) : placeErr rs ⟨cf, ck, cr, cb, ca⟩ = if isThere rs cr = true then 12 else if decide (cr > 60) = true then 30 else 0 := by
  subst hk; exact pl0 h2
theorem plk (hk : ck ≠ 0) (h2 : 1 ≤ cr ∧ cr ≤ (rs.length : Int)) : placeErr rs ⟨cf, ck, cr, cb, ca⟩ = if (!isThere rs cr) = true then 11 else if (!((rs.getD (cr - 1).toNat (false, bs [])).2.toList == cb.toList)) = true then 15 else 0 := by
  rw [there_del h2.1 (by omega)]
  simp only [placeErr, if_neg hk, cond, Bool.not_not]
end
def revK (k : Int) : Int := if (k == 0) = true then 2 else if (k == 2) = true then 0 else k
def revC (c : Ch) : Ch := ⟨c.file, revK c.kind, c.rrn, c.after, c.before⟩
theorem run63 (c : Ch) : run T S 63 [.agg (encC c)] = some (.agg (encC (revC c))) := by
  obtain ⟨cf, ck, cr, cb, ca⟩ := c
  simp only [encC, revC, revK]
  cases h0 : (ck == 0) with
  | true =>
    (refine run_fn T63 ⟨rfl, by decide⟩ ?_; rw [start63])
    simp (config := {decide := true, contextual := true, maxSteps := 3000000}) only [F63, h0, List.replicate, ↓simPre, simPost, Bool.not_not, Bool.not_false, Bool.not_true, Bool.false_eq_true, reduceCtorEq, ↓reduceIte, decide_true, decide_false, splice, results, resT, resTs, AV.key, Bool.and_true, Bool.true_and, and_true, true_and, and_self, List.flatMap_nil, List.flatMap_cons, List.append_nil, List.nil_append, List.cons_append, List.map_cons, List.map_nil, List.all_cons, List.all_nil, List.length_cons, List.length_nil, Nat.reduceAdd, Nat.reduceLT, Nat.reduceLeDiff, Nat.reduceEqDiff, Nat.reduceSub, Nat.zero_add, Nat.add_zero, List.drop_succ_cons, List.drop_zero, List.take_succ_cons, List.take_zero]
  | false =>
    cases h2 : (ck == 2) with
    | true =>
      (refine run_fn T63 ⟨rfl, by decide⟩ ?_; rw [start63])
      simp (config := {decide := true, contextual := true, maxSteps := 3000000}) only [F63, h0, h2, List.replicate, ↓simPre, simPost, Bool.not_not, Bool.not_false, Bool.not_true, Bool.false_eq_true, reduceCtorEq, ↓reduceIte, decide_true, decide_false, splice, results, resT, resTs, AV.key, Bool.and_true, Bool.true_and, and_true, true_and, and_self, List.flatMap_nil, List.flatMap_cons, List.append_nil, List.nil_append, List.cons_append, List.map_cons, List.map_nil, List.all_cons, List.all_nil, List.length_cons, List.length_nil, Nat.reduceAdd, Nat.reduceLT, Nat.reduceLeDiff, Nat.reduceEqDiff, Nat.reduceSub, Nat.zero_add, Nat.add_zero, List.drop_succ_cons, List.drop_zero, List.take_succ_cons, List.take_zero]
    | false =>
      (refine run_fn T63 ⟨rfl, by decide⟩ ?_; rw [start63])
      simp (config := {decide := true, contextual := true, maxSteps := 3000000}) only [F63, h0, h2, List.replicate, ↓simPre, simPost, Bool.not_not, Bool.not_false, Bool.not_true, Bool.false_eq_true, reduceCtorEq, ↓reduceIte, decide_true, decide_false, splice, results, resT, resTs, AV.key, Bool.and_true, Bool.true_and, and_true, true_and, and_self, List.flatMap_nil, List.flatMap_cons, List.append_nil, List.nil_append, List.cons_append, List.map_cons, List.map_nil, List.all_cons, List.all_nil, List.length_cons, List.length_nil, Nat.reduceAdd, Nat.reduceLT, Nat.reduceLeDiff, Nat.reduceEqDiff, Nat.reduceSub, Nat.zero_add, Nat.add_zero, List.drop_succ_cons, List.drop_zero, List.take_succ_cons, List.take_zero]
theorem run61 (c : Ch) : run T S 61 [.agg (encC c)] = some (if (decide (0 ≤ c.kind) && decide (c.kind ≤ 2)) = true then .tup [.agg (encC (revC c)), .int .i64 0] else .tup [.agg [.str (bs []), .int .i64 0, .int .i64 0, .str (bs []), .str (bs [])], .int .i64 4]) := by
  obtain ⟨cf, ck, cr, cb, ca⟩ := c
  simp only [encC, revC, revK]
  by_cases k0 : ck = 0
  · subst k0
    (refine run_fn T61 ⟨rfl, by decide⟩ ?_; rw [start61])
    simp (config := {decide := true, contextual := true, maxSteps := 3000000}) only [F61, List.replicate, ↓simPre, simPost, Bool.not_not, Bool.not_false, Bool.not_true, Bool.false_eq_true, reduceCtorEq, ↓reduceIte, decide_true, decide_false, splice, results, resT, resTs, AV.key, Bool.and_true, Bool.true_and, and_true, true_and, and_self, List.flatMap_nil, List.flatMap_cons, List.append_nil, List.nil_append, List.cons_append, List.map_cons, List.map_nil, List.all_cons, List.all_nil, List.length_cons, List.length_nil, Nat.reduceAdd, Nat.reduceLT, Nat.reduceLeDiff, Nat.reduceEqDiff, Nat.reduceSub, Nat.zero_add, Nat.add_zero, List.drop_succ_cons, List.drop_zero, List.take_succ_cons, List.take_zero]
  by_cases k2 : ck = 2
  · subst k2
    (refine run_fn T61 ⟨rfl, by decide⟩ ?_; rw [start61])
    simp (config := {decide := true, contextual := true, maxSteps := 3000000}) only [F61, List.replicate, ↓simPre, simPost, Bool.not_not, Bool.not_false, Bool.not_true, Bool.false_eq_true, reduceCtorEq, ↓reduceIte, decide_true, decide_false, splice, results, resT, resTs, AV.key, Bool.and_true, Bool.true_and, and_true, true_and, and_self, List.flatMap_nil, List.flatMap_cons, List.append_nil, List.nil_append, List.cons_append, List.map_cons, List.map_nil, List.all_cons, List.all_nil, List.length_cons, List.length_nil, Nat.reduceAdd, Nat.reduceLT, Nat.reduceLeDiff, Nat.reduceEqDiff, Nat.reduceSub, Nat.zero_add, Nat.add_zero, List.drop_succ_cons, List.drop_zero, List.take_succ_cons, List.take_zero]
  by_cases k1 : ck = 1
  · subst k1
    (refine run_fn T61 ⟨rfl, by decide⟩ ?_; rw [start61])
    simp (config := {decide := true, contextual := true, maxSteps := 3000000}) only [F61, List.replicate, ↓simPre, simPost, Bool.not_not, Bool.not_false, Bool.not_true, Bool.false_eq_true, reduceCtorEq, ↓reduceIte, decide_true, decide_false, splice, results, resT, resTs, AV.key, Bool.and_true, Bool.true_and, and_true, true_and, and_self, List.flatMap_nil, List.flatMap_cons, List.append_nil, List.nil_append, List.cons_append, List.map_cons, List.map_nil, List.all_cons, List.all_nil, List.length_cons, List.length_nil, Nat.reduceAdd, Nat.reduceLT, Nat.reduceLeDiff, Nat.reduceEqDiff, Nat.reduceSub, Nat.zero_add, Nat.add_zero, List.drop_succ_cons, List.drop_zero, List.take_succ_cons, List.take_zero]
  have e0 : (ck == 0) = false := by simpa using k0
  have e1 : (ck == 1) = false := by simpa using k1
  have e2 : (ck == 2) = false := by simpa using k2
  have e3 : (decide (0 ≤ ck) && decide (ck ≤ 2)) = false := by rw [Bool.and_eq_false_iff]; simp; omega
  simp only [e3, Bool.false_eq_true, if_false]
  (refine run_fn T61 ⟨rfl, by decide⟩ ?_; rw [start61])
  simp (config := {decide := true, contextual := true, maxSteps := 3000000}) only [F61, e0, e1, e2, List.replicate, ↓simPre, simPost, Bool.not_not, Bool.not_false, Bool.not_true, Bool.false_eq_true, reduceCtorEq, ↓reduceIte, decide_true, decide_false, splice, results, resT, resTs, AV.key, Bool.and_true, Bool.true_and, and_true, true_and, and_self, List.flatMap_nil, List.flatMap_cons, List.append_nil, List.nil_append, List.cons_append, List.map_cons, List.map_nil, List.all_cons, List.all_nil, List.length_cons, List.length_nil, Nat.reduceAdd, Nat.reduceLT, Nat.reduceLeDiff, Nat.reduceEqDiff, Nat.reduceSub, Nat.zero_add, Nat.add_zero, List.drop_succ_cons, List.drop_zero, List.take_succ_cons, List.take_zero]
end Go.Bv
