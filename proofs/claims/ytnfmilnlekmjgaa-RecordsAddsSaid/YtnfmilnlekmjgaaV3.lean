/- BY VALUE, chapter 26: the reference of changes; reverses. -/
import Derived.Test.YtnfmilnlekmjgaaV1
import Derived.Test.YtnfmilnlekmjgaaU8
import Derived.Test.YtnfmilnlekmjgaaV2
set_option linter.unusedSimpArgs false
set_option linter.unusedVariables false
namespace Go.Bv
variable {S : RT}
attribute [local congr] ite_congr congr_bindOps congr_bindC congr_andThen congr_orNone congr_onBool congr_onEff congr_headC
set_option maxRecDepth 100000
set_option maxHeartbeats 40000000
theorem there_del {rs : List (Bool × ByteArray)} {i : Int} (h1 : 1 ≤ i) (h2 : i ≤ (rs.length : Int) + 1) : isThere rs i = !(decide (i = (rs.length : Int) + 1) || isDel rs i) := by
  unfold isThere
  by_cases h : i = (rs.length : Int) + 1
  · have d1 : decide (i ≤ (rs.length : Int)) = false := by simp; omega
    rw [d1]; simp [h]
  · have d1 : decide (i ≤ (rs.length : Int)) = true := by simp; omega
    have d2 : decide (1 ≤ i) = true := by simpa using h1
    simp [h, d1, d2]
section
variable {E : Int} {fn n : ByteArray} {l : List Fd} {rs : List (Bool × ByteArray)} {cf : ByteArray} {ck cr : Int} {cb ca : ByteArray}
theorem ch1 (h : E ≠ 0) : changeE E fn n l rs ⟨cf, ck, cr, cb, ca⟩ = E := by simp [changeE, headE, first, h]
theorem ch2 (h : (cf.toList == fn.toList) = false) : changeE 0 fn n l rs ⟨cf, ck, cr, cb, ca⟩ = 11 := by simp [changeE, headE, first, cond, h]
theorem ch3 (h : (cf.toList == fn.toList) = true) (h1 : ¬ (0 ≤ ck ∧ ck ≤ 2)) : changeE 0 fn n l rs ⟨cf, ck, cr, cb, ca⟩ = 4 := by
  have : (decide (ck < 0) || decide (ck ≥ 3)) = true := by simp; omega
  simp only [changeE, headE, first, cond, h, this]; rfl
theorem ch4 (h : (cf.toList == fn.toList) = true) (h1 : 0 ≤ ck ∧ ck ≤ 2) (h2 : ¬ (1 ≤ cr ∧ cr ≤ (rs.length : Int) + if ck = 0 then 1 else 0)) : changeE 0 fn n l rs ⟨cf, ck, cr, cb, ca⟩ = 3 := by
  have e1 : (decide (ck < 0) || decide (ck ≥ 3)) = false := by simp; omega
  have e2 : (decide (cr < 1) || decide (cr > (if ck = 0 then (rs.length : Int) + 1 else rs.length))) = true := by
    simp only [Bool.or_eq_true, decide_eq_true_eq]
    split at h2 <;> rename_i hk <;> simp only [hk, if_true, if_false] <;> omega
  simp only [changeE, headE, first, cond, h, e1, e2]; rfl
theorem ch_head (h : (cf.toList == fn.toList) = true) (h1 : 0 ≤ ck ∧ ck ≤ 2) (h2 : 1 ≤ cr ∧ cr ≤ (rs.length : Int) + if ck = 0 then 1 else 0) : headE 0 fn rs ⟨cf, ck, cr, cb, ca⟩ = if formE ⟨cf, ck, cr, cb, ca⟩ = true then 5 else 0 := by
  have e1 : (decide (ck < 0) || decide (ck ≥ 3)) = false := by simp; omega
  have e2 : (decide (cr < 1) || decide (cr > (if ck = 0 then (rs.length : Int) + 1 else rs.length))) = false := by
    simp only [Bool.or_eq_false_iff, decide_eq_false_iff_not]
    split at h2 <;> rename_i hk <;> simp only [hk, if_true, if_false] <;> omega
  simp only [headE, first, cond, h, e1, e2]
  cases formE ⟨cf, ck, cr, cb, ca⟩ <;> rfl
theorem ch5 (h : (cf.toList == fn.toList) = true) (h1 : 0 ≤ ck ∧ ck ≤ 2) (h2 : 1 ≤ cr ∧ cr ≤ (rs.length : Int) + if ck = 0 then 1 else 0) (h3 : formE ⟨cf, ck, cr, cb, ca⟩ = true) : changeE 0 fn n l rs ⟨cf, ck, cr, cb, ca⟩ = 5 := by
  unfold changeE; rw [ch_head h h1 h2, h3]; rfl
theorem ch6 (h : (cf.toList == fn.toList) = true) (h1 : 0 ≤ ck ∧ ck ≤ 2) (h2 : 1 ≤ cr ∧ cr ≤ (rs.length : Int) + if ck = 0 then 1 else 0) (h3 : formE ⟨cf, ck, cr, cb, ca⟩ = false) :
    changeE 0 fn n l rs ⟨cf, ck, cr, cb, ca⟩ = if (placeErr rs ⟨cf, ck, cr, cb, ca⟩ != 0 || ck == 2) = true then placeErr rs ⟨cf, ck, cr, cb, ca⟩ else (bytesErr n l ca).2 := by
  unfold changeE; rw [ch_head h h1 h2, h3]; rfl
theorem pl0 (h2 : 1 ≤ cr ∧ cr ≤ (rs.length : Int) + 1) : placeErr rs ⟨cf, 0, cr, cb, ca⟩ = if isThere rs cr = true then 12 else if decide (cr > 60) = true then 30 else 0 := by
  rw [there_del h2.1 h2.2]
  simp only [placeErr, if_true, first, cond]
  cases (decide (cr = (rs.length : Int) + 1) || isDel rs cr) <;> cases decide (cr > 60) <;> rfl
theorem plk (hk : ck ≠ 0) (h2 : 1 ≤ cr ∧ cr ≤ (rs.length : Int)) : placeErr rs ⟨cf, ck, cr, cb, ca⟩ = if (!isThere rs cr) = true then 11 else if (!((rs.getD (cr - 1).toNat (false, bs [])).2.toList == cb.toList)) = true then 15 else 0 := by
  rw [there_del h2.1 (by omega)]
  simp only [placeErr, if_neg hk, cond, Bool.not_not]
end
def revK (k : Int) : Int := if (k == 0) = true then 2 else if (k == 2) = true then 0 else k
def revC (c : Ch) : Ch := ⟨c.file, revK c.kind, c.rrn, c.after, c.before⟩
theorem run63 (c : Ch) : run T S 63 [.agg (encC c)] = some (.agg (encC (revC c))) := by
  obtain ⟨cf, ck, cr, cb, ca⟩ := c
  simp only [encC, revC, revK]
  cases h0 : (ck == 0) with
  | true =>
    (refine run_fn T63 ⟨rfl, by decide⟩ ?_; rw [start63])
    simp (config := {decide := true, contextual := true, maxSteps := 3000000}) only [F63, h0, List.replicate, ↓simPre, simPost, Bool.not_not, Bool.not_false, Bool.not_true, Bool.false_eq_true, reduceCtorEq, ↓reduceIte, decide_true, decide_false, splice, results, resT, resTs, AV.key, Bool.and_true, Bool.true_and, and_true, true_and, and_self, List.flatMap_nil, List.flatMap_cons, List.append_nil, List.nil_append, List.cons_append, List.map_cons, List.map_nil, List.all_cons, List.all_nil, List.length_cons, List.length_nil, Nat.reduceAdd, Nat.reduceLT, Nat.reduceLeDiff, Nat.reduceEqDiff, Nat.reduceSub, Nat.zero_add, Nat.add_zero, List.drop_succ_cons, List.drop_zero, List.take_succ_cons, List.take_zero]
  | false =>
    cases h2 : (ck == 2) with
    | true =>
      (refine run_fn T63 ⟨rfl, by decide⟩ ?_; rw [start63])
      simp (config := {decide := true, contextual := true, maxSteps := 3000000}) only [F63, h0, h2, List.replicate, ↓simPre, simPost, Bool.not_not, Bool.not_false, Bool.not_true, Bool.false_eq_true, reduceCtorEq, ↓reduceIte, decide_true, decide_false, splice, results, resT, resTs, AV.key, Bool.and_true, Bool.true_and, and_true, true_and, and_self, List.flatMap_nil, List.flatMap_cons, List.append_nil, List.nil_append, List.cons_append, List.map_cons, List.map_nil, List.all_cons, List.all_nil, List.length_cons, List.length_nil, Nat.reduceAdd, Nat.reduceLT, Nat.reduceLeDiff, Nat.reduceEqDiff, Nat.reduceSub, Nat.zero_add, Nat.add_zero, List.drop_succ_cons, List.drop_zero, List.take_succ_cons, List.take_zero]
    | false =>
      (refine run_fn T63 ⟨rfl, by decide⟩ ?_; rw [start63])
      simp (config := {decide := true, contextual := true, maxSteps := 3000000}) only [F63, h0, h2, List.replicate, ↓simPre, simPost, Bool.not_not, Bool.not_false, Bool.not_true, Bool.false_eq_true, reduceCtorEq, ↓reduceIte, decide_true, decide_false, splice, results, resT, resTs, AV.key, Bool.and_true, Bool.true_and, and_true, true_and, and_self, List.flatMap_nil, List.flatMap_cons, List.append_nil, List.nil_append, List.cons_append, List.map_cons, List.map_nil, List.all_cons, List.all_nil, List.length_cons, List.length_nil, Nat.reduceAdd, Nat.reduceLT, Nat.reduceLeDiff, Nat.reduceEqDiff, Nat.reduceSub, Nat.zero_add, Nat.add_zero, List.drop_succ_cons, List.drop_zero, List.take_succ_cons, List.take_zero]
theorem run61 (c : Ch) : run T S 61 [.agg (encC c)] = some (if (decide (0 ≤ c.kind) && decide (c.kind ≤ 2)) = true then .tup [.agg (encC (revC c)), .int .i64 0] else .tup [.agg [.str (bs []), .int .i64 0, .int .i64 0, .str (bs []), .str (bs [])], .int .i64 4]) := by
  obtain ⟨cf, ck, cr, cb, ca⟩ := c
  simp only [encC, revC, revK]
  by_cases k0 : ck = 0
  · subst k0
    (refine run_fn T61 ⟨rfl, by decide⟩ ?_; rw [start61])
    simp (config := {decide := true, contextual := true, maxSteps := 3000000}) only [F61, List.replicate, ↓simPre, simPost, Bool.not_not, Bool.not_false, Bool.not_true, Bool.false_eq_true, reduceCtorEq, ↓reduceIte, decide_true, decide_false, splice, results, resT, resTs, AV.key, Bool.and_true, Bool.true_and, and_true, true_and, and_self, List.flatMap_nil, List.flatMap_cons, List.append_nil, List.nil_append, List.cons_append, List.map_cons, List.map_nil, List.all_cons, List.all_nil, List.length_cons, List.length_nil, Nat.reduceAdd, Nat.reduceLT, Nat.reduceLeDiff, Nat.reduceEqDiff, Nat.reduceSub, Nat.zero_add, Nat.add_zero, List.drop_succ_cons, List.drop_zero, List.take_succ_cons, List.take_zero]
  by_cases k2 : ck = 2
  · subst k2
    (refine run_fn T61 ⟨rfl, by decide⟩ ?_; rw [start61])
    simp (config := {decide := true, contextual := true, maxSteps := 3000000}) only [F61, List.replicate, ↓simPre, simPost, Bool.not_not, Bool.not_false, Bool.not_true, Bool.false_eq_true, reduceCtorEq, ↓reduceIte, decide_true, decide_false, splice, results, resT, resTs, AV.key, Bool.and_true, Bool.true_and, and_true, true_and, and_self, List.flatMap_nil, List.flatMap_cons, List.append_nil, List.nil_append, List.cons_append, List.map_cons, List.map_nil, List.all_cons, List.all_nil, List.length_cons, List.length_nil, Nat.reduceAdd, Nat.reduceLT, Nat.reduceLeDiff, Nat.reduceEqDiff, Nat.reduceSub, Nat.zero_add, Nat.add_zero, List.drop_succ_cons, List.drop_zero, List.take_succ_cons, List.take_zero]
  by_cases k1 : ck = 1
  · subst k1
    (refine run_fn T61 ⟨rfl, by decide⟩ ?_; rw [start61])
    simp (config := {decide := true, contextual := true, maxSteps := 3000000}) only [F61, List.replicate, ↓simPre, simPost, Bool.not_not, Bool.not_false, Bool.not_true, Bool.false_eq_true, reduceCtorEq, ↓reduceIte, decide_true, decide_false, splice, results, resT, resTs, AV.key, Bool.and_true, Bool.true_and, and_true, true_and, and_self, List.flatMap_nil, List.flatMap_cons, List.append_nil, List.nil_append, List.cons_append, List.map_cons, List.map_nil, List.all_cons, List.all_nil, List.length_cons, List.length_nil, Nat.reduceAdd, Nat.reduceLT, Nat.reduceLeDiff, Nat.reduceEqDiff, Nat.reduceSub, Nat.zero_add, Nat.add_zero, List.drop_succ_cons, List.drop_zero, List.take_succ_cons, List.take_zero]
  have e0 : (ck == 0) = false := by simpa using k0
  have e1 : (ck == 1) = false := by simpa using k1
  have e2 : (ck == 2) = false := by simpa using k2
  have e3 : (decide (0 ≤ ck) && decide (ck ≤ 2)) = false := by rw [Bool.and_eq_false_iff]; simp; omega
  simp only [e3, Bool.false_eq_true, if_false]
  (refine run_fn T61 ⟨rfl, by decide⟩ ?_; rw [start61])
  simp (config := {decide := true, contextual := true, maxSteps := 3000000}) only [F61, e0, e1, e2, List.replicate, ↓simPre, simPost, Bool.not_not, Bool.not_false, Bool.not_true, Bool.false_eq_true, reduceCtorEq, ↓reduceIte, decide_true, decide_false, splice, results, resT, resTs, AV.key, Bool.and_true, Bool.true_and, and_true, true_and, and_self, List.flatMap_nil, List.flatMap_cons, List.append_nil, List.nil_append, List.cons_append, List.map_cons, List.map_nil, List.all_cons, List.all_nil, List.length_cons, List.length_nil, Nat.reduceAdd, Nat.reduceLT, Nat.reduceLeDiff, Nat.reduceEqDiff, Nat.reduceSub, Nat.zero_add, Nat.add_zero, List.drop_succ_cons, List.drop_zero, List.take_succ_cons, List.take_zero]
end Go.Bv

/- BY VALUE, chapter 26: the functions of RecordsAdds, RecordsChanges, RecordsFits give true. -/
set_option linter.unusedSimpArgs false
set_option linter.unusedVariables false
namespace Go.Bv
attribute [local congr] ite_congr congr_bindOps congr_bindC congr_andThen congr_orNone congr_onBool congr_onEff congr_headC
set_option maxRecDepth 100000
set_option maxHeartbeats 40000000
theorem run43s {S : RT} (fn n : ByteArray) (l : List Fd) (ks : List (ByteArray × Bool)) (u : Bool) (rs : List (Bool × ByteArray)) (hl : l.length ≤ 1000000) (hk : ks.length ≤ 1000000) (hr : rs.length ≤ 1000000) :
    run T S 43 [.agg (tabC fn n l ks u rs), .agg (tabC fn n l ks u rs)] = some (.bool true) := by
  have := run43 (S := S) fn n l ks u rs fn n l ks u rs hl hk hr
  rw [sameFile_refl, sameRecs_refl] at this
  exact this
theorem run43n {S : RT} : run T S 43 [.agg noTab, .agg noTab] = some (.bool true) := run43s (bs []) (bs []) [] [] false [] (by simp) (by simp) (by simp)
theorem put_le (rs : List (Bool × ByteArray)) (i : Int) (r : Bool × ByteArray) : (put rs i r).length ≤ rs.length + 1 := by
  unfold put; split <;> simp
section
variable (fn n : ByteArray) (l : List Fd) (ks : List (ByteArray × Bool)) (u : Bool) (rs : List (Bool × ByteArray))
theorem run8 (s : ByteArray) (reuse : Bool) : run T S40 8 [.agg (tabC fn n l ks u rs), .str s, .bool reuse] = some (.bool true) := by
  have h15 := awake40
  have h36 := run36 (S := S40) fn n l ks u rs
  cases g1 : fewTable fn n l ks rs with
  | false =>
    rw [g1] at h36
    simp only [tabC] at h36 ⊢
    (refine run_fn T8 ⟨rfl, by decide⟩ ?_; rw [start8])
    simp (config := {decide := true, contextual := true, maxSteps := 3000000}) only [F8, h15, h36, List.replicate, ↓simPre, simPost, Bool.not_not, Bool.not_false, Bool.not_true, Bool.false_eq_true, reduceCtorEq, ↓reduceIte, decide_true, decide_false, splice, results, resT, resTs, AV.key, Bool.and_true, Bool.true_and, and_true, true_and, and_self, List.flatMap_nil, List.flatMap_cons, List.append_nil, List.nil_append, List.cons_append, List.map_cons, List.map_nil, List.all_cons, List.all_nil, List.length_cons, List.length_nil, Nat.reduceAdd, Nat.reduceLT, Nat.reduceLeDiff, Nat.reduceEqDiff, Nat.reduceSub, Nat.zero_add, Nat.add_zero, List.drop_succ_cons, List.drop_zero, List.take_succ_cons, List.take_zero]
  | true =>
  rw [g1] at h36
  by_cases hs : (s.size : Int) > 700
  · have d1 : decide ((s.size : Int) > 700) = true := by simpa using hs
    simp only [tabC] at h36 ⊢
    (refine run_fn T8 ⟨rfl, by decide⟩ ?_; rw [start8])
    simp (config := {decide := true, contextual := true, maxSteps := 3000000}) only [F8, h15, h36, d1, List.replicate, ↓simPre, simPost, Bool.not_not, Bool.not_false, Bool.not_true, Bool.false_eq_true, reduceCtorEq, ↓reduceIte, decide_true, decide_false, splice, results, resT, resTs, AV.key, Bool.and_true, Bool.true_and, and_true, true_and, and_self, List.flatMap_nil, List.flatMap_cons, List.append_nil, List.nil_append, List.cons_append, List.map_cons, List.map_nil, List.all_cons, List.all_nil, List.length_cons, List.length_nil, Nat.reduceAdd, Nat.reduceLT, Nat.reduceLeDiff, Nat.reduceEqDiff, Nat.reduceSub, Nat.zero_add, Nat.add_zero, List.drop_succ_cons, List.drop_zero, List.take_succ_cons, List.take_zero]
  have d1 : decide ((s.size : Int) > 700) = false := by simpa using hs
  have hsm := small_few g1
  obtain ⟨t1, t2, t3, t4, t5⟩ := few_table g1
  have h38 := run38 (S := S40) fn n l ks u rs (by have := t2.2.1; omega) (by omega) (by omega)
  have h49 := run49 fn n l ks u rs s hsm told28 told138 reuse (by omega)
  have h50 := run50 (S := S40) fn n l ks u rs s hsm reuse (by omega)
  have h43 := run43s (S := S40) fn n l ks u (put rs (addAt rs reuse) (false, s)) (by have := t2.2.1; omega) (by omega) (by have := put_le rs (addAt rs reuse) (false, s); omega)
  have h43n := run43n (S := S40)
  generalize put rs (addAt rs reuse) (false, s) = z at *
  generalize addAt rs reuse = A at *
  generalize addE fn n l ks rs s reuse = E at *
  by_cases hE : E = 0
  · have hE' : (E != 0) = false := by simpa using hE
    simp only [hE', Bool.false_eq_true, if_false] at h49 h50
    simp only [tabC, tabN, List.cons_append, List.nil_append] at h36 h38 h49 h50 h43 ⊢
    have a1 : (A == A) = true := by simp
    (refine run_fn T8 ⟨rfl, by decide⟩ ?_; rw [start8])
    simp (config := {decide := true, contextual := true, maxSteps := 3000000}) only [F8, h15, h36, d1, h38, h49, h50, h43, a1, List.length_map, List.replicate, ↓simPre, simPost, Bool.not_not, Bool.not_false, Bool.not_true, Bool.false_eq_true, reduceCtorEq, ↓reduceIte, decide_true, decide_false, splice, results, resT, resTs, AV.key, Bool.and_true, Bool.true_and, and_true, true_and, and_self, List.flatMap_nil, List.flatMap_cons, List.append_nil, List.nil_append, List.cons_append, List.map_cons, List.map_nil, List.all_cons, List.all_nil, List.length_cons, List.length_nil, Nat.reduceAdd, Nat.reduceLT, Nat.reduceLeDiff, Nat.reduceEqDiff, Nat.reduceSub, Nat.zero_add, Nat.add_zero, List.drop_succ_cons, List.drop_zero, List.take_succ_cons, List.take_zero]
  · have hE' : (E != 0) = true := by simpa using hE
    simp only [hE', if_true] at h49 h50
    simp only [tabC, tabN, List.cons_append, List.nil_append] at h36 h38 h49 h50 h43 h43n ⊢
    have a1 : (E == E) = true := by simp
    (refine run_fn T8 ⟨rfl, by decide⟩ ?_; rw [start8])
    simp (config := {decide := true, contextual := true, maxSteps := 3000000}) only [F8, h15, h36, d1, h38, h49, h50, h43n, a1, List.length_map, List.replicate, ↓simPre, simPost, Bool.not_not, Bool.not_false, Bool.not_true, Bool.false_eq_true, reduceCtorEq, ↓reduceIte, decide_true, decide_false, splice, results, resT, resTs, AV.key, Bool.and_true, Bool.true_and, and_true, true_and, and_self, List.flatMap_nil, List.flatMap_cons, List.append_nil, List.nil_append, List.cons_append, List.map_cons, List.map_nil, List.all_cons, List.all_nil, List.length_cons, List.length_nil, Nat.reduceAdd, Nat.reduceLT, Nat.reduceLeDiff, Nat.reduceEqDiff, Nat.reduceSub, Nat.zero_add, Nat.add_zero, List.drop_succ_cons, List.drop_zero, List.take_succ_cons, List.take_zero]
theorem run9 (rrn : Int) (s : ByteArray) : run T S40 9 [.agg (tabC fn n l ks u rs), .int .i64 rrn, .str s] = some (.bool true) := by
  have h15 := awake40
  have h36 := run36 (S := S40) fn n l ks u rs
  cases g1 : fewTable fn n l ks rs with
  | false =>
    rw [g1] at h36
    simp only [tabC] at h36 ⊢
    (refine run_fn T9 ⟨rfl, by decide⟩ ?_; rw [start9])
    simp (config := {decide := true, contextual := true, maxSteps := 3000000}) only [F9, h15, h36, List.replicate, ↓simPre, simPost, Bool.not_not, Bool.not_false, Bool.not_true, Bool.false_eq_true, reduceCtorEq, ↓reduceIte, decide_true, decide_false, splice, results, resT, resTs, AV.key, Bool.and_true, Bool.true_and, and_true, true_and, and_self, List.flatMap_nil, List.flatMap_cons, List.append_nil, List.nil_append, List.cons_append, List.map_cons, List.map_nil, List.all_cons, List.all_nil, List.length_cons, List.length_nil, Nat.reduceAdd, Nat.reduceLT, Nat.reduceLeDiff, Nat.reduceEqDiff, Nat.reduceSub, Nat.zero_add, Nat.add_zero, List.drop_succ_cons, List.drop_zero, List.take_succ_cons, List.take_zero]
  | true =>
  rw [g1] at h36
  by_cases hs : (s.size : Int) > 700
  · have d1 : decide ((s.size : Int) > 700) = true := by simpa using hs
    simp only [tabC] at h36 ⊢
    (refine run_fn T9 ⟨rfl, by decide⟩ ?_; rw [start9])
    simp (config := {decide := true, contextual := true, maxSteps := 3000000}) only [F9, h15, h36, d1, List.replicate, ↓simPre, simPost, Bool.not_not, Bool.not_false, Bool.not_true, Bool.false_eq_true, reduceCtorEq, ↓reduceIte, decide_true, decide_false, splice, results, resT, resTs, AV.key, Bool.and_true, Bool.true_and, and_true, true_and, and_self, List.flatMap_nil, List.flatMap_cons, List.append_nil, List.nil_append, List.cons_append, List.map_cons, List.map_nil, List.all_cons, List.all_nil, List.length_cons, List.length_nil, Nat.reduceAdd, Nat.reduceLT, Nat.reduceLeDiff, Nat.reduceEqDiff, Nat.reduceSub, Nat.zero_add, Nat.add_zero, List.drop_succ_cons, List.drop_zero, List.take_succ_cons, List.take_zero]
  have d1 : decide ((s.size : Int) > 700) = false := by simpa using hs
  have hsm := small_few g1
  obtain ⟨t1, t2, t3, t4, t5⟩ := few_table g1
  have h38 := run38 (S := S40) fn n l ks u rs (by have := t2.2.1; omega) (by omega) (by omega)
  have h51 := run51 fn n l ks u rs rrn s hsm told28 told138 (by omega)
  have h52 := run52 (S := S40) fn n l ks u rs rrn s hsm (by omega)
  have h53 := run53 fn n l ks u rs rrn hsm told28 told138
  have h54 := run54 (S := S40) fn n l ks u rs rrn hsm
  have h55 := run55 fn n l ks u rs rrn hsm told28
  have h56 := run56 (S := S40) fn n l ks u rs rrn hsm
  have h43a := run43s (S := S40) fn n l ks u (put rs rrn (false, s)) (by have := t2.2.1; omega) (by omega) (by have := put_le rs rrn (false, s); omega)
  have h43b := run43s (S := S40) fn n l ks u (put rs rrn (true, bs [])) (by have := t2.2.1; omega) (by omega) (by have := put_le rs rrn (true, bs []); omega)
  have h43n := run43n (S := S40)
  obtain ⟨rb, re, hrd⟩ : ∃ rb re, readA (thereE (checkTable fn n l ks rs).2 rs rrn) rs rrn = .tup [.str rb, .int .i64 re] := by
    unfold readA; split <;> exact ⟨_, _, rfl⟩
  rw [hrd] at h55 h56
  have b1 : (rb.toList == rb.toList) = true := by simp
  have b2 : (re == re) = true := by simp
  generalize put rs rrn (false, s) = za at *
  generalize put rs rrn (true, bs []) = zb at *
  have hU : (thereE (checkTable fn n l ks rs).2 rs rrn != 0) = true → updE fn n l ks rs rrn s = thereE (checkTable fn n l ks rs).2 rs rrn := fun hh => by unfold updE; rw [if_pos hh]
  generalize updE fn n l ks rs rrn s = U at *
  generalize thereE (checkTable fn n l ks rs).2 rs rrn = E at *
  have a1 : (E == E) = true := by simp
  have a2 : (U == U) = true := by simp
  have a7 : (U != U) = false := by simp
  by_cases hE : E = 0
  · have hE' : (E != 0) = false := by simpa using hE
    simp only [hE', Bool.false_eq_true, if_false] at h53 h54
    by_cases hX : U = 0
    · have hX' : (U != 0) = false := by simpa using hX
      simp only [hX', Bool.false_eq_true, if_false] at h51 h52
      simp only [tabC, tabN, List.cons_append, List.nil_append] at h36 h38 h51 h52 h53 h54 h55 h56 h43a h43b ⊢
      (refine run_fn T9 ⟨rfl, by decide⟩ ?_; rw [start9])
      simp (config := {decide := true, contextual := true, maxSteps := 3000000}) only [F9, h15, h36, d1, h38, h51, h52, h53, h54, h55, h56, h43a, h43b, a1, b1, b2, List.length_map, List.replicate, ↓simPre, simPost, Bool.not_not, Bool.not_false, Bool.not_true, Bool.false_eq_true, reduceCtorEq, ↓reduceIte, decide_true, decide_false, splice, results, resT, resTs, AV.key, Bool.and_true, Bool.true_and, and_true, true_and, and_self, List.flatMap_nil, List.flatMap_cons, List.append_nil, List.nil_append, List.cons_append, List.map_cons, List.map_nil, List.all_cons, List.all_nil, List.length_cons, List.length_nil, Nat.reduceAdd, Nat.reduceLT, Nat.reduceLeDiff, Nat.reduceEqDiff, Nat.reduceSub, Nat.zero_add, Nat.add_zero, List.drop_succ_cons, List.drop_zero, List.take_succ_cons, List.take_zero]
    · have hX' : (U != 0) = true := by simpa using hX
      simp only [hX', if_true] at h51 h52
      simp only [tabC, tabN, List.cons_append, List.nil_append] at h36 h38 h51 h52 h53 h54 h55 h56 h43n h43b ⊢
      (refine run_fn T9 ⟨rfl, by decide⟩ ?_; rw [start9])
      simp (config := {decide := true, contextual := true, maxSteps := 3000000}) only [F9, h15, h36, d1, h38, h51, h52, h53, h54, h55, h56, h43n, h43b, a1, a2, a7, b1, b2, List.length_map, List.replicate, ↓simPre, simPost, Bool.not_not, Bool.not_false, Bool.not_true, Bool.false_eq_true, reduceCtorEq, ↓reduceIte, decide_true, decide_false, splice, results, resT, resTs, AV.key, Bool.and_true, Bool.true_and, and_true, true_and, and_self, List.flatMap_nil, List.flatMap_cons, List.append_nil, List.nil_append, List.cons_append, List.map_cons, List.map_nil, List.all_cons, List.all_nil, List.length_cons, List.length_nil, Nat.reduceAdd, Nat.reduceLT, Nat.reduceLeDiff, Nat.reduceEqDiff, Nat.reduceSub, Nat.zero_add, Nat.add_zero, List.drop_succ_cons, List.drop_zero, List.take_succ_cons, List.take_zero]
  · have hE' : (E != 0) = true := by simpa using hE
    have hUE := hU hE'
    subst hUE
    simp only [hE', if_true] at h51 h52 h53 h54
    simp only [tabC, tabN, List.cons_append, List.nil_append] at h36 h38 h51 h52 h53 h54 h55 h56 h43n ⊢
    (refine run_fn T9 ⟨rfl, by decide⟩ ?_; rw [start9])
    simp (config := {decide := true, contextual := true, maxSteps := 3000000}) only [F9, h15, h36, d1, h38, h51, h52, h53, h54, h55, h56, h43n, a1, a2, a7, b1, b2, List.length_map, List.replicate, ↓simPre, simPost, Bool.not_not, Bool.not_false, Bool.not_true, Bool.false_eq_true, reduceCtorEq, ↓reduceIte, decide_true, decide_false, splice, results, resT, resTs, AV.key, Bool.and_true, Bool.true_and, and_true, true_and, and_self, List.flatMap_nil, List.flatMap_cons, List.append_nil, List.nil_append, List.cons_append, List.map_cons, List.map_nil, List.all_cons, List.all_nil, List.length_cons, List.length_nil, Nat.reduceAdd, Nat.reduceLT, Nat.reduceLeDiff, Nat.reduceEqDiff, Nat.reduceSub, Nat.zero_add, Nat.add_zero, List.drop_succ_cons, List.drop_zero, List.take_succ_cons, List.take_zero]
end
end Go.Bv

/- BY VALUE, chapter 26: arguments opened: tables and changes. -/
set_option linter.unusedSimpArgs false
set_option linter.unusedVariables false
namespace Go.Bv
/-- A slice of records. -/
theorem fits_recs {A : AV} (h : Fits (.sl [.bool, .str]) A) : ∃ l : List (Bool × ByteArray), A = .sl (l.map encR) := by
  cases h with
  | sl ks l hl h1 h2 =>
    have key : ∀ m : List (List AV), (∀ i, i < m.length → (m.getD i []).length = 2) → (∀ i j, i < m.length → j < 2 → Fits (([.bool, .str] : List Sh).getD j .bool) ((m.getD i []).getD j .unk)) →
        ∃ l : List (Bool × ByteArray), m = l.map encR := by
      intro m
      induction m with
      | nil => intro _ _; exact ⟨[], rfl⟩
      | cons x m ih =>
        intro h1 h2
        obtain ⟨l, e1⟩ := ih (fun i hi => by have := h1 (i + 1) (by simp; omega); simpa using this) (fun i j hi hj => by have := h2 (i + 1) j (by simp; omega) hj; simpa using this)
        have hx : x.length = 2 := by have := h1 0 (by simp); simpa using this
        have q := fun j hj => h2 0 j (by simp) hj
        match x, hx, q with
        | [a, b], _, q =>
          obtain ⟨k, rfl⟩ := fits_bool (q 0 (by omega))
          obtain ⟨s, rfl, hs⟩ := fits_str (q 1 (by omega))
          exact ⟨(k, s) :: l, by rw [e1]; rfl⟩
    obtain ⟨l', e1⟩ := key l h1 (fun i j hi hj => h2 i j hi hj)
    exact ⟨l', by rw [e1]⟩
abbrev shTab : List Sh := [.str, .str, .sl [.str, .int .i64, .int .i64, .int .i64], .sl [.str, .bool], .bool, .sl [.bool, .str]]
abbrev shCh : List Sh := [.str, .int .i64, .int .i64, .str, .str]
theorem fits_table {l : List AV} (h : l.length = 6 ∧ ∀ j, j < 6 → Fits (shTab.getD j .bool) (l.getD j .unk)) : ∃ fn n fs ks u rs, l = tabC fn n fs ks u rs := by
  obtain ⟨h2, hf⟩ := h
  match l, h2, hf with
  | [a, b, c, d, e, f], _, hf =>
    obtain ⟨fn, rfl, _⟩ := fits_str (hf 0 (by omega))
    obtain ⟨n, rfl, _⟩ := fits_str (hf 1 (by omega))
    obtain ⟨fs, rfl, _, _⟩ := fits_fields (hf 2 (by omega))
    obtain ⟨ks, rfl⟩ := fits_keys (hf 3 (by omega))
    obtain ⟨u, rfl⟩ := fits_bool (hf 4 (by omega))
    obtain ⟨rs, rfl⟩ := fits_recs (hf 5 (by omega))
    exact ⟨fn, n, fs, ks, u, rs, rfl⟩
theorem fits_change {l : List AV} (h : l.length = 5 ∧ ∀ j, j < 5 → Fits (shCh.getD j .bool) (l.getD j .unk)) : ∃ c : Ch, l = encC c := by
  obtain ⟨h2, hf⟩ := h
  match l, h2, hf with
  | [a, b, c, d, e], _, hf =>
    obtain ⟨cf, rfl, _⟩ := fits_str (hf 0 (by omega))
    obtain ⟨ck, rfl⟩ := fits_i64 (hf 1 (by omega))
    obtain ⟨cr, rfl⟩ := fits_i64 (hf 2 (by omega))
    obtain ⟨cb, rfl, _⟩ := fits_str (hf 3 (by omega))
    obtain ⟨ca, rfl, _⟩ := fits_str (hf 4 (by omega))
    exact ⟨⟨cf, ck, cr, cb, ca⟩, rfl⟩
end Go.Bv

/- BY VALUE, chapter 26: RecordsAdds, RecordsChanges, RecordsFits, for all arguments. -/
set_option linter.unusedSimpArgs false
set_option linter.unusedVariables false
namespace Go.Bv
theorem walk8 (t : List AV) (ht : t.length = 6 ∧ ∀ j, j < 6 → Fits (shTab.getD j .bool) (t.getD j .unk)) (s : ByteArray) (hs : s.size ≤ maxLen) (b : Bool) :
    VSpec Go.Proofs.Try.prog 8 [.agg t, .str s, .bool b] (.bool true) := by
  obtain ⟨fn, n, fs, ks, u, rs, rfl⟩ := fits_table ht
  exact (run_sound mixed T_ok S40_sound 8 _ _ (run8 fn n fs ks u rs s b)).1
theorem walk9 (t : List AV) (ht : t.length = 6 ∧ ∀ j, j < 6 → Fits (shTab.getD j .bool) (t.getD j .unk)) (i : Int) (s : ByteArray) (hs : s.size ≤ maxLen) :
    VSpec Go.Proofs.Try.prog 9 [.agg t, .int .i64 i, .str s] (.bool true) := by
  obtain ⟨fn, n, fs, ks, u, rs, rfl⟩ := fits_table ht
  exact (run_sound mixed T_ok S40_sound 9 _ _ (run9 fn n fs ks u rs i s)).1
end Go.Bv
