/- BY VALUE, chapter 26: the reference of changes. -/
import Derived.Test.YtnfmilnlekmjgaaV3
import Derived.Test.YtnfmilnlekmjgaaV4
import Derived.Test.YtnfmilnlekmjgaaU8
set_option linter.unusedSimpArgs false
set_option linter.unusedVariables false
namespace Go.Bv
variable {S : RT}
attribute [local congr] ite_congr congr_bindOps congr_bindC congr_andThen congr_orNone congr_onBool congr_onEff congr_headC
set_option maxRecDepth 100000
set_option maxHeartbeats 40000000
theorem run112 (fn n : ByteArray) (l : List Fd) (ks : List (ByteArray × Bool)) (u : Bool) (rs : List (Bool × ByteArray)) (c : Ch) (h : Small fn n l ks rs) (ha : c.after.size ≤ 1000000) :
    run T S 112 [.agg (tabC fn n l ks u rs), .agg (encC c)] = some (.int .i64 (changeE (checkTable fn n l ks rs).2 fn n l rs c)) := by
  have h45 := run45 (S := S) fn n l ks u rs h
  have h100 := run100 (S := S) n l c.after h.qsh ha
  have hrs := h.qrs
  have h47 := run47 (S := S) fn n l ks u rs c.rrn (by omega)
  have h62k := run62 (S := S) c.kind 0 2
  have w0 : IntKind.wrap .i64 ((rs.length : Int) + 1) = (rs.length : Int) + 1 := wrap_i64 (by omega) (by omega)
  have w00 : IntKind.wrap .i64 ((rs.length : Int) + 0) = (rs.length : Int) := by rw [wrap_i64 (by omega) (by omega)]; omega
  have h62a := run62 (S := S) c.rrn 1 ((rs.length : Int) + 1)
  have h62b := run62 (S := S) c.rrn 1 (rs.length : Int)
  have h48t := run48 (S := S) true
  have h48f := run48 (S := S) false
  simp only [Bool.false_eq_true, if_true, if_false] at h48t h48f
  obtain ⟨cf, ck, cr, cb, ca⟩ := c
  simp only at ha
  generalize (checkTable fn n l ks rs).2 = E at *
  simp only [tabC, encC] at h45 h47 h62k h62a h62b h100 ⊢
  by_cases hE : E = 0
  case neg =>
    have hE' : (E != 0) = true := by simpa using hE
    rw [ch1 hE]
    (refine run_fn T112 ⟨rfl, by decide⟩ ?_; rw [start112])
    simp (config := {decide := true, contextual := true, maxSteps := 3000000}) only [F112, effT_und, effF_und, h45, hE', List.replicate, ↓simPre, simPost, Bool.not_not, Bool.not_false, Bool.not_true, Bool.false_eq_true, reduceCtorEq, ↓reduceIte, decide_true, decide_false, splice, results, resT, resTs, AV.key, Bool.and_true, Bool.true_and, and_true, true_and, and_self, List.flatMap_nil, List.flatMap_cons, List.append_nil, List.nil_append, List.cons_append, List.map_cons, List.map_nil, List.all_cons, List.all_nil, List.length_cons, List.length_nil, Nat.reduceAdd, Nat.reduceLT, Nat.reduceLeDiff, Nat.reduceEqDiff, Nat.reduceSub, Nat.zero_add, Nat.add_zero, List.drop_succ_cons, List.drop_zero, List.take_succ_cons, List.take_zero]
  subst hE
  cases hf : (cf.toList == fn.toList) with
  | false =>
    rw [ch2 hf]
    (refine run_fn T112 ⟨rfl, by decide⟩ ?_; rw [start112])
    simp (config := {decide := true, contextual := true, maxSteps := 3000000}) only [F112, effT_und, effF_und, h45, hf, List.replicate, ↓simPre, simPost, Bool.not_not, Bool.not_false, Bool.not_true, Bool.false_eq_true, reduceCtorEq, ↓reduceIte, decide_true, decide_false, splice, results, resT, resTs, AV.key, Bool.and_true, Bool.true_and, and_true, true_and, and_self, List.flatMap_nil, List.flatMap_cons, List.append_nil, List.nil_append, List.cons_append, List.map_cons, List.map_nil, List.all_cons, List.all_nil, List.length_cons, List.length_nil, Nat.reduceAdd, Nat.reduceLT, Nat.reduceLeDiff, Nat.reduceEqDiff, Nat.reduceSub, Nat.zero_add, Nat.add_zero, List.drop_succ_cons, List.drop_zero, List.take_succ_cons, List.take_zero]
  | true =>
  by_cases hk : 0 ≤ ck ∧ ck ≤ 2
  case neg =>
    have d1 : (decide (0 ≤ ck) && decide (ck ≤ 2)) = false := by rw [Bool.and_eq_false_iff]; simp; omega
    rw [ch3 hf hk]
    rw [d1] at h62k
    (refine run_fn T112 ⟨rfl, by decide⟩ ?_; rw [start112])
    simp (config := {decide := true, contextual := true, maxSteps := 3000000}) only [F112, effT_und, effF_und, h45, hf, h62k, List.replicate, ↓simPre, simPost, Bool.not_not, Bool.not_false, Bool.not_true, Bool.false_eq_true, reduceCtorEq, ↓reduceIte, decide_true, decide_false, splice, results, resT, resTs, AV.key, Bool.and_true, Bool.true_and, and_true, true_and, and_self, List.flatMap_nil, List.flatMap_cons, List.append_nil, List.nil_append, List.cons_append, List.map_cons, List.map_nil, List.all_cons, List.all_nil, List.length_cons, List.length_nil, Nat.reduceAdd, Nat.reduceLT, Nat.reduceLeDiff, Nat.reduceEqDiff, Nat.reduceSub, Nat.zero_add, Nat.add_zero, List.drop_succ_cons, List.drop_zero, List.take_succ_cons, List.take_zero]
  have d1 : (decide (0 ≤ ck) && decide (ck ≤ 2)) = true := by simp; omega
  rw [d1] at h62k
  by_cases k0 : ck = 0
  · have k1 : (ck == 0) = true := by simpa using k0
    have k2 : (ck == 2) = false := by simp; omega
    by_cases hr : 1 ≤ cr ∧ cr ≤ (rs.length : Int) + 1
    case neg =>
      have d2 : (decide (1 ≤ cr) && decide (cr ≤ (rs.length : Int) + 1)) = false := by rw [Bool.and_eq_false_iff]; simp; omega
      rw [ch4 hf hk (by simpa [k0] using hr)]
      rw [d2] at h62a
      (refine run_fn T112 ⟨rfl, by decide⟩ ?_; rw [start112])
      simp (config := {decide := true, contextual := true, maxSteps := 3000000}) only [F112, effT_und, effF_und, h45, hf, h62k, h62a, h48t, w0, k1, k2, List.length_map, List.replicate, ↓simPre, simPost, Bool.not_not, Bool.not_false, Bool.not_true, Bool.false_eq_true, reduceCtorEq, ↓reduceIte, decide_true, decide_false, splice, results, resT, resTs, AV.key, Bool.and_true, Bool.true_and, and_true, true_and, and_self, List.flatMap_nil, List.flatMap_cons, List.append_nil, List.nil_append, List.cons_append, List.map_cons, List.map_nil, List.all_cons, List.all_nil, List.length_cons, List.length_nil, Nat.reduceAdd, Nat.reduceLT, Nat.reduceLeDiff, Nat.reduceEqDiff, Nat.reduceSub, Nat.zero_add, Nat.add_zero, List.drop_succ_cons, List.drop_zero, List.take_succ_cons, List.take_zero]
    have d2 : (decide (1 ≤ cr) && decide (cr ≤ (rs.length : Int) + 1)) = true := by simp; omega
    rw [d2] at h62a
    cases hb : (cb.toList == (bs []).toList) with
    | false =>
      rw [ch5 hf hk (by simpa [k0] using hr) (by simp [formE, hb, k1])]
      (refine run_fn T112 ⟨rfl, by decide⟩ ?_; rw [start112])
      simp (config := {decide := true, contextual := true, maxSteps := 3000000}) only [F112, effT_und, effF_und, h45, hf, h62k, h62a, h48t, w0, k1, k2, hb, List.length_map, List.replicate, ↓simPre, simPost, Bool.not_not, Bool.not_false, Bool.not_true, Bool.false_eq_true, reduceCtorEq, ↓reduceIte, decide_true, decide_false, splice, results, resT, resTs, AV.key, Bool.and_true, Bool.true_and, and_true, true_and, and_self, List.flatMap_nil, List.flatMap_cons, List.append_nil, List.nil_append, List.cons_append, List.map_cons, List.map_nil, List.all_cons, List.all_nil, List.length_cons, List.length_nil, Nat.reduceAdd, Nat.reduceLT, Nat.reduceLeDiff, Nat.reduceEqDiff, Nat.reduceSub, Nat.zero_add, Nat.add_zero, List.drop_succ_cons, List.drop_zero, List.take_succ_cons, List.take_zero]
    | true =>
    rw [ch6 hf hk (by simpa [k0] using hr) (by simp [formE, hb, k2]), pl0' k0 hr]
    cases ht : isThere rs cr with
    | true =>
      rw [ht] at h47
      (refine run_fn T112 ⟨rfl, by decide⟩ ?_; rw [start112])
      simp (config := {decide := true, contextual := true, maxSteps := 3000000}) only [F112, effT_und, effF_und, h45, hf, h62k, h62a, h48t, w0, k1, k2, hb, h47, List.length_map, List.replicate, ↓simPre, simPost, Bool.not_not, Bool.not_false, Bool.not_true, Bool.false_eq_true, reduceCtorEq, ↓reduceIte, decide_true, decide_false, splice, results, resT, resTs, AV.key, Bool.and_true, Bool.true_and, and_true, true_and, and_self, List.flatMap_nil, List.flatMap_cons, List.append_nil, List.nil_append, List.cons_append, List.map_cons, List.map_nil, List.all_cons, List.all_nil, List.length_cons, List.length_nil, Nat.reduceAdd, Nat.reduceLT, Nat.reduceLeDiff, Nat.reduceEqDiff, Nat.reduceSub, Nat.zero_add, Nat.add_zero, List.drop_succ_cons, List.drop_zero, List.take_succ_cons, List.take_zero]
    | false =>
      rw [ht] at h47
      cases hm : decide (cr > 60) with
      | true =>
        (refine run_fn T112 ⟨rfl, by decide⟩ ?_; rw [start112])
        simp (config := {decide := true, contextual := true, maxSteps := 3000000}) only [F112, effT_und, effF_und, h45, hf, h62k, h62a, h48t, w0, k1, k2, hb, h47, hm, List.length_map, List.replicate, ↓simPre, simPost, Bool.not_not, Bool.not_false, Bool.not_true, Bool.false_eq_true, reduceCtorEq, ↓reduceIte, decide_true, decide_false, splice, results, resT, resTs, AV.key, Bool.and_true, Bool.true_and, and_true, true_and, and_self, List.flatMap_nil, List.flatMap_cons, List.append_nil, List.nil_append, List.cons_append, List.map_cons, List.map_nil, List.all_cons, List.all_nil, List.length_cons, List.length_nil, Nat.reduceAdd, Nat.reduceLT, Nat.reduceLeDiff, Nat.reduceEqDiff, Nat.reduceSub, Nat.zero_add, Nat.add_zero, List.drop_succ_cons, List.drop_zero, List.take_succ_cons, List.take_zero]
      | false =>
        (refine run_fn T112 ⟨rfl, by decide⟩ ?_; rw [start112])
        simp (config := {decide := true, contextual := true, maxSteps := 3000000}) only [F112, effT_und, effF_und, h45, hf, h62k, h62a, h48t, w0, k1, k2, hb, h47, hm, h100, List.length_map, List.replicate, ↓simPre, simPost, Bool.not_not, Bool.not_false, Bool.not_true, Bool.false_eq_true, reduceCtorEq, ↓reduceIte, decide_true, decide_false, splice, results, resT, resTs, AV.key, Bool.and_true, Bool.true_and, and_true, true_and, and_self, List.flatMap_nil, List.flatMap_cons, List.append_nil, List.nil_append, List.cons_append, List.map_cons, List.map_nil, List.all_cons, List.all_nil, List.length_cons, List.length_nil, Nat.reduceAdd, Nat.reduceLT, Nat.reduceLeDiff, Nat.reduceEqDiff, Nat.reduceSub, Nat.zero_add, Nat.add_zero, List.drop_succ_cons, List.drop_zero, List.take_succ_cons, List.take_zero]
  · have k1 : (ck == 0) = false := by simpa using k0
    by_cases hr : 1 ≤ cr ∧ cr ≤ (rs.length : Int)
    case neg =>
      have d2 : (decide (1 ≤ cr) && decide (cr ≤ (rs.length : Int))) = false := by rw [Bool.and_eq_false_iff]; simp; omega
      rw [ch4 hf hk (by simpa [k0] using hr)]
      rw [d2] at h62b
      (refine run_fn T112 ⟨rfl, by decide⟩ ?_; rw [start112])
      simp (config := {decide := true, contextual := true, maxSteps := 3000000}) only [F112, effT_und, effF_und, h45, hf, h62k, h62b, h48f, w00, k1, List.length_map, List.replicate, ↓simPre, simPost, Bool.not_not, Bool.not_false, Bool.not_true, Bool.false_eq_true, reduceCtorEq, ↓reduceIte, decide_true, decide_false, splice, results, resT, resTs, AV.key, Bool.and_true, Bool.true_and, and_true, true_and, and_self, List.flatMap_nil, List.flatMap_cons, List.append_nil, List.nil_append, List.cons_append, List.map_cons, List.map_nil, List.all_cons, List.all_nil, List.length_cons, List.length_nil, Nat.reduceAdd, Nat.reduceLT, Nat.reduceLeDiff, Nat.reduceEqDiff, Nat.reduceSub, Nat.zero_add, Nat.add_zero, List.drop_succ_cons, List.drop_zero, List.take_succ_cons, List.take_zero]
    have d2 : (decide (1 ≤ cr) && decide (cr ≤ (rs.length : Int))) = true := by simp; omega
    rw [d2] at h62b
    have hr' : 1 ≤ cr ∧ cr ≤ (rs.length : Int) + if ck = 0 then 1 else 0 := by rw [if_neg k0]; omega
    have w1 : IntKind.wrap .i64 (cr - 1) = ((cr - 1).toNat : Int) := by rw [wrap_i64 (by omega) (by omega)]; omega
    obtain ⟨i1, i2, i4, i5⟩ := idx (i := (cr - 1).toNat) (n := rs.length) (by omega) (by omega)
    have i3 := map_get encR rs (cr - 1).toNat (false, bs []) (by omega)
    simp only [encR] at i3
    by_cases k3 : ck = 2
    · have k2 : (ck == 2) = true := by simpa using k3
      cases hb : (ca.toList == (bs []).toList) with
      | false =>
        rw [ch5 hf hk hr' (by simp [formE, hb, k2])]
        (refine run_fn T112 ⟨rfl, by decide⟩ ?_; rw [start112])
        simp (config := {decide := true, contextual := true, maxSteps := 3000000}) only [F112, effT_und, effF_und, h45, hf, h62k, h62b, h48f, w00, k1, k2, hb, List.length_map, List.replicate, ↓simPre, simPost, Bool.not_not, Bool.not_false, Bool.not_true, Bool.false_eq_true, reduceCtorEq, ↓reduceIte, decide_true, decide_false, splice, results, resT, resTs, AV.key, Bool.and_true, Bool.true_and, and_true, true_and, and_self, List.flatMap_nil, List.flatMap_cons, List.append_nil, List.nil_append, List.cons_append, List.map_cons, List.map_nil, List.all_cons, List.all_nil, List.length_cons, List.length_nil, Nat.reduceAdd, Nat.reduceLT, Nat.reduceLeDiff, Nat.reduceEqDiff, Nat.reduceSub, Nat.zero_add, Nat.add_zero, List.drop_succ_cons, List.drop_zero, List.take_succ_cons, List.take_zero]
      | true =>
      rw [ch6 hf hk hr' (by simp [formE, hb, k1]), plk k0 hr]
      cases ht : isThere rs cr with
      | false =>
        rw [ht] at h47
        (refine run_fn T112 ⟨rfl, by decide⟩ ?_; rw [start112])
        simp (config := {decide := true, contextual := true, maxSteps := 3000000}) only [F112, effT_und, effF_und, h45, hf, h62k, h62b, h48f, w00, k1, k2, hb, h47, List.length_map, List.replicate, ↓simPre, simPost, Bool.not_not, Bool.not_false, Bool.not_true, Bool.false_eq_true, reduceCtorEq, ↓reduceIte, decide_true, decide_false, splice, results, resT, resTs, AV.key, Bool.and_true, Bool.true_and, and_true, true_and, and_self, List.flatMap_nil, List.flatMap_cons, List.append_nil, List.nil_append, List.cons_append, List.map_cons, List.map_nil, List.all_cons, List.all_nil, List.length_cons, List.length_nil, Nat.reduceAdd, Nat.reduceLT, Nat.reduceLeDiff, Nat.reduceEqDiff, Nat.reduceSub, Nat.zero_add, Nat.add_zero, List.drop_succ_cons, List.drop_zero, List.take_succ_cons, List.take_zero]
      | true =>
        rw [ht] at h47
        cases hq : ((rs.getD (cr - 1).toNat (false, bs [])).2.toList == cb.toList) with
        | false =>
          (refine run_fn T112 ⟨rfl, by decide⟩ ?_; rw [start112])
          simp (config := {decide := true, contextual := true, maxSteps := 3000000}) only [F112, effT_und, effF_und, h45, hf, h62k, h62b, h48f, w00, k1, k2, hb, h47, w1, i1, i2, i3, i4, hq, List.length_map, List.replicate, ↓simPre, simPost, Bool.not_not, Bool.not_false, Bool.not_true, Bool.false_eq_true, reduceCtorEq, ↓reduceIte, decide_true, decide_false, splice, results, resT, resTs, AV.key, Bool.and_true, Bool.true_and, and_true, true_and, and_self, List.flatMap_nil, List.flatMap_cons, List.append_nil, List.nil_append, List.cons_append, List.map_cons, List.map_nil, List.all_cons, List.all_nil, List.length_cons, List.length_nil, Nat.reduceAdd, Nat.reduceLT, Nat.reduceLeDiff, Nat.reduceEqDiff, Nat.reduceSub, Nat.zero_add, Nat.add_zero, List.drop_succ_cons, List.drop_zero, List.take_succ_cons, List.take_zero]
        | true =>
          (refine run_fn T112 ⟨rfl, by decide⟩ ?_; rw [start112])
          simp (config := {decide := true, contextual := true, maxSteps := 3000000}) only [F112, effT_und, effF_und, h45, hf, h62k, h62b, h48f, w00, k1, k2, hb, h47, w1, i1, i2, i3, i4, hq, List.length_map, List.replicate, ↓simPre, simPost, Bool.not_not, Bool.not_false, Bool.not_true, Bool.false_eq_true, reduceCtorEq, ↓reduceIte, decide_true, decide_false, splice, results, resT, resTs, AV.key, Bool.and_true, Bool.true_and, and_true, true_and, and_self, List.flatMap_nil, List.flatMap_cons, List.append_nil, List.nil_append, List.cons_append, List.map_cons, List.map_nil, List.all_cons, List.all_nil, List.length_cons, List.length_nil, Nat.reduceAdd, Nat.reduceLT, Nat.reduceLeDiff, Nat.reduceEqDiff, Nat.reduceSub, Nat.zero_add, Nat.add_zero, List.drop_succ_cons, List.drop_zero, List.take_succ_cons, List.take_zero]
    · have k2 : (ck == 2) = false := by simpa using k3
      rw [ch6 hf hk hr' (by simp [formE, k1, k2]), plk k0 hr]
      cases ht : isThere rs cr with
      | false =>
        rw [ht] at h47
        (refine run_fn T112 ⟨rfl, by decide⟩ ?_; rw [start112])
        simp (config := {decide := true, contextual := true, maxSteps := 3000000}) only [F112, effT_und, effF_und, h45, hf, h62k, h62b, h48f, w00, k1, k2, h47, List.length_map, List.replicate, ↓simPre, simPost, Bool.not_not, Bool.not_false, Bool.not_true, Bool.false_eq_true, reduceCtorEq, ↓reduceIte, decide_true, decide_false, splice, results, resT, resTs, AV.key, Bool.and_true, Bool.true_and, and_true, true_and, and_self, List.flatMap_nil, List.flatMap_cons, List.append_nil, List.nil_append, List.cons_append, List.map_cons, List.map_nil, List.all_cons, List.all_nil, List.length_cons, List.length_nil, Nat.reduceAdd, Nat.reduceLT, Nat.reduceLeDiff, Nat.reduceEqDiff, Nat.reduceSub, Nat.zero_add, Nat.add_zero, List.drop_succ_cons, List.drop_zero, List.take_succ_cons, List.take_zero]
      | true =>
        rw [ht] at h47
        cases hq : ((rs.getD (cr - 1).toNat (false, bs [])).2.toList == cb.toList) with
        | false =>
          (refine run_fn T112 ⟨rfl, by decide⟩ ?_; rw [start112])
          simp (config := {decide := true, contextual := true, maxSteps := 3000000}) only [F112, effT_und, effF_und, h45, hf, h62k, h62b, h48f, w00, k1, k2, h47, w1, i1, i2, i3, i4, hq, List.length_map, List.replicate, ↓simPre, simPost, Bool.not_not, Bool.not_false, Bool.not_true, Bool.false_eq_true, reduceCtorEq, ↓reduceIte, decide_true, decide_false, splice, results, resT, resTs, AV.key, Bool.and_true, Bool.true_and, and_true, true_and, and_self, List.flatMap_nil, List.flatMap_cons, List.append_nil, List.nil_append, List.cons_append, List.map_cons, List.map_nil, List.all_cons, List.all_nil, List.length_cons, List.length_nil, Nat.reduceAdd, Nat.reduceLT, Nat.reduceLeDiff, Nat.reduceEqDiff, Nat.reduceSub, Nat.zero_add, Nat.add_zero, List.drop_succ_cons, List.drop_zero, List.take_succ_cons, List.take_zero]
        | true =>
          (refine run_fn T112 ⟨rfl, by decide⟩ ?_; rw [start112])
          simp (config := {decide := true, contextual := true, maxSteps := 3000000}) only [F112, effT_und, effF_und, h45, hf, h62k, h62b, h48f, w00, k1, k2, h47, w1, i1, i2, i3, i4, hq, h100, List.length_map, List.replicate, ↓simPre, simPost, Bool.not_not, Bool.not_false, Bool.not_true, Bool.false_eq_true, reduceCtorEq, ↓reduceIte, decide_true, decide_false, splice, results, resT, resTs, AV.key, Bool.and_true, Bool.true_and, and_true, true_and, and_self, List.flatMap_nil, List.flatMap_cons, List.append_nil, List.nil_append, List.cons_append, List.map_cons, List.map_nil, List.all_cons, List.all_nil, List.length_cons, List.length_nil, Nat.reduceAdd, Nat.reduceLT, Nat.reduceLeDiff, Nat.reduceEqDiff, Nat.reduceSub, Nat.zero_add, Nat.add_zero, List.drop_succ_cons, List.drop_zero, List.take_succ_cons, List.take_zero]
theorem run113 (fn n : ByteArray) (l : List Fd) (ks : List (ByteArray × Bool)) (u : Bool) (rs : List (Bool × ByteArray)) (c : Ch) (h : Small fn n l ks rs) (h1 : 1 ≤ c.rrn) :
    run T S 113 [.agg (tabC fn n l ks u rs), .agg (encC c)] = some (.agg (tabC fn n l ks u (put rs c.rrn (recOf c)))) := by
  have h109 := run109 (S := S) fn n l ks u rs c.rrn (recOf c) (by have := h.qsh.2.1; omega) (by have := h.qks; omega) (by have := h.qrs; omega) h1
  obtain ⟨cf, ck, cr, cb, ca⟩ := c
  simp only [tabC, encC, encR, recOf] at h109 ⊢
  (refine run_fn T113 ⟨rfl, by decide⟩ ?_; rw [start113])
  simp (config := {decide := true, contextual := true, maxSteps := 3000000}) only [F113, h109, List.length_map, List.replicate, ↓simPre, simPost, Bool.not_not, Bool.not_false, Bool.not_true, Bool.false_eq_true, reduceCtorEq, ↓reduceIte, decide_true, decide_false, splice, results, resT, resTs, AV.key, Bool.and_true, Bool.true_and, and_true, true_and, and_self, List.flatMap_nil, List.flatMap_cons, List.append_nil, List.nil_append, List.cons_append, List.map_cons, List.map_nil, List.all_cons, List.all_nil, List.length_cons, List.length_nil, Nat.reduceAdd, Nat.reduceLT, Nat.reduceLeDiff, Nat.reduceEqDiff, Nat.reduceSub, Nat.zero_add, Nat.add_zero, List.drop_succ_cons, List.drop_zero, List.take_succ_cons, List.take_zero]
theorem run59 (fn n : ByteArray) (l : List Fd) (ks : List (ByteArray × Bool)) (u : Bool) (rs : List (Bool × ByteArray)) (c : Ch) (h : Small fn n l ks rs) (ha : c.after.size ≤ 1000000) :
    run T S 59 [.agg (tabC fn n l ks u rs), .agg (encC c)] = some (if (changeE (checkTable fn n l ks rs).2 fn n l rs c != 0) = true then .tup [.agg noTab, .int .i64 (changeE (checkTable fn n l ks rs).2 fn n l rs c)] else .tup [.agg (tabC fn n l ks u (put rs c.rrn (recOf c))), .int .i64 0]) := by
  have h112 := run112 (S := S) fn n l ks u rs c h ha
  have h113 := fun h1 => run113 (S := S) fn n l ks u rs c h h1
  have hp : changeE (checkTable fn n l ks rs).2 fn n l rs c = 0 → 1 ≤ c.rrn := fun hh => (head_place (change_zero hh).1).2.1
  generalize changeE (checkTable fn n l ks rs).2 fn n l rs c = E at *
  obtain ⟨cf, ck, cr, cb, ca⟩ := c
  simp only [tabC, encC] at h112 h113 hp ⊢
  by_cases hE : E = 0
  · have hE' : (E != 0) = false := by simpa using hE
    have h113 := h113 (hp hE)
    simp only [hE']
    (refine run_fn T59 ⟨rfl, by decide⟩ ?_; rw [start59])
    simp (config := {decide := true, contextual := true, maxSteps := 3000000}) only [F59, h112, h113, hE', List.replicate, ↓simPre, simPost, Bool.not_not, Bool.not_false, Bool.not_true, Bool.false_eq_true, reduceCtorEq, ↓reduceIte, decide_true, decide_false, splice, results, resT, resTs, AV.key, Bool.and_true, Bool.true_and, and_true, true_and, and_self, List.flatMap_nil, List.flatMap_cons, List.append_nil, List.nil_append, List.cons_append, List.map_cons, List.map_nil, List.all_cons, List.all_nil, List.length_cons, List.length_nil, Nat.reduceAdd, Nat.reduceLT, Nat.reduceLeDiff, Nat.reduceEqDiff, Nat.reduceSub, Nat.zero_add, Nat.add_zero, List.drop_succ_cons, List.drop_zero, List.take_succ_cons, List.take_zero]
  · have hE' : (E != 0) = true := by simpa using hE
    simp only [hE', if_true]
    (refine run_fn T59 ⟨rfl, by decide⟩ ?_; rw [start59])
    simp (config := {decide := true, contextual := true, maxSteps := 3000000}) only [F59, h112, hE', List.replicate, ↓simPre, simPost, Bool.not_not, Bool.not_false, Bool.not_true, Bool.false_eq_true, reduceCtorEq, ↓reduceIte, decide_true, decide_false, splice, results, resT, resTs, AV.key, Bool.and_true, Bool.true_and, and_true, true_and, and_self, List.flatMap_nil, List.flatMap_cons, List.append_nil, List.nil_append, List.cons_append, List.map_cons, List.map_nil, List.all_cons, List.all_nil, List.length_cons, List.length_nil, Nat.reduceAdd, Nat.reduceLT, Nat.reduceLeDiff, Nat.reduceEqDiff, Nat.reduceSub, Nat.zero_add, Nat.add_zero, List.drop_succ_cons, List.drop_zero, List.take_succ_cons, List.take_zero]
end Go.Bv

/- BY VALUE, chapter 26: the function of RecordsFits gives true. -/
set_option linter.unusedSimpArgs false
set_option linter.unusedVariables false
namespace Go.Bv
attribute [local congr] ite_congr congr_bindOps congr_bindC congr_andThen congr_orNone congr_onBool congr_onEff congr_headC
set_option maxRecDepth 100000
set_option maxHeartbeats 40000000
section
variable (fn n : ByteArray) (l : List Fd) (ks : List (ByteArray × Bool)) (u : Bool) (rs : List (Bool × ByteArray))
theorem run11 (c : Ch) : run T S40 11 [.agg (tabC fn n l ks u rs), .agg (encC c)] = some (.bool true) := by
  have h15 := awake40
  have h36 := run36 (S := S40) fn n l ks u rs
  have h57 := run57 (S := S40) c
  cases g1 : fewTable fn n l ks rs with
  | false =>
    rw [g1] at h36
    generalize fewChange c = q2 at *
    obtain ⟨cf, ck, cr, cb, ca⟩ := c
    simp only [tabC, encC] at h36 h57 ⊢
    (refine run_fn T11 ⟨rfl, by decide⟩ ?_; rw [start11])
    simp (config := {decide := true, contextual := true, maxSteps := 3000000}) only [F11, h15, h36, h57, List.replicate, ↓simPre, simPost, Bool.not_not, Bool.not_false, Bool.not_true, Bool.false_eq_true, reduceCtorEq, ↓reduceIte, decide_true, decide_false, splice, results, resT, resTs, AV.key, Bool.and_true, Bool.true_and, and_true, true_and, and_self, List.flatMap_nil, List.flatMap_cons, List.append_nil, List.nil_append, List.cons_append, List.map_cons, List.map_nil, List.all_cons, List.all_nil, List.length_cons, List.length_nil, Nat.reduceAdd, Nat.reduceLT, Nat.reduceLeDiff, Nat.reduceEqDiff, Nat.reduceSub, Nat.zero_add, Nat.add_zero, List.drop_succ_cons, List.drop_zero, List.take_succ_cons, List.take_zero]
  | true =>
  rw [g1] at h36
  cases g2 : fewChange c with
  | false =>
    rw [g2] at h57
    obtain ⟨cf, ck, cr, cb, ca⟩ := c
    simp only [tabC, encC] at h36 h57 ⊢
    (refine run_fn T11 ⟨rfl, by decide⟩ ?_; rw [start11])
    simp (config := {decide := true, contextual := true, maxSteps := 3000000}) only [F11, h15, h36, h57, List.replicate, ↓simPre, simPost, Bool.not_not, Bool.not_false, Bool.not_true, Bool.false_eq_true, reduceCtorEq, ↓reduceIte, decide_true, decide_false, splice, results, resT, resTs, AV.key, Bool.and_true, Bool.true_and, and_true, true_and, and_self, List.flatMap_nil, List.flatMap_cons, List.append_nil, List.nil_append, List.cons_append, List.map_cons, List.map_nil, List.all_cons, List.all_nil, List.length_cons, List.length_nil, Nat.reduceAdd, Nat.reduceLT, Nat.reduceLeDiff, Nat.reduceEqDiff, Nat.reduceSub, Nat.zero_add, Nat.add_zero, List.drop_succ_cons, List.drop_zero, List.take_succ_cons, List.take_zero]
  | true =>
  rw [g2] at h57
  have hsm := small_few g1
  have fc := few_change g2
  obtain ⟨t1, t2, t3, t4, t5⟩ := few_table g1
  have h38 := run38 (S := S40) fn n l ks u rs (by have := t2.2.1; omega) (by omega) (by omega)
  have h59 := run59 (S := S40) fn n l ks u rs c hsm (by omega)
  have h58 := run58 told28 told138 fn n l ks u rs c hsm (by omega)
  have h60 := run60 told28 fn n l ks u rs c hsm (by omega)
  have h43 := run43s (S := S40) fn n l ks u (put rs c.rrn (recOf c)) (by have := t2.2.1; omega) (by omega) (by have := put_le rs c.rrn (recOf c); omega)
  have h43n := run43n (S := S40)
  have h61 := run61 (S := S40) c
  have h63 := run63 (S := S40) c
  have h62 := run62 (S := S40) c.kind 0 2
  unfold changedA at h58
  have e1 : (c.file.toList == c.file.toList) = true := by simp
  have e2 : (c.before.toList == c.before.toList) = true := by simp
  have e3 : (c.after.toList == c.after.toList) = true := by simp
  have e4 : (c.rrn == c.rrn) = true := by simp
  have e5 : (revK c.kind == revK c.kind) = true := by simp
  have e6 : ((bs []).toList == (bs []).toList) = true := by simp
  generalize put rs c.rrn (recOf c) = z at *
  generalize changeE (checkTable fn n l ks rs).2 fn n l rs c = E at *
  obtain ⟨cf, ck, cr, cb, ca⟩ := c
  simp only [revC] at h61 h63 h62 e1 e2 e3 e4 e5
  generalize revK ck = k' at *
  have a1 : (E == E) = true := by simp
  have a7 : (E != E) = false := by simp
  by_cases hE : E = 0
  · have hE' : (E != 0) = false := by simpa using hE
    simp only [hE', Bool.false_eq_true, if_false] at h58 h59
    simp only [tabC, tabN, encC] at h36 h57 h38 h59 h58 h60 h43 h61 h63 ⊢
    subst hE
    cases hk : (decide (0 ≤ ck) && decide (ck ≤ 2)) with
    | true =>
      simp only [hk, if_true] at h61 h62
      (refine run_fn T11 ⟨rfl, by decide⟩ ?_; rw [start11])
      simp (config := {decide := true, contextual := true, maxSteps := 3000000}) only [F11, h15, h36, h57, h38, h59, h58, h60, h43, h61, h63, h62, e1, e2, e3, e4, e5, a1, a7, List.length_map, List.replicate, ↓simPre, simPost, Bool.not_not, Bool.not_false, Bool.not_true, Bool.false_eq_true, reduceCtorEq, ↓reduceIte, decide_true, decide_false, splice, results, resT, resTs, AV.key, Bool.and_true, Bool.true_and, and_true, true_and, and_self, List.flatMap_nil, List.flatMap_cons, List.append_nil, List.nil_append, List.cons_append, List.map_cons, List.map_nil, List.all_cons, List.all_nil, List.length_cons, List.length_nil, Nat.reduceAdd, Nat.reduceLT, Nat.reduceLeDiff, Nat.reduceEqDiff, Nat.reduceSub, Nat.zero_add, Nat.add_zero, List.drop_succ_cons, List.drop_zero, List.take_succ_cons, List.take_zero]
    | false =>
      simp only [hk, Bool.false_eq_true, if_false] at h61 h62
      (refine run_fn T11 ⟨rfl, by decide⟩ ?_; rw [start11])
      simp (config := {decide := true, contextual := true, maxSteps := 3000000}) only [F11, h15, h36, h57, h38, h59, h58, h60, h43, h61, h63, h62, e6, a1, a7, List.length_map, List.replicate, ↓simPre, simPost, Bool.not_not, Bool.not_false, Bool.not_true, Bool.false_eq_true, reduceCtorEq, ↓reduceIte, decide_true, decide_false, splice, results, resT, resTs, AV.key, Bool.and_true, Bool.true_and, and_true, true_and, and_self, List.flatMap_nil, List.flatMap_cons, List.append_nil, List.nil_append, List.cons_append, List.map_cons, List.map_nil, List.all_cons, List.all_nil, List.length_cons, List.length_nil, Nat.reduceAdd, Nat.reduceLT, Nat.reduceLeDiff, Nat.reduceEqDiff, Nat.reduceSub, Nat.zero_add, Nat.add_zero, List.drop_succ_cons, List.drop_zero, List.take_succ_cons, List.take_zero]
  · have hE' : (E != 0) = true := by simpa using hE
    simp only [hE', if_true] at h58 h59
    simp only [tabC, tabN, encC] at h36 h57 h38 h59 h58 h60 h43n h61 h63 ⊢
    cases hk : (decide (0 ≤ ck) && decide (ck ≤ 2)) with
    | true =>
      simp only [hk, if_true] at h61 h62
      (refine run_fn T11 ⟨rfl, by decide⟩ ?_; rw [start11])
      simp (config := {decide := true, contextual := true, maxSteps := 3000000}) only [F11, h15, h36, h57, h38, h59, h58, h60, h43n, h61, h63, h62, e1, e2, e3, e4, e5, a1, a7, List.length_map, List.replicate, ↓simPre, simPost, Bool.not_not, Bool.not_false, Bool.not_true, Bool.false_eq_true, reduceCtorEq, ↓reduceIte, decide_true, decide_false, splice, results, resT, resTs, AV.key, Bool.and_true, Bool.true_and, and_true, true_and, and_self, List.flatMap_nil, List.flatMap_cons, List.append_nil, List.nil_append, List.cons_append, List.map_cons, List.map_nil, List.all_cons, List.all_nil, List.length_cons, List.length_nil, Nat.reduceAdd, Nat.reduceLT, Nat.reduceLeDiff, Nat.reduceEqDiff, Nat.reduceSub, Nat.zero_add, Nat.add_zero, List.drop_succ_cons, List.drop_zero, List.take_succ_cons, List.take_zero]
    | false =>
      simp only [hk, Bool.false_eq_true, if_false] at h61 h62
      (refine run_fn T11 ⟨rfl, by decide⟩ ?_; rw [start11])
      simp (config := {decide := true, contextual := true, maxSteps := 3000000}) only [F11, h15, h36, h57, h38, h59, h58, h60, h43n, h61, h63, h62, e6, a1, a7, List.length_map, List.replicate, ↓simPre, simPost, Bool.not_not, Bool.not_false, Bool.not_true, Bool.false_eq_true, reduceCtorEq, ↓reduceIte, decide_true, decide_false, splice, results, resT, resTs, AV.key, Bool.and_true, Bool.true_and, and_true, true_and, and_self, List.flatMap_nil, List.flatMap_cons, List.append_nil, List.nil_append, List.cons_append, List.map_cons, List.map_nil, List.all_cons, List.all_nil, List.length_cons, List.length_nil, Nat.reduceAdd, Nat.reduceLT, Nat.reduceLeDiff, Nat.reduceEqDiff, Nat.reduceSub, Nat.zero_add, Nat.add_zero, List.drop_succ_cons, List.drop_zero, List.take_succ_cons, List.take_zero]
      rfl
end
end Go.Bv

/- BY VALUE, chapter 26: RecordsFits, for all arguments. -/
set_option linter.unusedSimpArgs false
set_option linter.unusedVariables false
namespace Go.Bv
theorem walk11 (t : List AV) (ht : t.length = 6 ∧ ∀ j, j < 6 → Fits (shTab.getD j .bool) (t.getD j .unk)) (a : List AV) (ha : a.length = 5 ∧ ∀ j, j < 5 → Fits (shCh.getD j .bool) (a.getD j .unk)) :
    VSpec Go.Proofs.Try.prog 11 [.agg t, .agg a] (.bool true) := by
  obtain ⟨fn, n, fs, ks, u, rs, rfl⟩ := fits_table ht
  obtain ⟨c, rfl⟩ := fits_change ha
  exact (run_sound mixed T_ok S40_sound 11 _ _ (run11 fn n fs ks u rs c)).1
end Go.Bv
