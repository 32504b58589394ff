/- BY VALUE, chapter 26: with, put; there, thereErr. -/
import Derived.Test.YtnfmilnlekmjgaaU3
set_option linter.unusedSimpArgs false
set_option linter.unusedVariables false
namespace Go.Bv
variable {S : RT}
attribute [local congr] ite_congr congr_bindOps congr_bindC congr_andThen congr_orNone congr_onBool congr_onEff congr_headC
set_option maxRecDepth 100000
set_option maxHeartbeats 40000000
def Told138 (S : RT) : Prop := ∀ rs : List (Bool × ByteArray), rs.length ≤ 1000000 → run T S 138 [.sl (rs.map encR)] = some (.fr 87 2 (rs.map encR))
def put (rs : List (Bool × ByteArray)) (rrn : Int) (r : Bool × ByteArray) : List (Bool × ByteArray) := if rrn > (rs.length : Int) then rs ++ [r] else rs.set (rrn - 1).toNat r
theorem run107 (hS : Told138 S) (fn n : ByteArray) (l : List Fd) (ks : List (ByteArray × Bool)) (u : Bool) (rs : List (Bool × ByteArray)) (rrn : Int) (r : Bool × ByteArray) (hr : rs.length ≤ 100000) (h1 : 1 ≤ rrn) :
    run T S 107 [.agg (tabC fn n l ks u rs), .int .i64 rrn, .agg (encR r)] = some (.agg (tabC fn n l ks u (put rs rrn r))) := by
  have h138 := hS rs (by omega)
  unfold put
  by_cases hb : rrn > (rs.length : Int)
  · have d1 : decide (rrn > (rs.length : Int)) = true := by simpa using hb
    have g1 : ((rs.length + 1) * 24 ≤ 140737488355328) = True := by simp; omega
    have e1 : rs.map encR ++ [[.bool r.1, .str r.2]] = (rs ++ [r]).map encR := by simp [encR]
    rw [if_pos hb]
    simp only [tabC, encR]
    (refine run_fn T107 ⟨rfl, by decide⟩ ?_; rw [start107])
    simp (config := {decide := true, contextual := true, maxSteps := 3000000}) only [F107, h138, d1, g1, e1, List.length_map, List.replicate, ↓simPre, simPost, Bool.not_not, Bool.not_false, Bool.not_true, Bool.false_eq_true, reduceCtorEq, ↓reduceIte, decide_true, decide_false, splice, results, resT, resTs, AV.key, Bool.and_true, Bool.true_and, and_true, true_and, and_self, List.flatMap_nil, List.flatMap_cons, List.append_nil, List.nil_append, List.cons_append, List.map_cons, List.map_nil, List.all_cons, List.all_nil, List.length_cons, List.length_nil, Nat.reduceAdd, Nat.reduceLT, Nat.reduceLeDiff, Nat.reduceEqDiff, Nat.reduceSub, Nat.zero_add, Nat.add_zero, List.drop_succ_cons, List.drop_zero, List.take_succ_cons, List.take_zero]
  · have d1 : decide (rrn > (rs.length : Int)) = false := by simpa using hb
    have w1 : IntKind.wrap .i64 (rrn - 1) = ((rrn - 1).toNat : Int) := by rw [wrap_i64 (by omega) (by omega)]; omega
    obtain ⟨i1, i2, i4, i5⟩ := idx (i := (rrn - 1).toNat) (n := rs.length) (by omega) (by omega)
    have i3 := map_get encR rs (rrn - 1).toNat (false, bs []) (by omega)
    have e1 : (rs.map encR).set (rrn - 1).toNat [.bool r.1, .str r.2] = (rs.set (rrn - 1).toNat r).map encR := by rw [List.map_set]; rfl
    rw [if_neg hb]
    simp only [tabC, encR]
    simp only [encR] at i3
    have n2 : ((rrn - 1).toNat < rs.length) = True := by simp; omega
    have f0 : (0 ≤ (rrn - 1).toNat) = True := by simp
    (refine run_fn T107 ⟨rfl, by decide⟩ ?_; rw [start107])
    simp (config := {decide := true, contextual := true, maxSteps := 3000000}) only [F107, h138, d1, w1, i1, i2, i3, i4, e1, n2, f0, storeA, List.length_map, List.replicate, ↓simPre, simPost, Bool.not_not, Bool.not_false, Bool.not_true, Bool.false_eq_true, reduceCtorEq, ↓reduceIte, decide_true, decide_false, splice, results, resT, resTs, AV.key, Bool.and_true, Bool.true_and, and_true, true_and, and_self, List.flatMap_nil, List.flatMap_cons, List.append_nil, List.nil_append, List.cons_append, List.map_cons, List.map_nil, List.all_cons, List.all_nil, List.length_cons, List.length_nil, Nat.reduceAdd, Nat.reduceLT, Nat.reduceLeDiff, Nat.reduceEqDiff, Nat.reduceSub, Nat.zero_add, Nat.add_zero, List.drop_succ_cons, List.drop_zero, List.take_succ_cons, List.take_zero]
def isDel (rs : List (Bool × ByteArray)) (rrn : Int) : Bool := (rs.getD (rrn - 1).toNat (false, bs [])).1
def thereE (E : Int) (rs : List (Bool × ByteArray)) (rrn : Int) : Int := if (E != 0) = true then E else if (!(decide (1 ≤ rrn) && decide (rrn ≤ (rs.length : Int)))) = true then 3 else if isDel rs rrn = true then 11 else 0
theorem run110 (hS : Told28 S) (fn n : ByteArray) (l : List Fd) (ks : List (ByteArray × Bool)) (u : Bool) (rs : List (Bool × ByteArray)) (rrn : Int) (h : Small fn n l ks rs) :
    run T S 110 [.agg (tabC fn n l ks u rs), .int .i64 rrn] = some (.int .i64 (thereE (checkTable fn n l ks rs).2 rs rrn)) := by
  have h101 := run101 hS fn n l ks u rs h
  have hrs := h.qrs
  unfold thereE
  simp only [tabC] at h101 ⊢
  by_cases cE : (checkTable fn n l ks rs).2 = 0
  · rw [cE] at h101 ⊢
    by_cases hin : 1 ≤ rrn ∧ rrn ≤ (rs.length : Int)
    · have d1 : decide (rrn < 1) = false := by simp; omega
      have d2 : decide (rrn > (rs.length : Int)) = false := by simp; omega
      have d3 : decide (1 ≤ rrn) = true := by simp; omega
      have d4 : decide (rrn ≤ (rs.length : Int)) = true := by simp; omega
      have w1 : IntKind.wrap .i64 (rrn - 1) = ((rrn - 1).toNat : Int) := by rw [wrap_i64 (by omega) (by omega)]; omega
      obtain ⟨i1, i2, i4, i5⟩ := idx (i := (rrn - 1).toNat) (n := rs.length) (by omega) (by omega)
      have i3 := map_get encR rs (rrn - 1).toNat (false, bs []) (by omega)
      simp only [encR] at i3
      have f0 : first [0, cond false 3] = 0 := rfl
      simp only [isDel, d3, d4]
      (refine run_fn T110 ⟨rfl, by decide⟩ ?_; rw [start110])
      simp (config := {decide := true, contextual := true, maxSteps := 3000000}) only [F110, h101, run81, run80_2, d1, d2, w1, i1, i2, i3, i4, f0, List.length_map, List.replicate, ↓simPre, simPost, Bool.not_not, Bool.not_false, Bool.not_true, Bool.false_eq_true, reduceCtorEq, ↓reduceIte, decide_true, decide_false, splice, results, resT, resTs, AV.key, Bool.and_true, Bool.true_and, and_true, true_and, and_self, List.flatMap_nil, List.flatMap_cons, List.append_nil, List.nil_append, List.cons_append, List.map_cons, List.map_nil, List.all_cons, List.all_nil, List.length_cons, List.length_nil, Nat.reduceAdd, Nat.reduceLT, Nat.reduceLeDiff, Nat.reduceEqDiff, Nat.reduceSub, Nat.zero_add, Nat.add_zero, List.drop_succ_cons, List.drop_zero, List.take_succ_cons, List.take_zero]
      rfl
    · have d1 : (decide (rrn < 1) || decide (rrn > (rs.length : Int))) = true := by simp; omega
      have d3 : (!(decide (1 ≤ rrn) && decide (rrn ≤ (rs.length : Int)))) = true := by simp; omega
      have f0 : first [0, cond true 3] = 3 := rfl
      rw [if_pos d3]
      by_cases dd : rrn < 1
      · have d5 : decide (rrn < 1) = true := by simpa using dd
        (refine run_fn T110 ⟨rfl, by decide⟩ ?_; rw [start110])
        simp (config := {decide := true, contextual := true, maxSteps := 3000000}) only [F110, h101, run81, run80_2, d5, f0, List.length_map, List.replicate, ↓simPre, simPost, Bool.not_not, Bool.not_false, Bool.not_true, Bool.false_eq_true, reduceCtorEq, ↓reduceIte, decide_true, decide_false, splice, results, resT, resTs, AV.key, Bool.and_true, Bool.true_and, and_true, true_and, and_self, List.flatMap_nil, List.flatMap_cons, List.append_nil, List.nil_append, List.cons_append, List.map_cons, List.map_nil, List.all_cons, List.all_nil, List.length_cons, List.length_nil, Nat.reduceAdd, Nat.reduceLT, Nat.reduceLeDiff, Nat.reduceEqDiff, Nat.reduceSub, Nat.zero_add, Nat.add_zero, List.drop_succ_cons, List.drop_zero, List.take_succ_cons, List.take_zero]
      · have d5 : decide (rrn < 1) = false := by simpa using dd
        have d6 : decide (rrn > (rs.length : Int)) = true := by simp; omega
        (refine run_fn T110 ⟨rfl, by decide⟩ ?_; rw [start110])
        simp (config := {decide := true, contextual := true, maxSteps := 3000000}) only [F110, h101, run81, run80_2, d5, d6, f0, List.length_map, List.replicate, ↓simPre, simPost, Bool.not_not, Bool.not_false, Bool.not_true, Bool.false_eq_true, reduceCtorEq, ↓reduceIte, decide_true, decide_false, splice, results, resT, resTs, AV.key, Bool.and_true, Bool.true_and, and_true, true_and, and_self, List.flatMap_nil, List.flatMap_cons, List.append_nil, List.nil_append, List.cons_append, List.map_cons, List.map_nil, List.all_cons, List.all_nil, List.length_cons, List.length_nil, Nat.reduceAdd, Nat.reduceLT, Nat.reduceLeDiff, Nat.reduceEqDiff, Nat.reduceSub, Nat.zero_add, Nat.add_zero, List.drop_succ_cons, List.drop_zero, List.take_succ_cons, List.take_zero]
  · have cEb : ((checkTable fn n l ks rs).2 != 0) = true := by simpa using cE
    have f0 : ∀ x, first [(checkTable fn n l ks rs).2, x] = (checkTable fn n l ks rs).2 := fun x => by simp [first, cE]
    rw [if_pos cEb]
    by_cases dd : rrn < 1
    · have d5 : decide (rrn < 1) = true := by simpa using dd
      (refine run_fn T110 ⟨rfl, by decide⟩ ?_; rw [start110])
      simp (config := {decide := true, contextual := true, maxSteps := 3000000}) only [F110, h101, run81, run80_2, d5, f0, cEb, List.length_map, List.replicate, ↓simPre, simPost, Bool.not_not, Bool.not_false, Bool.not_true, Bool.false_eq_true, reduceCtorEq, ↓reduceIte, decide_true, decide_false, splice, results, resT, resTs, AV.key, Bool.and_true, Bool.true_and, and_true, true_and, and_self, List.flatMap_nil, List.flatMap_cons, List.append_nil, List.nil_append, List.cons_append, List.map_cons, List.map_nil, List.all_cons, List.all_nil, List.length_cons, List.length_nil, Nat.reduceAdd, Nat.reduceLT, Nat.reduceLeDiff, Nat.reduceEqDiff, Nat.reduceSub, Nat.zero_add, Nat.add_zero, List.drop_succ_cons, List.drop_zero, List.take_succ_cons, List.take_zero]
    · have d5 : decide (rrn < 1) = false := by simpa using dd
      (refine run_fn T110 ⟨rfl, by decide⟩ ?_; rw [start110])
      simp (config := {decide := true, contextual := true, maxSteps := 3000000}) only [F110, h101, run81, run80_2, d5, f0, cEb, List.length_map, List.replicate, ↓simPre, simPost, Bool.not_not, Bool.not_false, Bool.not_true, Bool.false_eq_true, reduceCtorEq, ↓reduceIte, decide_true, decide_false, splice, results, resT, resTs, AV.key, Bool.and_true, Bool.true_and, and_true, true_and, and_self, List.flatMap_nil, List.flatMap_cons, List.append_nil, List.nil_append, List.cons_append, List.map_cons, List.map_nil, List.all_cons, List.all_nil, List.length_cons, List.length_nil, Nat.reduceAdd, Nat.reduceLT, Nat.reduceLeDiff, Nat.reduceEqDiff, Nat.reduceSub, Nat.zero_add, Nat.add_zero, List.drop_succ_cons, List.drop_zero, List.take_succ_cons, List.take_zero]
/-- The zero value of a table. -/
abbrev noTab : List AV := [.str (bs []), .str (bs []), .sl [], .sl [], .bool false, .sl []]
end Go.Bv
