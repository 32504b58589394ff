/- BY VALUE, chapter 26: decoded, ValuesOf, CheckBytes. -/
import Derived.Test.YtnfmilnlekmjgaaG6
set_option linter.unusedSimpArgs false
set_option linter.unusedVariables false
namespace Go.Bv
variable {S : RT}
attribute [local congr] ite_congr congr_bindOps congr_bindC congr_andThen congr_orNone congr_onBool congr_onEff congr_headC
set_option maxRecDepth 100000
set_option maxHeartbeats 40000000
def decodedGo : List Fd → ByteArray → Nat → List Val → List Val × Int × Int
  | [], _, _, acc => (acc, 0, 0)
  | f :: l, s, i, acc =>
    if ((decode f.t (s.extract 0 (width f).toNat)).2.2 != 0) = true then ([], (i : Int), (decode f.t (s.extract 0 (width f).toNat)).2.2)
    else decodedGo l (s.extract (width f).toNat s.size) (i + 1) (acc ++ [(decode f.t (s.extract 0 (width f).toNat)).1])
def encVs (x : List Val × Int × Int) : AV := .tup [.sl (x.1.map encV), .int .i64 x.2.1, .int .i64 x.2.2]
theorem run78 (name : ByteArray) (l : List Fd) (s : ByteArray) (hl : l.length ≤ 1000000) (hs : (s.size : Int) = sizes l) (hsm : s.size ≤ 1000000000) :
    run T S 78 [.agg [.str name, .sl (l.map encF)], .str s] = some (encVs (decodedGo l s 0 [])) := by
  (refine run_fn T78 ⟨rfl, by decide⟩ ?_; rw [start78])
  simp (config := {decide := true, contextual := true, maxSteps := 3000000}) only [F78, List.length_map, List.replicate, ↓simPre, simPost, Bool.not_not, Bool.not_false, Bool.not_true, Bool.false_eq_true, reduceCtorEq, ↓reduceIte, decide_true, decide_false, splice, results, resT, resTs, AV.key, Bool.and_true, Bool.true_and, and_true, true_and, and_self, List.flatMap_nil, List.flatMap_cons, List.append_nil, List.nil_append, List.cons_append, List.map_cons, List.map_nil, List.all_cons, List.all_nil, List.length_cons, List.length_nil, Nat.reduceAdd, Nat.reduceLT, Nat.reduceLeDiff, Nat.reduceEqDiff, Nat.reduceSub, Nat.zero_add, Nat.add_zero, List.drop_succ_cons, List.drop_zero, List.take_succ_cons, List.take_zero]
  refine Eq.trans (headC_ind (σ := Nat × ByteArray × List Val) (fun x => match x.1 with
      | 0 => ⟨[.unk, .str x.2.1, .unk, .unk, .unk, .unk, .unk, .nil] ++ List.replicate 7 .unk ++ [.sl (l.map encF), .int .i64 l.length, .int .i64 0] ++ List.replicate 29 .unk, List.replicate 47 ⟨0, .dead⟩⟩
      | i + 1 => ⟨[.unk, .str x.2.1, .unk, .unk, .unk, .unk, .unk, .own 41 0] ++ List.replicate 7 .unk ++ [.sl (l.map encF), .int .i64 l.length, .int .i64 (i + 1 : Nat)] ++ List.replicate 29 .unk, List.replicate 41 ⟨0, .dead⟩ ++ [⟨0, .row 40 2 0 (x.2.2.map encV)⟩] ++ List.replicate 5 ⟨0, .dead⟩⟩)
    (fun x => some (encVs (decodedGo (l.drop x.1) x.2.1 x.1 x.2.2))) (fun x => l.length - x.1) (fun x => x.1 ≤ l.length ∧ (x.2.1.size : Int) = sizes (l.drop x.1) ∧ x.2.1.size ≤ 1000000000 ∧ x.2.2.length = x.1) ?_ (0, s, []) ⟨Nat.zero_le _, hs, hsm, rfl⟩) (by simp only [List.drop_zero])
  rintro ⟨i, r, acc⟩ ⟨hi, hr, hrm, ha⟩ ih
  simp only at hi hr hrm ha
  by_cases hlt : i < l.length
  · obtain ⟨h1, h2, h4, h5⟩ := idx hlt (by omega)
    have h3 := map_get encF l i default hlt
    rw [drop_cons default hlt] at hr ⊢
    have hw := width_range (l.getD i default)
    have hsz := sizes_range (l.drop (i + 1))
    simp only [sizes] at hr
    generalize hf : l.getD i default = f at h3 hr hw ⊢
    have h90 := run90 (S := S) f
    have g1 : (0 ≤ width f) = True := by simp; omega
    have g2 : (width f ≤ (r.size : Int)) = True := by simp; omega
    have hcast : ((width f).toNat : Int) = width f := by omega
    have h125 := run125 (S := S) f.t (r.extract 0 (width f).toNat) (by simp; omega)
    have hih := ih (i + 1, r.extract (width f).toNat r.size, acc ++ [(decode f.t (r.extract 0 (width f).toNat)).1]) ⟨by simp only; omega, by simp; omega, by simp; omega, by simp [ha]⟩ (by simp only; omega)
    simp only [encF, encT, encD, encV] at h3 h90 h125
    simp only [decodedGo]
    generalize decode f.t (r.extract 0 (width f).toNat) = d at h125 hih ⊢
    have e1 : (acc.map encV) ++ [[.int .i64 d.1.n, .str d.1.s]] = (acc ++ [d.1]).map encV := by simp [encV]
    have e2 : [[AV.int .i64 d.1.n, .str d.1.s]] = ([] ++ [d.1]).map encV := by simp [encV]
    cases i with
    | zero =>
      obtain rfl : acc = [] := List.eq_nil_of_length_eq_zero ha
      simp only [Int.ofNat_eq_natCast, Int.cast_ofNat_Int, Int.natCast_zero] at h1 h2 h4 h5
      simp (config := {decide := true, contextual := true, maxSteps := 3000000}) only [h1, h2, h3, h4, h5, h90, g1, g2, h125, List.length_map, List.replicate, ↓simPre, simPost, Bool.not_not, Bool.not_false, Bool.not_true, Bool.false_eq_true, reduceCtorEq, ↓reduceIte, decide_true, decide_false, splice, results, resT, resTs, AV.key, Bool.and_true, Bool.true_and, and_true, true_and, and_self, List.flatMap_nil, List.flatMap_cons, List.append_nil, List.nil_append, List.cons_append, List.map_cons, List.map_nil, List.all_cons, List.all_nil, List.length_cons, List.length_nil, Nat.reduceAdd, Nat.reduceLT, Nat.reduceLeDiff, Nat.reduceEqDiff, Nat.reduceSub, Nat.zero_add, Nat.add_zero, List.drop_succ_cons, List.drop_zero, List.take_succ_cons, List.take_zero]
      skip
      split
      · rfl
      · exact hih
    | succ i =>
      have g5 : (((acc.map encV).length + 1) * 24 ≤ 140737488355328) = True := by simp; omega
      have g6 : ((acc.length + 1) * 24 ≤ 140737488355328) = True := by simp; omega
      simp (config := {decide := true, contextual := true, maxSteps := 3000000}) only [h1, h2, h3, h4, h5, h90, g1, g2, g5, g6, h125, e1, List.length_map, List.replicate, ↓simPre, simPost, Bool.not_not, Bool.not_false, Bool.not_true, Bool.false_eq_true, reduceCtorEq, ↓reduceIte, decide_true, decide_false, splice, results, resT, resTs, AV.key, Bool.and_true, Bool.true_and, and_true, true_and, and_self, List.flatMap_nil, List.flatMap_cons, List.append_nil, List.nil_append, List.cons_append, List.map_cons, List.map_nil, List.all_cons, List.all_nil, List.length_cons, List.length_nil, Nat.reduceAdd, Nat.reduceLT, Nat.reduceLeDiff, Nat.reduceEqDiff, Nat.reduceSub, Nat.zero_add, Nat.add_zero, List.drop_succ_cons, List.drop_zero, List.take_succ_cons, List.take_zero]
      skip
      split
      · rfl
      · exact hih
  · have h2 := idxEnd (Nat.le_of_not_lt hlt)
    have h7 : l.drop i = [] := List.drop_eq_nil_of_le (by omega)
    cases i with
    | zero =>
      obtain rfl : acc = [] := List.eq_nil_of_length_eq_zero ha
      simp only [Int.ofNat_eq_natCast, Int.cast_ofNat_Int, Int.natCast_zero] at h2
      simp (config := {decide := true, contextual := true, maxSteps := 3000000}) only [h2, h7, decodedGo, encVs, List.length_map, List.replicate, ↓simPre, simPost, Bool.not_not, Bool.not_false, Bool.not_true, Bool.false_eq_true, reduceCtorEq, ↓reduceIte, decide_true, decide_false, splice, results, resT, resTs, AV.key, Bool.and_true, Bool.true_and, and_true, true_and, and_self, List.flatMap_nil, List.flatMap_cons, List.append_nil, List.nil_append, List.cons_append, List.map_cons, List.map_nil, List.all_cons, List.all_nil, List.length_cons, List.length_nil, Nat.reduceAdd, Nat.reduceLT, Nat.reduceLeDiff, Nat.reduceEqDiff, Nat.reduceSub, Nat.zero_add, Nat.add_zero, List.drop_succ_cons, List.drop_zero, List.take_succ_cons, List.take_zero]
    | succ i =>
      simp (config := {decide := true, contextual := true, maxSteps := 3000000}) only [h2, h7, decodedGo, encVs, List.length_map, List.replicate, ↓simPre, simPost, Bool.not_not, Bool.not_false, Bool.not_true, Bool.false_eq_true, reduceCtorEq, ↓reduceIte, decide_true, decide_false, splice, results, resT, resTs, AV.key, Bool.and_true, Bool.true_and, and_true, true_and, and_self, List.flatMap_nil, List.flatMap_cons, List.append_nil, List.nil_append, List.cons_append, List.map_cons, List.map_nil, List.all_cons, List.all_nil, List.length_cons, List.length_nil, Nat.reduceAdd, Nat.reduceLT, Nat.reduceLeDiff, Nat.reduceEqDiff, Nat.reduceSub, Nat.zero_add, Nat.add_zero, List.drop_succ_cons, List.drop_zero, List.take_succ_cons, List.take_zero]
/-- The values in bytes, an index, and the error. -/
def valuesOf (name : ByteArray) (l : List Fd) (s : ByteArray) : List Val × Int × Int :=
  if ((checkFormat name l).2 != 0) = true then ([], 0, (checkFormat name l).2)
  else if ((s.size : Int) != sizes l) = true then ([], 0, 18)
  else decodedGo l s 0 []
theorem run20 (name : ByteArray) (l : List Fd) (s : ByteArray) (h : Short name l) (hsm : s.size ≤ 1000000000) :
    run T S 20 [.agg [.str name, .sl (l.map encF)], .str s] = some (encVs (valuesOf name l s)) := by
  have h76 := run76 (S := S) name l h
  have h77 := run77 (S := S) name l (by have := h.2.1; omega)
  by_cases hb : (s.size : Int) = sizes l
  · have h78 := run78 (S := S) name l s (by have := h.2.1; omega) hb hsm
    have hb' : ((s.size : Int) != sizes l) = false := by simp [hb]
    simp only [encVs] at h78
    unfold valuesOf
    simp only [hb']
    (refine run_fn T20 ⟨rfl, by decide⟩ ?_; rw [start20])
    simp (config := {decide := true, contextual := true, maxSteps := 3000000}) only [F20, h76, h77, h78, hb', List.replicate, ↓simPre, simPost, Bool.not_not, Bool.not_false, Bool.not_true, Bool.false_eq_true, reduceCtorEq, ↓reduceIte, decide_true, decide_false, splice, results, resT, resTs, AV.key, Bool.and_true, Bool.true_and, and_true, true_and, and_self, List.flatMap_nil, List.flatMap_cons, List.append_nil, List.nil_append, List.cons_append, List.map_cons, List.map_nil, List.all_cons, List.all_nil, List.length_cons, List.length_nil, Nat.reduceAdd, Nat.reduceLT, Nat.reduceLeDiff, Nat.reduceEqDiff, Nat.reduceSub, Nat.zero_add, Nat.add_zero, List.drop_succ_cons, List.drop_zero, List.take_succ_cons, List.take_zero]
    skip
    split <;> rfl
  · have hb' : ((s.size : Int) != sizes l) = true := by simpa using hb
    unfold valuesOf
    simp only [hb']
    (refine run_fn T20 ⟨rfl, by decide⟩ ?_; rw [start20])
    simp (config := {decide := true, contextual := true, maxSteps := 3000000}) only [F20, h76, h77, hb', List.replicate, ↓simPre, simPost, Bool.not_not, Bool.not_false, Bool.not_true, Bool.false_eq_true, reduceCtorEq, ↓reduceIte, decide_true, decide_false, splice, results, resT, resTs, AV.key, Bool.and_true, Bool.true_and, and_true, true_and, and_self, List.flatMap_nil, List.flatMap_cons, List.append_nil, List.nil_append, List.cons_append, List.map_cons, List.map_nil, List.all_cons, List.all_nil, List.length_cons, List.length_nil, Nat.reduceAdd, Nat.reduceLT, Nat.reduceLeDiff, Nat.reduceEqDiff, Nat.reduceSub, Nat.zero_add, Nat.add_zero, List.drop_succ_cons, List.drop_zero, List.take_succ_cons, List.take_zero]
    skip
    split <;> rfl
theorem run17 (name : ByteArray) (l : List Fd) (s : ByteArray) (h : Short name l) (hsm : s.size ≤ 1000000000) :
    run T S 17 [.agg [.str name, .sl (l.map encF)], .str s] = some (.tup [.int .i64 (valuesOf name l s).2.1, .int .i64 (valuesOf name l s).2.2]) := by
  have h20 := run20 (S := S) name l s h hsm
  simp only [encVs] at h20
  (refine run_fn T17 ⟨rfl, by decide⟩ ?_; rw [start17])
  simp (config := {decide := true, contextual := true, maxSteps := 3000000}) only [F17, h20, List.replicate, ↓simPre, simPost, Bool.not_not, Bool.not_false, Bool.not_true, Bool.false_eq_true, reduceCtorEq, ↓reduceIte, decide_true, decide_false, splice, results, resT, resTs, AV.key, Bool.and_true, Bool.true_and, and_true, true_and, and_self, List.flatMap_nil, List.flatMap_cons, List.append_nil, List.nil_append, List.cons_append, List.map_cons, List.map_nil, List.all_cons, List.all_nil, List.length_cons, List.length_nil, Nat.reduceAdd, Nat.reduceLT, Nat.reduceLeDiff, Nat.reduceEqDiff, Nat.reduceSub, Nat.zero_add, Nat.add_zero, List.drop_succ_cons, List.drop_zero, List.take_succ_cons, List.take_zero]
end Go.Bv
