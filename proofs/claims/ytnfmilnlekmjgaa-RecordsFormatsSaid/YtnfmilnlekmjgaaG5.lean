/- BY VALUE, chapter 26: decimal. -/
import Derived.Test.YtnfmilnlekmjgaaC26I
set_option linter.unusedSimpArgs false
set_option linter.unusedVariables false
namespace Go.Bv
variable {S : RT}
attribute [local congr] ite_congr congr_bindOps congr_bindC congr_andThen congr_orNone congr_onBool congr_onEff congr_headC
set_option maxRecDepth 100000
set_option maxHeartbeats 40000000
def decGo (D A : List Int) (m : Nat) (lim : Int) : List Int → Nat → Int → Int × Int × Int
  | [], _, n => if (decide (D.getD m 0 < 10)) = true then (0, A.getD m 0, 21) else if (D.getD m 0 == 11 || D.getD m 0 == 13) = true then (IntKind.wrap .i64 (0 - n), 0, 0) else (n, 0, 0)
  | d :: l, i, n => if (decide (d > 9) || (decide (d > 0) && decide ((i : Int) < lim))) = true then (0, A.getD i 0, 21) else decGo D A m lim l (i + 1) (IntKind.wrap .i64 (IntKind.wrap .i64 (n * 10) + IntKind.wrap .i64 d))
theorem u8s_get (l : List Int) (i : Nat) (h : i < l.length) : (u8s l).getD i [] = [.int .u8 (l.getD i 0)] := by
  simp [u8s, List.getD_eq_getElem?_getD, List.getElem?_eq_getElem h]
def encI3 (x : Int × Int × Int) : AV := .tup [.int .i64 x.1, .int .i64 x.2.1, .int .i64 x.2.2]
theorem run152 (t : Ty) (s : ByteArray) (D A : List Int) (m : Nat) (hD : D.length = m + 1) (hA : A.length = m + 1) (hm : m ≤ 10000) (h161 : run T S 161 [.agg (encT t), .str s] = some (.tup [.sl (u8s D), .sl (ints A)])) :
    run T S 152 [.agg (encT t), .str s] = some (encI3 (decGo D A m (IntKind.wrap .i64 ((m : Int) - t.l)) (D.take m) 0 0)) := by
  obtain ⟨k, l, sc⟩ := t
  simp only [encT] at h161 ⊢
  have w1 : IntKind.wrap .i64 (((u8s D).length : Int) - 1) = (m : Int) := by rw [u8s_len, wrap_i64 (by omega) (by omega)]; omega
  have w2 : ((m : Int) ≤ ((u8s D).length : Int)) = True := by rw [u8s_len]; simp; omega
  have w3 : (u8s D).all (fun y => y.length == 1) = true := by simp [u8s]
  have w4 : (u8s D).take m = u8s (D.take m) := by simp [u8s, List.map_take]
  have w5 : (u8s (D.take m)).length = m := by rw [u8s_len]; simp; omega
  have w6 : ((m : Int) < ((u8s D).length : Int)) = True := by rw [u8s_len]; simp; omega
  have w7 : ((m : Int) < ((ints A).length : Int)) = True := by rw [ints_len]; simp; omega
  have w8 := u8s_get D m (by omega)
  have w9 := ints_get A m (by omega)
  (refine run_fn T152 ⟨rfl, by decide⟩ ?_; rw [start152])
  simp (config := {decide := true, contextual := true, maxSteps := 3000000}) only [F152, h161, w1, w2, w3, w4, w5, List.replicate, ↓simPre, simPost, Bool.not_not, Bool.not_false, Bool.not_true, Bool.false_eq_true, reduceCtorEq, ↓reduceIte, decide_true, decide_false, splice, results, resT, resTs, AV.key, Bool.and_true, Bool.true_and, and_true, true_and, and_self, List.flatMap_nil, List.flatMap_cons, List.append_nil, List.nil_append, List.cons_append, List.map_cons, List.map_nil, List.all_cons, List.all_nil, List.length_cons, List.length_nil, Nat.reduceAdd, Nat.reduceLT, Nat.reduceLeDiff, Nat.reduceEqDiff, Nat.reduceSub, Nat.zero_add, Nat.add_zero, List.drop_succ_cons, List.drop_zero, List.take_succ_cons, List.take_zero]
  refine Eq.trans (headC_ind (σ := Nat × Int) (fun x => ⟨[.unk, .unk, .ptr 2 0 0, .unk, .unk, .unk, .unk, .sl (u8s D), .sl (ints A), .int .i64 m, .int .i64 x.2] ++ List.replicate 13 .unk ++ [.sl (u8s (D.take m)), .int .i64 m, .int .i64 x.1] ++ List.replicate 54 .unk, [⟨0, .dead⟩, ⟨0, .dead⟩, ⟨0, .box [.int .i64 k, .int .i64 l, .int .i64 sc]⟩] ++ List.replicate 78 ⟨0, .dead⟩⟩)
    (fun x => some (encI3 (decGo D A m (IntKind.wrap .i64 ((m : Int) - l)) ((D.take m).drop x.1) x.1 x.2))) (fun i => m - i.1) (fun i => i.1 ≤ m) ?_ (0, 0) (by simp)) (by simp)
  rintro ⟨i, n⟩ hi ih
  simp only at hi
  by_cases hlt : i < m
  · obtain ⟨h1, h2, h4, h5⟩ := idx hlt (by omega)
    have h3 := u8s_get (D.take m) i (by simp; omega)
    have h2' : ((i : Int) < ((u8s (D.take m)).length : Int)) = True := by rw [w5]; exact h2
    have h6 : ((i : Int) < ((ints A).length : Int)) = True := by rw [ints_len]; simp; omega
    have h7 := ints_get A i (by omega)
    rw [drop_cons 0 (by simp; omega)]
    simp (config := {decide := true, contextual := true, maxSteps := 3000000}) only [h1, h2, h2', h3, h4, h5, h6, h7, w5, List.replicate, ↓simPre, simPost, Bool.not_not, Bool.not_false, Bool.not_true, Bool.false_eq_true, reduceCtorEq, ↓reduceIte, decide_true, decide_false, splice, results, resT, resTs, AV.key, Bool.and_true, Bool.true_and, and_true, true_and, and_self, List.flatMap_nil, List.flatMap_cons, List.append_nil, List.nil_append, List.cons_append, List.map_cons, List.map_nil, List.all_cons, List.all_nil, List.length_cons, List.length_nil, Nat.reduceAdd, Nat.reduceLT, Nat.reduceLeDiff, Nat.reduceEqDiff, Nat.reduceSub, Nat.zero_add, Nat.add_zero, List.drop_succ_cons, List.drop_zero, List.take_succ_cons, List.take_zero]
    simp only [decGo]
    split
    · rfl
    · exact ih (i + 1, _) (by simp only; omega) (by simp only; omega)
  · have h2 := idxEnd (Nat.le_of_not_lt hlt)
    have h7 : (D.take m).drop i = [] := List.drop_eq_nil_of_le (by simp; omega)
    simp (config := {decide := true, contextual := true, maxSteps := 3000000}) only [h2, h7, w6, w7, w8, w9, decGo, List.replicate, ↓simPre, simPost, Bool.not_not, Bool.not_false, Bool.not_true, Bool.false_eq_true, reduceCtorEq, ↓reduceIte, decide_true, decide_false, splice, results, resT, resTs, AV.key, Bool.and_true, Bool.true_and, and_true, true_and, and_self, List.flatMap_nil, List.flatMap_cons, List.append_nil, List.nil_append, List.cons_append, List.map_cons, List.map_nil, List.all_cons, List.all_nil, List.length_cons, List.length_nil, Nat.reduceAdd, Nat.reduceLT, Nat.reduceLeDiff, Nat.reduceEqDiff, Nat.reduceSub, Nat.zero_add, Nat.add_zero, List.drop_succ_cons, List.drop_zero, List.take_succ_cons, List.take_zero]
    (repeat' split) <;> rfl
end Go.Bv
