/- BY VALUE, chapter 26, the reference: Big, Power, Most, signed. -/
import Derived.Test.YtnfmilnlekmjgaaG6
set_option linter.unusedSimpArgs false
set_option linter.unusedVariables false
namespace Go.Bv
variable {S : RT}
attribute [local congr] ite_congr congr_bindOps congr_bindC congr_andThen congr_orNone congr_onBool congr_onEff congr_headC
set_option maxRecDepth 100000
set_option maxHeartbeats 40000000
def bigStep (n c : Int) : Int := IntKind.wrap .i64 (IntKind.wrap .i64 (n * 256) + IntKind.wrap .i64 c)
def bigGo : List UInt8 → Int → Int
  | [], n => n
  | c :: l, n => bigGo l (bigStep n (c.toNat : Int))
theorem run121 (s : ByteArray) (hs : s.size ≤ 1000000000) : run T S 121 [.str s, .int .i64 0, .int .i64 s.size] = some (.int .i64 (bigGo s.data.toList 0)) := by
  (refine run_fn T121 ⟨rfl, by decide⟩ ?_; rw [start121])
  simp (config := {decide := true, contextual := true, maxSteps := 3000000}) only [F121, List.replicate, ↓simPre, simPost, Bool.not_not, Bool.not_false, Bool.not_true, Bool.false_eq_true, reduceCtorEq, ↓reduceIte, decide_true, decide_false, splice, results, resT, resTs, AV.key, Bool.and_true, Bool.true_and, and_true, true_and, and_self, List.flatMap_nil, List.flatMap_cons, List.append_nil, List.nil_append, List.cons_append, List.map_cons, List.map_nil, List.all_cons, List.all_nil, List.length_cons, List.length_nil, Nat.reduceAdd, Nat.reduceLT, Nat.reduceLeDiff, Nat.reduceEqDiff, Nat.reduceSub, Nat.zero_add, Nat.add_zero, List.drop_succ_cons, List.drop_zero, List.take_succ_cons, List.take_zero]
  refine Eq.trans (headC_ind (σ := Nat × Int) (fun x => ⟨[.str s, .int .i64 0, .int .i64 s.size, .unk, .unk, .unk, .unk, .int .i64 x.2, .int .i64 x.1] ++ List.replicate 15 .unk, List.replicate 24 ⟨0, .dead⟩⟩)
    (fun x => some (AV.int .i64 (bigGo (s.data.toList.drop x.1) x.2))) (fun x => s.size - x.1) (fun x => x.1 ≤ s.size) ?_ (0, 0) (Nat.zero_le _)) (by simp only [List.drop_zero])
  rintro ⟨i, n⟩ hi ih
  simp only at hi
  by_cases hlt : i < s.size
  · obtain ⟨h1, h2, h4, h5⟩ := idx hlt (by omega)
    have hb : byteAt s i = ((s.data.toList.getD i 0).toNat : Int) := by simp [byteAt]
    have w0 : IntKind.wrap .i64 ((0 : Int) + (i : Int)) = (i : Int) := by rw [wrap_i64 (by omega) (by omega)]; omega
    rw [drop_cons 0 (by rw [Array.length_toList]; exact hlt)]
    simp (config := {decide := true, contextual := true, maxSteps := 3000000}) only [h1, h2, h4, h5, hb, w0, List.replicate, ↓simPre, simPost, Bool.not_not, Bool.not_false, Bool.not_true, Bool.false_eq_true, reduceCtorEq, ↓reduceIte, decide_true, decide_false, splice, results, resT, resTs, AV.key, Bool.and_true, Bool.true_and, and_true, true_and, and_self, List.flatMap_nil, List.flatMap_cons, List.append_nil, List.nil_append, List.cons_append, List.map_cons, List.map_nil, List.all_cons, List.all_nil, List.length_cons, List.length_nil, Nat.reduceAdd, Nat.reduceLT, Nat.reduceLeDiff, Nat.reduceEqDiff, Nat.reduceSub, Nat.zero_add, Nat.add_zero, List.drop_succ_cons, List.drop_zero, List.take_succ_cons, List.take_zero]
    exact ih (i + 1, _) (by simp only; omega) (by simp only; omega)
  · have h2 := idxEnd (Nat.le_of_not_lt hlt)
    have h7 : s.data.toList.drop i = [] := List.drop_eq_nil_of_le (by rw [Array.length_toList]; exact Nat.le_of_not_lt hlt)
    simp (config := {decide := true, contextual := true, maxSteps := 3000000}) only [h2, h7, bigGo, List.replicate, ↓simPre, simPost, Bool.not_not, Bool.not_false, Bool.not_true, Bool.false_eq_true, reduceCtorEq, ↓reduceIte, decide_true, decide_false, splice, results, resT, resTs, AV.key, Bool.and_true, Bool.true_and, and_true, true_and, and_self, List.flatMap_nil, List.flatMap_cons, List.append_nil, List.nil_append, List.cons_append, List.map_cons, List.map_nil, List.all_cons, List.all_nil, List.length_cons, List.length_nil, Nat.reduceAdd, Nat.reduceLT, Nat.reduceLeDiff, Nat.reduceEqDiff, Nat.reduceSub, Nat.zero_add, Nat.add_zero, List.drop_succ_cons, List.drop_zero, List.take_succ_cons, List.take_zero]
theorem run148 (n : Int) (hn0 : 0 ≤ n) (hn : n ≤ 18) : run T S 148 [.int .i64 n] = some (.int .i64 (powT n)) := by
  (refine run_fn T148 ⟨rfl, by decide⟩ ?_; rw [start148])
  simp (config := {decide := true, contextual := true, maxSteps := 3000000}) only [F148, List.replicate, ↓simPre, simPost, Bool.not_not, Bool.not_false, Bool.not_true, Bool.false_eq_true, reduceCtorEq, ↓reduceIte, decide_true, decide_false, splice, results, resT, resTs, AV.key, Bool.and_true, Bool.true_and, and_true, true_and, and_self, List.flatMap_nil, List.flatMap_cons, List.append_nil, List.nil_append, List.cons_append, List.map_cons, List.map_nil, List.all_cons, List.all_nil, List.length_cons, List.length_nil, Nat.reduceAdd, Nat.reduceLT, Nat.reduceLeDiff, Nat.reduceEqDiff, Nat.reduceSub, Nat.zero_add, Nat.add_zero, List.drop_succ_cons, List.drop_zero, List.take_succ_cons, List.take_zero]
  have hp : powT n = pow10 n.toNat := by unfold powT; rw [if_neg (by omega)]
  rw [hp]
  refine Eq.trans (headC_ind (σ := Nat) (fun i => ⟨[.int .i64 n, .unk, .unk, .int .i64 (pow10 i), .int .i64 i] ++ List.replicate 8 .unk, List.replicate 13 ⟨0, .dead⟩⟩)
    (fun i => some (AV.int .i64 (pow10 n.toNat))) (fun i => n.toNat - i) (fun i => i ≤ n.toNat) ?_ 0 (Nat.zero_le _)) (by simp)
  intro i hi ih
  by_cases hlt : i < n.toNat
  · have h2 : ((i : Int) < n) = True := by simp; omega
    obtain ⟨h1, -, h4, h5⟩ := idx hlt (by omega)
    have hr := pow10_range (n := i + 1) (by omega)
    simp only [pow10] at hr
    have h6 : IntKind.wrap .i64 (pow10 i * 10) = pow10 (i + 1) := by simp only [pow10]; rw [Int.mul_comm]; exact wrap_i64 (by omega) (by omega)
    simp (config := {decide := true, contextual := true, maxSteps := 3000000}) only [h2, h5, h6, List.replicate, ↓simPre, simPost, Bool.not_not, Bool.not_false, Bool.not_true, Bool.false_eq_true, reduceCtorEq, ↓reduceIte, decide_true, decide_false, splice, results, resT, resTs, AV.key, Bool.and_true, Bool.true_and, and_true, true_and, and_self, List.flatMap_nil, List.flatMap_cons, List.append_nil, List.nil_append, List.cons_append, List.map_cons, List.map_nil, List.all_cons, List.all_nil, List.length_cons, List.length_nil, Nat.reduceAdd, Nat.reduceLT, Nat.reduceLeDiff, Nat.reduceEqDiff, Nat.reduceSub, Nat.zero_add, Nat.add_zero, List.drop_succ_cons, List.drop_zero, List.take_succ_cons, List.take_zero]
    exact ih (i + 1) (by omega) (by omega)
  · have h2 : ((i : Int) < n) = False := by simp; omega
    have h7 : n.toNat = i := by omega
    simp (config := {decide := true, contextual := true, maxSteps := 3000000}) only [h2, h7, List.replicate, ↓simPre, simPost, Bool.not_not, Bool.not_false, Bool.not_true, Bool.false_eq_true, reduceCtorEq, ↓reduceIte, decide_true, decide_false, splice, results, resT, resTs, AV.key, Bool.and_true, Bool.true_and, and_true, true_and, and_self, List.flatMap_nil, List.flatMap_cons, List.append_nil, List.nil_append, List.cons_append, List.map_cons, List.map_nil, List.all_cons, List.all_nil, List.length_cons, List.length_nil, Nat.reduceAdd, Nat.reduceLT, Nat.reduceLeDiff, Nat.reduceEqDiff, Nat.reduceSub, Nat.zero_add, Nat.add_zero, List.drop_succ_cons, List.drop_zero, List.take_succ_cons, List.take_zero]
theorem run122 (t : Ty) (h0 : 0 ≤ t.l) (h18 : t.l ≤ 18) : run T S 122 [.agg (encT t)] = some (.int .i64 (powT t.l - 1)) := by
  obtain ⟨k, l, sc⟩ := t
  simp only at h0 h18
  simp only [encT]
  have h148 := run148 (S := S) l h0 h18
  have hr := powT_range l
  have w1 : IntKind.wrap .i64 (powT l - 1) = powT l - 1 := wrap_i64 (by omega) (by omega)
  (refine run_fn T122 ⟨rfl, by decide⟩ ?_; rw [start122])
  simp (config := {decide := true, contextual := true, maxSteps := 3000000}) only [F122, h148, w1, List.replicate, ↓simPre, simPost, Bool.not_not, Bool.not_false, Bool.not_true, Bool.false_eq_true, reduceCtorEq, ↓reduceIte, decide_true, decide_false, splice, results, resT, resTs, AV.key, Bool.and_true, Bool.true_and, and_true, true_and, and_self, List.flatMap_nil, List.flatMap_cons, List.append_nil, List.nil_append, List.cons_append, List.map_cons, List.map_nil, List.all_cons, List.all_nil, List.length_cons, List.length_nil, Nat.reduceAdd, Nat.reduceLT, Nat.reduceLeDiff, Nat.reduceEqDiff, Nat.reduceSub, Nat.zero_add, Nat.add_zero, List.drop_succ_cons, List.drop_zero, List.take_succ_cons, List.take_zero]
def signN (n half : Int) : Int := if (half == 11 || half == 13) = true then IntKind.wrap .i64 (0 - n) else n
theorem run149 (n half : Int) : run T S 149 [.int .i64 n, .int .i64 half] = some (.tup [.int .i64 (signN n half), .bool (decide (half ≥ 10))]) := by
  (refine run_fn T149 ⟨rfl, by decide⟩ ?_; rw [start149])
  simp (config := {decide := true, contextual := true, maxSteps := 3000000}) only [F149, signN, List.replicate, ↓simPre, simPost, Bool.not_not, Bool.not_false, Bool.not_true, Bool.false_eq_true, reduceCtorEq, ↓reduceIte, decide_true, decide_false, splice, results, resT, resTs, AV.key, Bool.and_true, Bool.true_and, and_true, true_and, and_self, List.flatMap_nil, List.flatMap_cons, List.append_nil, List.nil_append, List.cons_append, List.map_cons, List.map_nil, List.all_cons, List.all_nil, List.length_cons, List.length_nil, Nat.reduceAdd, Nat.reduceLT, Nat.reduceLeDiff, Nat.reduceEqDiff, Nat.reduceSub, Nat.zero_add, Nat.add_zero, List.drop_succ_cons, List.drop_zero, List.take_succ_cons, List.take_zero]
  skip
  (repeat' split) <;> rfl
end Go.Bv
