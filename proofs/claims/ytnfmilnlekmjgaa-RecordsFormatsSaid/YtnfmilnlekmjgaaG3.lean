/- BY VALUE, chapter 26: binary. -/
import Derived.Test.YtnfmilnlekmjgaaC26I
set_option linter.unusedSimpArgs false
set_option linter.unusedVariables false
namespace Go.Bv
variable {S : RT}
attribute [local congr] ite_congr congr_bindOps congr_bindC congr_andThen congr_orNone congr_onBool congr_onEff congr_headC
set_option maxRecDepth 100000
set_option maxHeartbeats 40000000
def binStep (n c : Int) : Int := IntKind.wrap .i64 ((BitVec.ofInt IntKind.i64.bits (IntKind.wrap .i64 (n * 256)) ||| BitVec.ofInt IntKind.i64.bits (IntKind.wrap .i64 c)).toNat : Int)
def binGo : List UInt8 → Int → Int
  | [], n => n
  | c :: l, n => binGo l (binStep n (c.toNat : Int))
def binN (s : ByteArray) : Int := binGo (s.extract 1 s.size).data.toList (IntKind.wrap .i64 (IntKind.wrap .i8 (byteAt s 0)))
theorem run151 (s : ByteArray) (hs : 1 ≤ s.size) (hs2 : s.size ≤ 1000) : run T S 151 [.str s] = some (.int .i64 (binN s)) := by
  have g1 : ((0:Int) < (s.size : Int)) = True := by simp; omega
  have g0 : ((s.size : Int) ≤ (s.size : Int)) = True := by simp
  have g2 : ((1:Int) ≤ (s.size : Int)) = True := by simp; omega
  have hsz : (s.extract 1 s.size).size = s.size - 1 := by simp
  have g4 : ((s.extract 1 s.size).size ≤ 140737488355328) = True := by simp; omega
  (refine run_fn T151 ⟨rfl, by decide⟩ ?_; rw [start151])
  simp (config := {decide := true, contextual := true, maxSteps := 3000000}) only [F151, g0, g1, g2, g4, List.replicate, ↓simPre, simPost, Bool.not_not, Bool.not_false, Bool.not_true, Bool.false_eq_true, reduceCtorEq, ↓reduceIte, decide_true, decide_false, splice, results, resT, resTs, AV.key, Bool.and_true, Bool.true_and, and_true, true_and, and_self, List.flatMap_nil, List.flatMap_cons, List.append_nil, List.nil_append, List.cons_append, List.map_cons, List.map_nil, List.all_cons, List.all_nil, List.length_cons, List.length_nil, Nat.reduceAdd, Nat.reduceLT, Nat.reduceLeDiff, Nat.reduceEqDiff, Nat.reduceSub, Nat.zero_add, Nat.add_zero, List.drop_succ_cons, List.drop_zero, List.take_succ_cons, List.take_zero]
  unfold binN
  refine Eq.trans (headC_ind (σ := Nat × Int) (fun x => ⟨[.unk, .unk, .unk, .int .i64 x.2] ++ List.replicate 8 .unk ++ [.sl (byteCells (s.extract 1 s.size)), .int .i64 (byteCells (s.extract 1 s.size)).length, .int .i64 x.1] ++ List.replicate 10 .unk, List.replicate 25 ⟨0, .dead⟩⟩)
    (fun x => some (AV.int .i64 (binGo ((s.extract 1 s.size).data.toList.drop x.1) x.2))) (fun i => (s.extract 1 s.size).size - i.1) (fun i => i.1 ≤ (s.extract 1 s.size).size) ?_ (0, IntKind.wrap .i64 (IntKind.wrap .i8 (byteAt s 0))) (Nat.zero_le _)) (by simp only [List.drop_zero])
  rintro ⟨i, n⟩ hi ih
  simp only at hi
  by_cases hlt : i < (s.extract 1 s.size).size
  · obtain ⟨h1, h2, h4, h5⟩ := idx hlt (by omega)
    have h3 := byteCells_get (s.extract 1 s.size) i hlt
    rw [drop_cons 0 (by rw [Array.length_toList]; exact hlt)]
    simp (config := {decide := true, contextual := true, maxSteps := 3000000}) only [h1, h2, h3, h4, h5, byteCells_len, List.replicate, ↓simPre, simPost, Bool.not_not, Bool.not_false, Bool.not_true, Bool.false_eq_true, reduceCtorEq, ↓reduceIte, decide_true, decide_false, splice, results, resT, resTs, AV.key, Bool.and_true, Bool.true_and, and_true, true_and, and_self, List.flatMap_nil, List.flatMap_cons, List.append_nil, List.nil_append, List.cons_append, List.map_cons, List.map_nil, List.all_cons, List.all_nil, List.length_cons, List.length_nil, Nat.reduceAdd, Nat.reduceLT, Nat.reduceLeDiff, Nat.reduceEqDiff, Nat.reduceSub, Nat.zero_add, Nat.add_zero, List.drop_succ_cons, List.drop_zero, List.take_succ_cons, List.take_zero]
    have := ih (i + 1, binStep n ((s.extract 1 s.size).data.toList.getD i 0).toNat) (by simp only; omega) (by simp only; omega)
    rw [byteCells_len] at this
    exact this
  · have h2 := idxEnd (Nat.le_of_not_lt hlt)
    have h7 : (s.extract 1 s.size).data.toList.drop i = [] := List.drop_eq_nil_of_le (by rw [Array.length_toList]; exact Nat.le_of_not_lt hlt)
    simp (config := {decide := true, contextual := true, maxSteps := 3000000}) only [h2, byteCells_len, h7, binGo, List.replicate, ↓simPre, simPost, Bool.not_not, Bool.not_false, Bool.not_true, Bool.false_eq_true, reduceCtorEq, ↓reduceIte, decide_true, decide_false, splice, results, resT, resTs, AV.key, Bool.and_true, Bool.true_and, and_true, true_and, and_self, List.flatMap_nil, List.flatMap_cons, List.append_nil, List.nil_append, List.cons_append, List.map_cons, List.map_nil, List.all_cons, List.all_nil, List.length_cons, List.length_nil, Nat.reduceAdd, Nat.reduceLT, Nat.reduceLeDiff, Nat.reduceEqDiff, Nat.reduceSub, Nat.zero_add, Nat.add_zero, List.drop_succ_cons, List.drop_zero, List.take_succ_cons, List.take_zero]
end Go.Bv
