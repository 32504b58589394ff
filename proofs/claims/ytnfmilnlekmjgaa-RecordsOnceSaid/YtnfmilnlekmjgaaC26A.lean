/- BY VALUE, chapter 26: the program's functions, one by one. -/
import Derived.Test.YtnfmilnlekmjgaaC26F
import Derived.Test.YtnfmilnlekmjgaaBvSim2
set_option linter.unusedSimpArgs false
set_option linter.unusedVariables false
namespace Go.Bv
variable {S : RT}
attribute [local congr] ite_congr congr_bindOps congr_bindC congr_andThen congr_orNone congr_onBool congr_onEff congr_headC
set_option maxRecDepth 100000
set_option maxHeartbeats 40000000

theorem drop_cons {α : Type} {l : List α} {i : Nat} (d : α) (h : i < l.length) : l.drop i = l.getD i d :: l.drop (i + 1) := by
  rw [List.drop_eq_getElem_cons h]
  simp [List.getD_eq_getElem?_getD, List.getElem?_eq_getElem h]

def letterB (c : Int) : Bool := (decide (65 ≤ c) && decide (c ≤ 90)) || c == 35 || c == 36 || c == 64
def otherB (c : Int) : Bool := (decide (48 ≤ c) && decide (c ≤ 57)) || c == 95 || c == 46
def nameFrom : List UInt8 → Bool → Bool
  | [], _ => true
  | c :: l, first => (letterB c.toNat || (!first && otherB c.toNat)) && nameFrom l false
def isName (s : ByteArray) : Bool := !(s.toList == (bs []).toList) && decide (s.size ≤ 10) && nameFrom s.data.toList true

theorem name_no {L O z z' rest : Bool} (hz : z' = z) (h : (!L && (z || !O)) = true) : ((L || (!z' && O)) && rest) = false := by
  subst hz; cases L <;> cases O <;> cases z' <;> simp_all
theorem name_yes {L O z z' rest : Bool} (hz : z' = z) (h : ¬ (!L && (z || !O)) = true) : ((L || (!z' && O)) && rest) = rest := by
  subst hz; cases L <;> cases O <;> cases z' <;> simp_all

set_option maxRecDepth 100000 in
set_option maxHeartbeats 40000000 in
theorem run87 {T : Nat → Option F} (hT : T 87 = some F87) (s : ByteArray) (hs : s.size ≤ 140737488355328) : run T S 87 [.str s] = some (.bool (isName s)) := by
  refine run_fn hT ⟨rfl, by decide⟩ ?_
  have hs' : (F87.start [.str s]) = ⟨.str s :: List.replicate 64 .unk, List.replicate 65 ⟨0, .dead⟩⟩ := rfl
  rw [hs']
  simp (config := {decide := true, contextual := true, maxSteps := 3000000}) only [F87, List.replicate, hs, ↓simPre, simPost, Bool.not_not, Bool.not_false, Bool.not_true, Bool.false_eq_true, reduceCtorEq, ↓reduceIte, decide_true, decide_false, splice, results, resT, resTs, AV.key, Bool.and_true, Bool.true_and, and_true, true_and, and_self, List.flatMap_nil, List.flatMap_cons, List.append_nil, List.nil_append, List.cons_append, List.map_cons, List.map_nil, List.all_cons, List.all_nil, List.length_cons, List.length_nil, Nat.reduceAdd, Nat.reduceLT, Nat.reduceLeDiff, Nat.reduceEqDiff, Nat.reduceSub, Nat.zero_add, Nat.add_zero, List.drop_succ_cons, List.drop_zero, List.take_succ_cons, List.take_zero]
  unfold isName
  by_cases h0 : (s.toList == (bs []).toList) = true
  · simp only [h0, if_true]; rfl
  · by_cases h10 : (s.size : Int) > 10
    · have : ¬ s.size ≤ 10 := by omega
      simp only [h0, h10, if_false, if_true, decide_true, this, decide_false, Bool.and_false, Bool.false_and]
      rfl
    · have h11 : s.size ≤ 10 := by omega
      simp only [h0, h10, decide_false, decide_true, h11, Bool.not_false, Bool.true_and, Bool.false_eq_true, if_false]
      refine headC_ind (σ := Nat) (fun i => ⟨List.replicate 15 .unk ++ [.sl (byteCells s), .int .i64 (byteCells s).length, .int .i64 i] ++ List.replicate 47 .unk, List.replicate 65 ⟨0, .dead⟩⟩)
        (fun i => some (AV.bool (nameFrom (s.data.toList.drop i) (i == 0)))) (fun i => s.size - i) (fun i => i ≤ s.size) ?_ 0 (Nat.zero_le _)
      intro i hi ih
      have h4 : (i : Int).toNat = i := by omega
      by_cases hlt : i < s.size
      · have h1 : (0 ≤ (i : Int)) = True := by simp
        have h2 : ((i : Int) < ((byteCells s).length : Int)) = True := by rw [byteCells_len]; simp; omega
        have h3 := byteCells_get s i hlt
        have h5 : IntKind.wrap .i64 ((i : Int) + 1) = ((i + 1 : Nat) : Int) := by rw [wrap_i64 (by omega) (by omega)]; omega
        rw [drop_cons 0 (by rw [Array.length_toList]; exact hlt)]
        simp (config := {decide := true, contextual := true, maxSteps := 3000000}) only [List.replicate, h1, h2, h3, h4, h5, ↓simPre, simPost, Bool.not_not, Bool.not_false, Bool.not_true, Bool.false_eq_true, reduceCtorEq, ↓reduceIte, decide_true, decide_false, splice, results, resT, resTs, AV.key, Bool.and_true, Bool.true_and, and_true, true_and, and_self, List.flatMap_nil, List.flatMap_cons, List.append_nil, List.nil_append, List.cons_append, List.map_cons, List.map_nil, List.all_cons, List.all_nil, List.length_cons, List.length_nil, Nat.reduceAdd, Nat.reduceLT, Nat.reduceLeDiff, Nat.reduceEqDiff, Nat.reduceSub, Nat.zero_add, Nat.add_zero, List.drop_succ_cons, List.drop_zero, List.take_succ_cons, List.take_zero]
        simp only [nameFrom]
        split
        · rename_i hc
          exact congrArg (fun b => some (AV.bool b)) (name_no (L := letterB _) (O := otherB _) (z := ((i : Int) == 0)) (z' := (i == 0)) (by cases i <;> rfl) hc).symm
        · rename_i hc
          refine (ih (i + 1) (by omega) (by omega)).trans ?_
          exact congrArg (fun b => some (AV.bool b)) (name_yes (L := letterB _) (O := otherB _) (z := ((i : Int) == 0)) (z' := (i == 0)) (by cases i <;> rfl) hc).symm
      · have h2 : ((i : Int) < ((byteCells s).length : Int)) = False := by rw [byteCells_len]; simp; omega
        have h7 : s.data.toList.drop i = [] := List.drop_eq_nil_of_le (by rw [Array.length_toList]; exact Nat.le_of_not_lt hlt)
        simp (config := {decide := true, contextual := true, maxSteps := 3000000}) only [List.replicate, h2, h7, nameFrom, ↓simPre, simPost, Bool.not_not, Bool.not_false, Bool.not_true, Bool.false_eq_true, reduceCtorEq, ↓reduceIte, decide_true, decide_false, splice, results, resT, resTs, AV.key, Bool.and_true, Bool.true_and, and_true, true_and, and_self, List.flatMap_nil, List.flatMap_cons, List.append_nil, List.nil_append, List.cons_append, List.map_cons, List.map_nil, List.all_cons, List.all_nil, List.length_cons, List.length_nil, Nat.reduceAdd, Nat.reduceLT, Nat.reduceLeDiff, Nat.reduceEqDiff, Nat.reduceSub, Nat.zero_add, Nat.add_zero, List.drop_succ_cons, List.drop_zero, List.take_succ_cons, List.take_zero]
/-- An error if something holds. -/
def cond (is : Bool) (e : Int) : Int := if is = true then e else 0
theorem run81 (is : Bool) (e : Int) : run T S 81 [.bool is, .int .i64 e] = some (.int .i64 (cond is e)) := by
  (refine run_fn T81 ⟨rfl, by decide⟩ ?_; rw [start81])
  simp (config := {decide := true, contextual := true, maxSteps := 3000000}) only [F81, cond, List.replicate, ↓simPre, simPost, Bool.not_not, Bool.not_false, Bool.not_true, Bool.false_eq_true, reduceCtorEq, ↓reduceIte, decide_true, decide_false, splice, results, resT, resTs, AV.key, Bool.and_true, Bool.true_and, and_true, true_and, and_self, List.flatMap_nil, List.flatMap_cons, List.append_nil, List.nil_append, List.cons_append, List.map_cons, List.map_nil, List.all_cons, List.all_nil, List.length_cons, List.length_nil, Nat.reduceAdd, Nat.reduceLT, Nat.reduceLeDiff, Nat.reduceEqDiff, Nat.reduceSub, Nat.zero_add, Nat.add_zero, List.drop_succ_cons, List.drop_zero, List.take_succ_cons, List.take_zero]
  split <;> rfl
theorem run131 (is : Bool) (e : Int) : run T S 131 [.bool is, .int .i64 e] = some (.int .i64 (cond is e)) := by
  (refine run_fn T131 ⟨rfl, by decide⟩ ?_; rw [start131])
  simp (config := {decide := true, contextual := true, maxSteps := 3000000}) only [F131, cond, List.replicate, ↓simPre, simPost, Bool.not_not, Bool.not_false, Bool.not_true, Bool.false_eq_true, reduceCtorEq, ↓reduceIte, decide_true, decide_false, splice, results, resT, resTs, AV.key, Bool.and_true, Bool.true_and, and_true, true_and, and_self, List.flatMap_nil, List.flatMap_cons, List.append_nil, List.nil_append, List.cons_append, List.map_cons, List.map_nil, List.all_cons, List.all_nil, List.length_cons, List.length_nil, Nat.reduceAdd, Nat.reduceLT, Nat.reduceLeDiff, Nat.reduceEqDiff, Nat.reduceSub, Nat.zero_add, Nat.add_zero, List.drop_succ_cons, List.drop_zero, List.take_succ_cons, List.take_zero]
  split <;> rfl
theorem run129 (n lo hi : Int) : run T S 129 [.int .i64 n, .int .i64 lo, .int .i64 hi] = some (.bool (decide (lo ≤ n) && decide (n ≤ hi))) := by
  (refine run_fn T129 ⟨rfl, by decide⟩ ?_; rw [start129])
  simp (config := {decide := true, contextual := true, maxSteps := 3000000}) only [F129, List.replicate, ↓simPre, simPost, Bool.not_not, Bool.not_false, Bool.not_true, Bool.false_eq_true, reduceCtorEq, ↓reduceIte, decide_true, decide_false, splice, results, resT, resTs, AV.key, Bool.and_true, Bool.true_and, and_true, true_and, and_self, List.flatMap_nil, List.flatMap_cons, List.append_nil, List.nil_append, List.cons_append, List.map_cons, List.map_nil, List.all_cons, List.all_nil, List.length_cons, List.length_nil, Nat.reduceAdd, Nat.reduceLT, Nat.reduceLeDiff, Nat.reduceEqDiff, Nat.reduceSub, Nat.zero_add, Nat.add_zero, List.drop_succ_cons, List.drop_zero, List.take_succ_cons, List.take_zero]
/-- The first error. -/
def first : List Int → Int
  | [] => 0
  | e :: l => if (e != 0) = true then e else first l
def ints (l : List Int) : List (List AV) := l.map fun e => [.int .i64 e]
theorem ints_len (l : List Int) : (ints l).length = l.length := by simp [ints]
theorem ints_get (l : List Int) (i : Nat) (h : i < l.length) : (ints l).getD i [] = [.int .i64 (l.getD i 0)] := by
  simp [ints, List.getD_eq_getElem?_getD, List.getElem?_eq_getElem h]
theorem run80 (l : List Int) (hl : l.length ≤ 1000) : run T S 80 [.sl (ints l)] = some (.int .i64 (first l)) := by
  (refine run_fn T80 ⟨rfl, by decide⟩ ?_; rw [start80])
  simp (config := {decide := true, contextual := true, maxSteps := 3000000}) only [F80, List.replicate, ↓simPre, simPost, Bool.not_not, Bool.not_false, Bool.not_true, Bool.false_eq_true, reduceCtorEq, ↓reduceIte, decide_true, decide_false, splice, results, resT, resTs, AV.key, Bool.and_true, Bool.true_and, and_true, true_and, and_self, List.flatMap_nil, List.flatMap_cons, List.append_nil, List.nil_append, List.cons_append, List.map_cons, List.map_nil, List.all_cons, List.all_nil, List.length_cons, List.length_nil, Nat.reduceAdd, Nat.reduceLT, Nat.reduceLeDiff, Nat.reduceEqDiff, Nat.reduceSub, Nat.zero_add, Nat.add_zero, List.drop_succ_cons, List.drop_zero, List.take_succ_cons, List.take_zero]
  refine headC_ind (σ := Nat) (fun i => ⟨List.replicate 5 .unk ++ [.sl (ints l), .int .i64 (ints l).length, .int .i64 i] ++ List.replicate 7 .unk, List.replicate 15 ⟨0, .dead⟩⟩)
    (fun i => some (AV.int .i64 (first (l.drop i)))) (fun i => l.length - i) (fun i => i ≤ l.length) ?_ 0 (Nat.zero_le _)
  intro i hi ih
  have h4 : (i : Int).toNat = i := by omega
  by_cases hlt : i < l.length
  · have h1 : (0 ≤ (i : Int)) = True := by simp
    have h2 : ((i : Int) < ((ints l).length : Int)) = True := by rw [ints_len]; simp; omega
    have h3 := ints_get l i hlt
    have h5 : IntKind.wrap .i64 ((i : Int) + 1) = ((i + 1 : Nat) : Int) := by rw [wrap_i64 (by omega) (by omega)]; omega
    rw [drop_cons 0 hlt]
    simp (config := {decide := true, contextual := true, maxSteps := 3000000}) only [h1, h2, h3, h4, h5, List.replicate, ↓simPre, simPost, Bool.not_not, Bool.not_false, Bool.not_true, Bool.false_eq_true, reduceCtorEq, ↓reduceIte, decide_true, decide_false, splice, results, resT, resTs, AV.key, Bool.and_true, Bool.true_and, and_true, true_and, and_self, List.flatMap_nil, List.flatMap_cons, List.append_nil, List.nil_append, List.cons_append, List.map_cons, List.map_nil, List.all_cons, List.all_nil, List.length_cons, List.length_nil, Nat.reduceAdd, Nat.reduceLT, Nat.reduceLeDiff, Nat.reduceEqDiff, Nat.reduceSub, Nat.zero_add, Nat.add_zero, List.drop_succ_cons, List.drop_zero, List.take_succ_cons, List.take_zero]
    simp only [first]
    split
    · rfl
    · exact ih (i + 1) (by omega) (by omega)
  · have h2 : ((i : Int) < ((ints l).length : Int)) = False := by rw [ints_len]; simp; omega
    have h7 : l.drop i = [] := List.drop_eq_nil_of_le (by omega)
    simp (config := {decide := true, contextual := true, maxSteps := 3000000}) only [h2, h7, first, List.replicate, ↓simPre, simPost, Bool.not_not, Bool.not_false, Bool.not_true, Bool.false_eq_true, reduceCtorEq, ↓reduceIte, decide_true, decide_false, splice, results, resT, resTs, AV.key, Bool.and_true, Bool.true_and, and_true, true_and, and_self, List.flatMap_nil, List.flatMap_cons, List.append_nil, List.nil_append, List.cons_append, List.map_cons, List.map_nil, List.all_cons, List.all_nil, List.length_cons, List.length_nil, Nat.reduceAdd, Nat.reduceLT, Nat.reduceLeDiff, Nat.reduceEqDiff, Nat.reduceSub, Nat.zero_add, Nat.add_zero, List.drop_succ_cons, List.drop_zero, List.take_succ_cons, List.take_zero]
theorem run80_2 (a b : Int) : run T S 80 [.sl [[.int .i64 a], [.int .i64 b]]] = some (.int .i64 (first [a, b])) := run80 [a, b] (by simp)
theorem run80_3 (a b c : Int) : run T S 80 [.sl [[.int .i64 a], [.int .i64 b], [.int .i64 c]]] = some (.int .i64 (first [a, b, c])) := run80 [a, b, c] (by simp)
theorem run80_4 (a b c d : Int) : run T S 80 [.sl [[.int .i64 a], [.int .i64 b], [.int .i64 c], [.int .i64 d]]] = some (.int .i64 (first [a, b, c, d])) := run80 [a, b, c, d] (by simp)
theorem run130 (l : List Int) (hl : l.length ≤ 1000) : run T S 130 [.sl (ints l)] = some (.int .i64 (first l)) := by
  (refine run_fn T130 ⟨rfl, by decide⟩ ?_; rw [start130])
  simp (config := {decide := true, contextual := true, maxSteps := 3000000}) only [F130, List.replicate, ↓simPre, simPost, Bool.not_not, Bool.not_false, Bool.not_true, Bool.false_eq_true, reduceCtorEq, ↓reduceIte, decide_true, decide_false, splice, results, resT, resTs, AV.key, Bool.and_true, Bool.true_and, and_true, true_and, and_self, List.flatMap_nil, List.flatMap_cons, List.append_nil, List.nil_append, List.cons_append, List.map_cons, List.map_nil, List.all_cons, List.all_nil, List.length_cons, List.length_nil, Nat.reduceAdd, Nat.reduceLT, Nat.reduceLeDiff, Nat.reduceEqDiff, Nat.reduceSub, Nat.zero_add, Nat.add_zero, List.drop_succ_cons, List.drop_zero, List.take_succ_cons, List.take_zero]
  refine headC_ind (σ := Nat) (fun i => ⟨List.replicate 5 .unk ++ [.sl (ints l), .int .i64 (ints l).length, .int .i64 i] ++ List.replicate 7 .unk, List.replicate 15 ⟨0, .dead⟩⟩)
    (fun i => some (AV.int .i64 (first (l.drop i)))) (fun i => l.length - i) (fun i => i ≤ l.length) ?_ 0 (Nat.zero_le _)
  intro i hi ih
  have h4 : (i : Int).toNat = i := by omega
  by_cases hlt : i < l.length
  · have h1 : (0 ≤ (i : Int)) = True := by simp
    have h2 : ((i : Int) < ((ints l).length : Int)) = True := by rw [ints_len]; simp; omega
    have h3 := ints_get l i hlt
    have h5 : IntKind.wrap .i64 ((i : Int) + 1) = ((i + 1 : Nat) : Int) := by rw [wrap_i64 (by omega) (by omega)]; omega
    rw [drop_cons 0 hlt]
    simp (config := {decide := true, contextual := true, maxSteps := 3000000}) only [h1, h2, h3, h4, h5, List.replicate, ↓simPre, simPost, Bool.not_not, Bool.not_false, Bool.not_true, Bool.false_eq_true, reduceCtorEq, ↓reduceIte, decide_true, decide_false, splice, results, resT, resTs, AV.key, Bool.and_true, Bool.true_and, and_true, true_and, and_self, List.flatMap_nil, List.flatMap_cons, List.append_nil, List.nil_append, List.cons_append, List.map_cons, List.map_nil, List.all_cons, List.all_nil, List.length_cons, List.length_nil, Nat.reduceAdd, Nat.reduceLT, Nat.reduceLeDiff, Nat.reduceEqDiff, Nat.reduceSub, Nat.zero_add, Nat.add_zero, List.drop_succ_cons, List.drop_zero, List.take_succ_cons, List.take_zero]
    simp only [first]
    split
    · rfl
    · exact ih (i + 1) (by omega) (by omega)
  · have h2 : ((i : Int) < ((ints l).length : Int)) = False := by rw [ints_len]; simp; omega
    have h7 : l.drop i = [] := List.drop_eq_nil_of_le (by omega)
    simp (config := {decide := true, contextual := true, maxSteps := 3000000}) only [h2, h7, first, List.replicate, ↓simPre, simPost, Bool.not_not, Bool.not_false, Bool.not_true, Bool.false_eq_true, reduceCtorEq, ↓reduceIte, decide_true, decide_false, splice, results, resT, resTs, AV.key, Bool.and_true, Bool.true_and, and_true, true_and, and_self, List.flatMap_nil, List.flatMap_cons, List.append_nil, List.nil_append, List.cons_append, List.map_cons, List.map_nil, List.all_cons, List.all_nil, List.length_cons, List.length_nil, Nat.reduceAdd, Nat.reduceLT, Nat.reduceLeDiff, Nat.reduceEqDiff, Nat.reduceSub, Nat.zero_add, Nat.add_zero, List.drop_succ_cons, List.drop_zero, List.take_succ_cons, List.take_zero]
theorem run130_2 (a b : Int) : run T S 130 [.sl [[.int .i64 a], [.int .i64 b]]] = some (.int .i64 (first [a, b])) := run130 [a, b] (by simp)
theorem run130_3 (a b c : Int) : run T S 130 [.sl [[.int .i64 a], [.int .i64 b], [.int .i64 c]]] = some (.int .i64 (first [a, b, c])) := run130 [a, b, c] (by simp)

structure Ty where
  k : Int
  l : Int
  s : Int
def encT (t : Ty) : List AV := [.int .i64 t.k, .int .i64 t.l, .int .i64 t.s]
def checkType (t : Ty) : Int :=
  if (t.k == 0) = true then first [cond (!(decide (1 ≤ t.l) && decide (t.l ≤ 256))) 18, cond (!t.s == 0) 3]
  else if (t.k == 1) = true then first [cond (!(decide (1 ≤ t.l) && decide (t.l ≤ 15))) 18, cond (!(decide (0 ≤ t.s) && decide (t.s ≤ t.l))) 3]
  else if (t.k == 2) = true then first [cond (!(decide (1 ≤ t.l) && decide (t.l ≤ 15))) 18, cond (!(decide (0 ≤ t.s) && decide (t.s ≤ t.l))) 3]
  else if (t.k == 3) = true then first [cond (!(t.l == 4 || t.l == 9)) 18, cond (!(decide (0 ≤ t.s) && decide (t.s ≤ t.l))) 3]
  else if (t.k == 4) = true then first [cond (!t.l == 0) 18, cond (!t.s == 0) 3]
  else 4
theorem run89 (t : Ty) : run T S 89 [.agg (encT t)] = some (.int .i64 (checkType t)) := by
  obtain ⟨k, l, sc⟩ := t
  simp only [encT]
  (refine run_fn T89 ⟨rfl, by decide⟩ ?_; rw [start89])
  simp (config := {decide := true, contextual := true, maxSteps := 3000000}) only [F89, run129, run131, run130_2, run130_3, List.replicate, ↓simPre, simPost, Bool.not_not, Bool.not_false, Bool.not_true, Bool.false_eq_true, reduceCtorEq, ↓reduceIte, decide_true, decide_false, splice, results, resT, resTs, AV.key, Bool.and_true, Bool.true_and, and_true, true_and, and_self, List.flatMap_nil, List.flatMap_cons, List.append_nil, List.nil_append, List.cons_append, List.map_cons, List.map_nil, List.all_cons, List.all_nil, List.length_cons, List.length_nil, Nat.reduceAdd, Nat.reduceLT, Nat.reduceLeDiff, Nat.reduceEqDiff, Nat.reduceSub, Nat.zero_add, Nat.add_zero, List.drop_succ_cons, List.drop_zero, List.take_succ_cons, List.take_zero]
  unfold checkType
  simp only
  (repeat' split) <;> rfl
def sizeT (t : Ty) : Int := if (t.k == 1) = true then t.l.tdiv 2 + 1 else if (t.k == 3) = true then 2 + t.l.tdiv 9 * 2 else if (t.k == 4) = true then 16 else t.l
theorem tdiv_le (l : Int) (c : Int) (h1 : 0 ≤ l) (hc : 0 < c) : 0 ≤ l.tdiv c ∧ l.tdiv c ≤ l := by
  rw [Int.tdiv_eq_ediv_of_nonneg h1]
  exact ⟨Int.ediv_nonneg h1 (by omega), Int.ediv_le_self _ h1⟩
theorem run150 (t : Ty) (h1 : 0 ≤ t.l) (h2 : t.l ≤ 100000) : run T S 150 [.agg (encT t)] = some (.int .i64 (sizeT t)) := by
  obtain ⟨k, l, sc⟩ := t
  simp only at h1 h2
  simp only [encT]
  (refine run_fn T150 ⟨rfl, by decide⟩ ?_; rw [start150])
  simp (config := {decide := true, contextual := true, maxSteps := 3000000}) only [F150, List.replicate, ↓simPre, simPost, Bool.not_not, Bool.not_false, Bool.not_true, Bool.false_eq_true, reduceCtorEq, ↓reduceIte, decide_true, decide_false, splice, results, resT, resTs, AV.key, Bool.and_true, Bool.true_and, and_true, true_and, and_self, List.flatMap_nil, List.flatMap_cons, List.append_nil, List.nil_append, List.cons_append, List.map_cons, List.map_nil, List.all_cons, List.all_nil, List.length_cons, List.length_nil, Nat.reduceAdd, Nat.reduceLT, Nat.reduceLeDiff, Nat.reduceEqDiff, Nat.reduceSub, Nat.zero_add, Nat.add_zero, List.drop_succ_cons, List.drop_zero, List.take_succ_cons, List.take_zero]
  have e1 := tdiv_le l 2 h1 (by omega)
  have e2 := tdiv_le l 9 h1 (by omega)
  rw [wrap_i64 (n := l.tdiv 2) (by omega) (by omega), wrap_i64 (n := l.tdiv 2 + 1) (by omega) (by omega), wrap_i64 (n := l.tdiv 9) (by omega) (by omega), wrap_i64 (n := l.tdiv 9 * 2) (by omega) (by omega), wrap_i64 (by omega) (by omega)]
  unfold sizeT
  simp only
  (repeat' split) <;> rfl
theorem first_zero {l : List Int} (h : first l = 0) : ∀ e ∈ l, e = 0 := by
  induction l with
  | nil => intro e he; simp at he
  | cons a l ih =>
    simp only [first] at h
    split at h
    · rename_i hh; rw [h] at hh; simp at hh
    · rename_i hh
      intro e he
      rcases List.mem_cons.1 he with rfl | he
      · simpa using hh
      · exact ih h e he
theorem cond_zero {b : Bool} {e : Int} (he : e ≠ 0) (h : cond b e = 0) : b = false := by
  cases b
  · rfl
  · simp [cond] at h; exact absurd h he
/-- The lengths of right types. -/
theorem checkType_zero {t : Ty} (h : checkType t = 0) : 0 ≤ t.l ∧ t.l ≤ 256 ∧ 0 ≤ t.k ∧ t.k ≤ 4 := by
  unfold checkType at h
  repeat' split at h
  all_goals first
    | (have h1 := cond_zero (by omega) (first_zero h _ (List.mem_cons_self ..)); simp at h1; simp_all; try omega)
    | (cases h; done)
theorem sizeT_range {t : Ty} (h : checkType t = 0) : 0 ≤ sizeT t ∧ sizeT t ≤ 256 := by
  have h1 := checkType_zero h
  have e1 := tdiv_le t.l 2 h1.1 (by omega)
  have e2 := tdiv_le t.l 9 h1.1 (by omega)
  have e3 : t.l.tdiv 2 ≤ 128 := by rw [Int.tdiv_eq_ediv_of_nonneg h1.1]; omega
  have e4 : t.l.tdiv 9 ≤ 28 := by rw [Int.tdiv_eq_ediv_of_nonneg h1.1]; omega
  unfold sizeT
  (repeat' split) <;> omega
def widthT (t : Ty) : Int := if (checkType t != 0) = true then 0 else sizeT t
theorem run132 (t : Ty) : run T S 132 [.agg (encT t)] = some (.tup [.int .i64 (widthT t), .int .i64 (checkType t)]) := by
  have h89 := run89 (S := S) t
  by_cases h : checkType t = 0
  · have h150 := run150 (S := S) t (checkType_zero h).1 (by have := checkType_zero h; omega)
    obtain ⟨k, l, sc⟩ := t
    simp only [encT] at h89 h150 ⊢
    (refine run_fn T132 ⟨rfl, by decide⟩ ?_; rw [start132])
    simp (config := {decide := true, contextual := true, maxSteps := 3000000}) only [F132, h89, h150, h, List.replicate, ↓simPre, simPost, Bool.not_not, Bool.not_false, Bool.not_true, Bool.false_eq_true, reduceCtorEq, ↓reduceIte, decide_true, decide_false, splice, results, resT, resTs, AV.key, Bool.and_true, Bool.true_and, and_true, true_and, and_self, List.flatMap_nil, List.flatMap_cons, List.append_nil, List.nil_append, List.cons_append, List.map_cons, List.map_nil, List.all_cons, List.all_nil, List.length_cons, List.length_nil, Nat.reduceAdd, Nat.reduceLT, Nat.reduceLeDiff, Nat.reduceEqDiff, Nat.reduceSub, Nat.zero_add, Nat.add_zero, List.drop_succ_cons, List.drop_zero, List.take_succ_cons, List.take_zero]
    simp [widthT, h]
  · obtain ⟨k, l, sc⟩ := t
    simp only [encT] at h89 ⊢
    have hb : (checkType ⟨k, l, sc⟩ != 0) = true := by simpa using h
    (refine run_fn T132 ⟨rfl, by decide⟩ ?_; rw [start132])
    simp (config := {decide := true, contextual := true, maxSteps := 3000000}) only [F132, h89, hb, List.replicate, ↓simPre, simPost, Bool.not_not, Bool.not_false, Bool.not_true, Bool.false_eq_true, reduceCtorEq, ↓reduceIte, decide_true, decide_false, splice, results, resT, resTs, AV.key, Bool.and_true, Bool.true_and, and_true, true_and, and_self, List.flatMap_nil, List.flatMap_cons, List.append_nil, List.nil_append, List.cons_append, List.map_cons, List.map_nil, List.all_cons, List.all_nil, List.length_cons, List.length_nil, Nat.reduceAdd, Nat.reduceLT, Nat.reduceLeDiff, Nat.reduceEqDiff, Nat.reduceSub, Nat.zero_add, Nat.add_zero, List.drop_succ_cons, List.drop_zero, List.take_succ_cons, List.take_zero]
    simp [widthT, h]
structure Fd where
  name : ByteArray
  t : Ty
def encF (f : Fd) : List AV := [.str f.name, .int .i64 f.t.k, .int .i64 f.t.l, .int .i64 f.t.s]
def width (f : Fd) : Int := widthT f.t
theorem run90 (f : Fd) : run T S 90 [.agg (encF f)] = some (.int .i64 (width f)) := by
  have h := run132 (S := S) f.t
  obtain ⟨n, ⟨k, l, sc⟩⟩ := f
  simp only [encT, encF] at h ⊢
  (refine run_fn T90 ⟨rfl, by decide⟩ ?_; rw [start90])
  simp (config := {decide := true, contextual := true, maxSteps := 3000000}) only [F90, h, width, List.replicate, ↓simPre, simPost, Bool.not_not, Bool.not_false, Bool.not_true, Bool.false_eq_true, reduceCtorEq, ↓reduceIte, decide_true, decide_false, splice, results, resT, resTs, AV.key, Bool.and_true, Bool.true_and, and_true, true_and, and_self, List.flatMap_nil, List.flatMap_cons, List.append_nil, List.nil_append, List.cons_append, List.map_cons, List.map_nil, List.all_cons, List.all_nil, List.length_cons, List.length_nil, Nat.reduceAdd, Nat.reduceLT, Nat.reduceLeDiff, Nat.reduceEqDiff, Nat.reduceSub, Nat.zero_add, Nat.add_zero, List.drop_succ_cons, List.drop_zero, List.take_succ_cons, List.take_zero]
theorem width_range (f : Fd) : 0 ≤ width f ∧ width f ≤ 256 := by
  unfold width widthT
  split
  · omega
  · rename_i h; exact sizeT_range (by simpa using h)
end Go.Bv

/- BY VALUE, chapter 26: the program's functions, one by one (2). -/
set_option linter.unusedSimpArgs false
set_option linter.unusedVariables false
namespace Go.Bv
variable {S : RT}
attribute [local congr] ite_congr congr_bindOps congr_bindC congr_andThen congr_orNone congr_onBool congr_onEff congr_headC
set_option maxRecDepth 100000
set_option maxHeartbeats 40000000
theorem map_get {α : Type} (f : α → List AV) (l : List α) (i : Nat) (d : α) (h : i < l.length) : (l.map f).getD i [] = f (l.getD i d) := by
  simp [List.getD_eq_getElem?_getD, List.getElem?_eq_getElem h]
instance : Inhabited Fd := ⟨⟨bs [], ⟨0, 0, 0⟩⟩⟩
def sizes : List Fd → Int
  | [] => 0
  | f :: l => width f + sizes l
theorem sizes_range (l : List Fd) : 0 ≤ sizes l ∧ sizes l ≤ 256 * l.length := by
  induction l with
  | nil => simp [sizes]
  | cons f l ih => have := width_range f; simp [sizes]; omega
theorem run77 (name : ByteArray) (l : List Fd) (hl : l.length ≤ 1000000) : run T S 77 [.agg [.str name, .sl (l.map encF)]] = some (.int .i64 (sizes l)) := by
  (refine run_fn T77 ⟨rfl, by decide⟩ ?_; rw [start77])
  simp (config := {decide := true, contextual := true, maxSteps := 3000000}) only [F77, List.replicate, ↓simPre, simPost, Bool.not_not, Bool.not_false, Bool.not_true, Bool.false_eq_true, reduceCtorEq, ↓reduceIte, decide_true, decide_false, splice, results, resT, resTs, AV.key, Bool.and_true, Bool.true_and, and_true, true_and, and_self, List.flatMap_nil, List.flatMap_cons, List.append_nil, List.nil_append, List.cons_append, List.map_cons, List.map_nil, List.all_cons, List.all_nil, List.length_cons, List.length_nil, Nat.reduceAdd, Nat.reduceLT, Nat.reduceLeDiff, Nat.reduceEqDiff, Nat.reduceSub, Nat.zero_add, Nat.add_zero, List.drop_succ_cons, List.drop_zero, List.take_succ_cons, List.take_zero]
  refine Eq.trans (headC_ind (σ := Nat × Int) (fun x => ⟨[.unk, .unk, .unk, .int .i64 x.2, .unk, .unk, .unk, .sl (l.map encF), .int .i64 (l.map encF).length, .int .i64 x.1] ++ List.replicate 9 .unk, List.replicate 19 ⟨0, .dead⟩⟩)
    (fun x => some (AV.int .i64 (x.2 + sizes (l.drop x.1)))) (fun x => l.length - x.1) (fun x => x.1 ≤ l.length ∧ 0 ≤ x.2 ∧ x.2 ≤ 256 * x.1) ?_ (0, 0) ⟨Nat.zero_le _, Int.le_refl _, by simp⟩) (by simp)
  rintro ⟨i, acc⟩ ⟨hi, ha1, ha2⟩ ih
  simp only at hi ha1 ha2
  have h4 : (i : Int).toNat = i := by omega
  by_cases hlt : i < l.length
  · have h1 : (0 ≤ (i : Int)) = True := by simp
    have h2 : ((i : Int) < ((l.map encF).length : Int)) = True := by simp; omega
    have h3 := map_get encF l i default hlt
    have h5 : IntKind.wrap .i64 ((i : Int) + 1) = ((i + 1 : Nat) : Int) := by rw [wrap_i64 (by omega) (by omega)]; omega
    have hw := width_range (l.getD i default)
    have h6 : IntKind.wrap .i64 (acc + width (l.getD i default)) = acc + width (l.getD i default) := wrap_i64 (by omega) (by omega)
    have h90 := run90 (S := S) (l.getD i default)
    rw [drop_cons default hlt]
    simp only [encF] at h3 h90
    simp (config := {decide := true, contextual := true, maxSteps := 3000000}) only [h1, h2, h3, h4, h5, h6, h90, List.replicate, ↓simPre, simPost, Bool.not_not, Bool.not_false, Bool.not_true, Bool.false_eq_true, reduceCtorEq, ↓reduceIte, decide_true, decide_false, splice, results, resT, resTs, AV.key, Bool.and_true, Bool.true_and, and_true, true_and, and_self, List.flatMap_nil, List.flatMap_cons, List.append_nil, List.nil_append, List.cons_append, List.map_cons, List.map_nil, List.all_cons, List.all_nil, List.length_cons, List.length_nil, Nat.reduceAdd, Nat.reduceLT, Nat.reduceLeDiff, Nat.reduceEqDiff, Nat.reduceSub, Nat.zero_add, Nat.add_zero, List.drop_succ_cons, List.drop_zero, List.take_succ_cons, List.take_zero]
    refine (ih (i + 1, acc + width (l.getD i default)) ⟨by omega, by omega, by push_cast; omega⟩ (by simp only; omega)).trans ?_
    simp only [sizes]
    rw [Int.add_assoc]
  · have h2 : ((i : Int) < ((l.map encF).length : Int)) = False := by simp; omega
    have h7 : l.drop i = [] := List.drop_eq_nil_of_le (by omega)
    simp (config := {decide := true, contextual := true, maxSteps := 3000000}) only [h2, h7, sizes, Int.add_zero, List.replicate, ↓simPre, simPost, Bool.not_not, Bool.not_false, Bool.not_true, Bool.false_eq_true, reduceCtorEq, ↓reduceIte, decide_true, decide_false, splice, results, resT, resTs, AV.key, Bool.and_true, Bool.true_and, and_true, true_and, and_self, List.flatMap_nil, List.flatMap_cons, List.append_nil, List.nil_append, List.cons_append, List.map_cons, List.map_nil, List.all_cons, List.all_nil, List.length_cons, List.length_nil, Nat.reduceAdd, Nat.reduceLT, Nat.reduceLeDiff, Nat.reduceEqDiff, Nat.reduceSub, Nat.zero_add, Nat.add_zero, List.drop_succ_cons, List.drop_zero, List.take_succ_cons, List.take_zero]

def atFrom : List Fd → ByteArray → Int → Int → Int × Int × Bool
  | [], _, _, _ => (0, 0, false)
  | f :: l, n, i, off => if (f.name.toList == n.toList) = true then (i, off, true) else atFrom l n (i + 1) (off + width f)
theorem run88 (name n : ByteArray) (l : List Fd) (hl : l.length ≤ 1000000) : run T S 88 [.agg [.str name, .sl (l.map encF)], .str n] =
    some (.tup [.int .i64 (atFrom l n 0 0).1, .int .i64 (atFrom l n 0 0).2.1, .bool (atFrom l n 0 0).2.2]) := by
  (refine run_fn T88 ⟨rfl, by decide⟩ ?_; rw [start88])
  simp (config := {decide := true, contextual := true, maxSteps := 3000000}) only [F88, List.replicate, ↓simPre, simPost, Bool.not_not, Bool.not_false, Bool.not_true, Bool.false_eq_true, reduceCtorEq, ↓reduceIte, decide_true, decide_false, splice, results, resT, resTs, AV.key, Bool.and_true, Bool.true_and, and_true, true_and, and_self, List.flatMap_nil, List.flatMap_cons, List.append_nil, List.nil_append, List.cons_append, List.map_cons, List.map_nil, List.all_cons, List.all_nil, List.length_cons, List.length_nil, Nat.reduceAdd, Nat.reduceLT, Nat.reduceLeDiff, Nat.reduceEqDiff, Nat.reduceSub, Nat.zero_add, Nat.add_zero, List.drop_succ_cons, List.drop_zero, List.take_succ_cons, List.take_zero]
  refine Eq.trans (headC_ind (σ := Nat × Int) (fun x => ⟨[.unk, .str n, .unk, .unk, .unk, .unk, .unk, .int .i64 x.2, .unk, .unk, .unk, .sl (l.map encF), .int .i64 (l.map encF).length, .int .i64 x.1] ++ List.replicate 15 .unk, List.replicate 29 ⟨0, .dead⟩⟩)
    (fun x => some (AV.tup [.int .i64 (atFrom (l.drop x.1) n x.1 x.2).1, .int .i64 (atFrom (l.drop x.1) n x.1 x.2).2.1, .bool (atFrom (l.drop x.1) n x.1 x.2).2.2])) (fun x => l.length - x.1) (fun x => x.1 ≤ l.length ∧ 0 ≤ x.2 ∧ x.2 ≤ 256 * x.1) ?_ (0, 0) ⟨Nat.zero_le _, Int.le_refl _, by simp⟩) (by simp)
  rintro ⟨i, acc⟩ ⟨hi, ha1, ha2⟩ ih
  simp only at hi ha1 ha2
  have h4 : (i : Int).toNat = i := by omega
  by_cases hlt : i < l.length
  · have h1 : (0 ≤ (i : Int)) = True := by simp
    have h2 : ((i : Int) < ((l.map encF).length : Int)) = True := by simp; omega
    have h3 := map_get encF l i default hlt
    have h5 : IntKind.wrap .i64 ((i : Int) + 1) = ((i + 1 : Nat) : Int) := by rw [wrap_i64 (by omega) (by omega)]; omega
    have hw := width_range (l.getD i default)
    have h6 : IntKind.wrap .i64 (acc + width (l.getD i default)) = acc + width (l.getD i default) := wrap_i64 (by omega) (by omega)
    have h90 := run90 (S := S) (l.getD i default)
    rw [drop_cons default hlt]
    simp only [encF] at h3 h90
    simp (config := {decide := true, contextual := true, maxSteps := 3000000}) only [h1, h2, h3, h4, h5, h6, h90, List.replicate, ↓simPre, simPost, Bool.not_not, Bool.not_false, Bool.not_true, Bool.false_eq_true, reduceCtorEq, ↓reduceIte, decide_true, decide_false, splice, results, resT, resTs, AV.key, Bool.and_true, Bool.true_and, and_true, true_and, and_self, List.flatMap_nil, List.flatMap_cons, List.append_nil, List.nil_append, List.cons_append, List.map_cons, List.map_nil, List.all_cons, List.all_nil, List.length_cons, List.length_nil, Nat.reduceAdd, Nat.reduceLT, Nat.reduceLeDiff, Nat.reduceEqDiff, Nat.reduceSub, Nat.zero_add, Nat.add_zero, List.drop_succ_cons, List.drop_zero, List.take_succ_cons, List.take_zero]
    simp only [atFrom]
    split
    · rfl
    · have := ih (i + 1, acc + width (l.getD i default)) ⟨by omega, by omega, by push_cast; omega⟩ (by simp only; omega)
      refine this.trans ?_
      simp only [Int.natCast_add]
      rfl
  · have h2 : ((i : Int) < ((l.map encF).length : Int)) = False := by simp; omega
    have h7 : l.drop i = [] := List.drop_eq_nil_of_le (by omega)
    simp (config := {decide := true, contextual := true, maxSteps := 3000000}) only [h2, h7, atFrom, List.replicate, ↓simPre, simPost, Bool.not_not, Bool.not_false, Bool.not_true, Bool.false_eq_true, reduceCtorEq, ↓reduceIte, decide_true, decide_false, splice, results, resT, resTs, AV.key, Bool.and_true, Bool.true_and, and_true, true_and, and_self, List.flatMap_nil, List.flatMap_cons, List.append_nil, List.nil_append, List.cons_append, List.map_cons, List.map_nil, List.all_cons, List.all_nil, List.length_cons, List.length_nil, Nat.reduceAdd, Nat.reduceLT, Nat.reduceLeDiff, Nat.reduceEqDiff, Nat.reduceSub, Nat.zero_add, Nat.add_zero, List.drop_succ_cons, List.drop_zero, List.take_succ_cons, List.take_zero]
end Go.Bv
