/- BY VALUE, chapter 26: tables: FewTable, OwnTable, bytesErr, the reference's Err and FileErr. -/
import Derived.Test.YtnfmilnlekmjgaaQ1
import Derived.Test.YtnfmilnlekmjgaaR8
import Derived.Test.YtnfmilnlekmjgaaG1
import Derived.Test.YtnfmilnlekmjgaaBvSim2
set_option linter.unusedSimpArgs false
set_option linter.unusedVariables false
namespace Go.Bv
variable {S : RT}
attribute [local congr] ite_congr congr_bindOps congr_bindC congr_andThen congr_orNone congr_onBool congr_onEff congr_headC
set_option maxRecDepth 100000
set_option maxHeartbeats 40000000
/-- A record: deleted, its bytes. -/
def encR (r : Bool × ByteArray) : List AV := [.bool r.1, .str r.2]
abbrev tabC (fn n : ByteArray) (l : List Fd) (ks : List (ByteArray × Bool)) (u : Bool) (rs : List (Bool × ByteArray)) : List AV := [.str fn, .str n, .sl (l.map encF), .sl (ks.map encK), .bool u, .sl (rs.map encR)]
def recsShort : List (Bool × ByteArray) → Bool
  | [] => true
  | r :: l => if (decide ((r.2.size : Int) > 700)) = true then false else recsShort l
def fewTable (fn n : ByteArray) (l : List Fd) (ks : List (ByteArray × Bool)) (rs : List (Bool × ByteArray)) : Bool :=
  if (decide ((rs.length : Int) > 64) || !fewFile fn n l ks) = true then false else recsShort rs
theorem run36 (fn n : ByteArray) (l : List Fd) (ks : List (ByteArray × Bool)) (u : Bool) (rs : List (Bool × ByteArray)) : run T S 36 [.agg (tabC fn n l ks u rs)] = some (.bool (fewTable fn n l ks rs)) := by
  have h25 := run25 (S := S) fn n l ks u
  simp only [tabC]
  (refine run_fn T36 ⟨rfl, by decide⟩ ?_; rw [start36])
  simp (config := {decide := true, contextual := true, maxSteps := 3000000}) only [F36, h25, List.length_map, List.replicate, ↓simPre, simPost, Bool.not_not, Bool.not_false, Bool.not_true, Bool.false_eq_true, reduceCtorEq, ↓reduceIte, decide_true, decide_false, splice, results, resT, resTs, AV.key, Bool.and_true, Bool.true_and, and_true, true_and, and_self, List.flatMap_nil, List.flatMap_cons, List.append_nil, List.nil_append, List.cons_append, List.map_cons, List.map_nil, List.all_cons, List.all_nil, List.length_cons, List.length_nil, Nat.reduceAdd, Nat.reduceLT, Nat.reduceLeDiff, Nat.reduceEqDiff, Nat.reduceSub, Nat.zero_add, Nat.add_zero, List.drop_succ_cons, List.drop_zero, List.take_succ_cons, List.take_zero]
  unfold fewTable
  split
  · rfl
  rename_i hh
  simp only [Bool.or_eq_true, decide_eq_true_eq, not_or] at hh
  refine Eq.trans (headC_ind (σ := Nat) (fun i => ⟨[.unk, .ptr 1 0 0, .unk, .int .i64 i] ++ List.replicate 25 .unk, ⟨0, .dead⟩ :: ⟨0, .box [.str fn, .str n, .sl (l.map encF), .sl (ks.map encK), .bool u, .sl (rs.map encR)]⟩ :: List.replicate 27 ⟨0, .dead⟩⟩)
    (fun i => some (AV.bool (recsShort (rs.drop i)))) (fun i => rs.length - i) (fun i => i ≤ rs.length) ?_ 0 (Nat.zero_le _)) (by simp)
  intro i hi ih
  by_cases hlt : i < rs.length
  · obtain ⟨h1, h2, h4, h5⟩ := idx hlt (by omega)
    have h3 := map_get encR rs i (false, bs []) hlt
    rw [drop_cons (false, bs []) hlt]
    simp only [encR] at h3
    simp (config := {decide := true, contextual := true, maxSteps := 3000000}) only [h1, h2, h3, h4, h5, List.length_map, List.replicate, ↓simPre, simPost, Bool.not_not, Bool.not_false, Bool.not_true, Bool.false_eq_true, reduceCtorEq, ↓reduceIte, decide_true, decide_false, splice, results, resT, resTs, AV.key, Bool.and_true, Bool.true_and, and_true, true_and, and_self, List.flatMap_nil, List.flatMap_cons, List.append_nil, List.nil_append, List.cons_append, List.map_cons, List.map_nil, List.all_cons, List.all_nil, List.length_cons, List.length_nil, Nat.reduceAdd, Nat.reduceLT, Nat.reduceLeDiff, Nat.reduceEqDiff, Nat.reduceSub, Nat.zero_add, Nat.add_zero, List.drop_succ_cons, List.drop_zero, List.take_succ_cons, List.take_zero]
    simp only [recsShort]
    split
    · rfl
    · exact ih (i + 1) (by omega) (by omega)
  · have h2 := idxEnd (Nat.le_of_not_lt hlt)
    have h7 : rs.drop i = [] := List.drop_eq_nil_of_le (by omega)
    simp (config := {decide := true, contextual := true, maxSteps := 3000000}) only [h2, h7, recsShort, List.length_map, List.replicate, ↓simPre, simPost, Bool.not_not, Bool.not_false, Bool.not_true, Bool.false_eq_true, reduceCtorEq, ↓reduceIte, decide_true, decide_false, splice, results, resT, resTs, AV.key, Bool.and_true, Bool.true_and, and_true, true_and, and_self, List.flatMap_nil, List.flatMap_cons, List.append_nil, List.nil_append, List.cons_append, List.map_cons, List.map_nil, List.all_cons, List.all_nil, List.length_cons, List.length_nil, Nat.reduceAdd, Nat.reduceLT, Nat.reduceLeDiff, Nat.reduceEqDiff, Nat.reduceSub, Nat.zero_add, Nat.add_zero, List.drop_succ_cons, List.drop_zero, List.take_succ_cons, List.take_zero]
theorem run135 (n : ByteArray) (l : List Fd) (hl : l.length ≤ 1000000) : run T S 135 [.agg [.str n, .sl (l.map encF)]] = some (.agg [.str n, .sl (l.map encF)]) := by
  have h1 : (l.map encF).all (fun y => y.length == 4) = true := by simp [encF]
  have h2 : (l.length * 40 ≤ 140737488355328) = True := by simp; omega
  (refine run_fn T135 ⟨rfl, by decide⟩ ?_; rw [start135])
  simp (config := {decide := true, contextual := true, maxSteps := 3000000}) only [F135, h1, h2, List.length_map, List.replicate, ↓simPre, simPost, Bool.not_not, Bool.not_false, Bool.not_true, Bool.false_eq_true, reduceCtorEq, ↓reduceIte, decide_true, decide_false, splice, results, resT, resTs, AV.key, Bool.and_true, Bool.true_and, and_true, true_and, and_self, List.flatMap_nil, List.flatMap_cons, List.append_nil, List.nil_append, List.cons_append, List.map_cons, List.map_nil, List.all_cons, List.all_nil, List.length_cons, List.length_nil, Nat.reduceAdd, Nat.reduceLT, Nat.reduceLeDiff, Nat.reduceEqDiff, Nat.reduceSub, Nat.zero_add, Nat.add_zero, List.drop_succ_cons, List.drop_zero, List.take_succ_cons, List.take_zero]
theorem run98 (fn n : ByteArray) (l : List Fd) (ks : List (ByteArray × Bool)) (u : Bool) (hl : l.length ≤ 1000000) (hk : ks.length ≤ 1000000) : run T S 98 [.agg (fileC fn n l ks u)] = some (.agg (fileC fn n l ks u)) := by
  have h135 := run135 (S := S) n l hl
  have h1 : (ks.map encK).all (fun y => y.length == 2) = true := by simp [encK]
  have h3 : (ks.length * 24 ≤ 140737488355328) = True := by simp; omega
  simp only [fileC]
  (refine run_fn T98 ⟨rfl, by decide⟩ ?_; rw [start98])
  simp (config := {decide := true, contextual := true, maxSteps := 3000000}) only [F98, h135, h1, h3, List.length_map, List.replicate, ↓simPre, simPost, Bool.not_not, Bool.not_false, Bool.not_true, Bool.false_eq_true, reduceCtorEq, ↓reduceIte, decide_true, decide_false, splice, results, resT, resTs, AV.key, Bool.and_true, Bool.true_and, and_true, true_and, and_self, List.flatMap_nil, List.flatMap_cons, List.append_nil, List.nil_append, List.cons_append, List.map_cons, List.map_nil, List.all_cons, List.all_nil, List.length_cons, List.length_nil, Nat.reduceAdd, Nat.reduceLT, Nat.reduceLeDiff, Nat.reduceEqDiff, Nat.reduceSub, Nat.zero_add, Nat.add_zero, List.drop_succ_cons, List.drop_zero, List.take_succ_cons, List.take_zero]
/-- A table whose records are told apart. -/
abbrev tabN (fn n : ByteArray) (l : List Fd) (ks : List (ByteArray × Bool)) (u : Bool) : List AV := [.str fn, .str n, .sl (l.map encF), .sl (ks.map encK), .bool u, .sl []]
theorem run38 (fn n : ByteArray) (l : List Fd) (ks : List (ByteArray × Bool)) (u : Bool) (rs : List (Bool × ByteArray)) (hl : l.length ≤ 1000000) (hk : ks.length ≤ 1000000) (hr : rs.length ≤ 1000000) : run T S 38 [.agg (tabC fn n l ks u rs)] = some (.fr1 5 87 2 (rs.map encR) (tabN fn n l ks u)) := by
  have h98 := run98 (S := S) fn n l ks u hl hk
  have h1 : (rs.map encR).all (fun y => y.length == 2) = true := by simp [encR]
  have h3 : (rs.length * 24 ≤ 140737488355328) = True := by simp; omega
  simp only [fileC] at h98
  simp only [tabC]
  (refine run_fn T38 ⟨rfl, by decide⟩ ?_; rw [start38])
  simp (config := {decide := true, contextual := true, maxSteps := 3000000}) only [F38, h98, h1, h3, List.length_map, List.replicate, ↓simPre, simPost, Bool.not_not, Bool.not_false, Bool.not_true, Bool.false_eq_true, reduceCtorEq, ↓reduceIte, decide_true, decide_false, splice, results, resT, resTs, AV.key, Bool.and_true, Bool.true_and, and_true, true_and, and_self, List.flatMap_nil, List.flatMap_cons, List.append_nil, List.nil_append, List.cons_append, List.map_cons, List.map_nil, List.all_cons, List.all_nil, List.length_cons, List.length_nil, Nat.reduceAdd, Nat.reduceLT, Nat.reduceLeDiff, Nat.reduceEqDiff, Nat.reduceSub, Nat.zero_add, Nat.add_zero, List.drop_succ_cons, List.drop_zero, List.take_succ_cons, List.take_zero]
theorem valuesOf_err (n : ByteArray) (l : List Fd) (s : ByteArray) : (valuesOf n l s).2.2 = (bytesErr n l s).2 := by
  rw [valuesOf_eq]
  split
  · rfl
  · rename_i h; simp at h; exact h.symm
theorem run85 (n : ByteArray) (l : List Fd) (s : ByteArray) (h : Short n l) (hs : s.size ≤ 1000000) : run T S 85 [.agg [.str n, .sl (l.map encF)], .str s] = some (.int .i64 (bytesErr n l s).2) := by
  have h17 := run17 (S := S) n l s h (by omega)
  rw [valuesOf_err] at h17
  (refine run_fn T85 ⟨rfl, by decide⟩ ?_; rw [start85])
  simp (config := {decide := true, contextual := true, maxSteps := 3000000}) only [F85, h17, List.replicate, ↓simPre, simPost, Bool.not_not, Bool.not_false, Bool.not_true, Bool.false_eq_true, reduceCtorEq, ↓reduceIte, decide_true, decide_false, splice, results, resT, resTs, AV.key, Bool.and_true, Bool.true_and, and_true, true_and, and_self, List.flatMap_nil, List.flatMap_cons, List.append_nil, List.nil_append, List.cons_append, List.map_cons, List.map_nil, List.all_cons, List.all_nil, List.length_cons, List.length_nil, Nat.reduceAdd, Nat.reduceLT, Nat.reduceLeDiff, Nat.reduceEqDiff, Nat.reduceSub, Nat.zero_add, Nat.add_zero, List.drop_succ_cons, List.drop_zero, List.take_succ_cons, List.take_zero]
theorem run100 (n : ByteArray) (l : List Fd) (s : ByteArray) (h : Short n l) (hs : s.size ≤ 1000000) : run T S 100 [.agg [.str n, .sl (l.map encF)], .str s] = some (.int .i64 (bytesErr n l s).2) := by
  have h19 := run19 (S := S) n l s h (by omega)
  (refine run_fn T100 ⟨rfl, by decide⟩ ?_; rw [start100])
  simp (config := {decide := true, contextual := true, maxSteps := 3000000}) only [F100, h19, List.replicate, ↓simPre, simPost, Bool.not_not, Bool.not_false, Bool.not_true, Bool.false_eq_true, reduceCtorEq, ↓reduceIte, decide_true, decide_false, splice, results, resT, resTs, AV.key, Bool.and_true, Bool.true_and, and_true, true_and, and_self, List.flatMap_nil, List.flatMap_cons, List.append_nil, List.nil_append, List.cons_append, List.map_cons, List.map_nil, List.all_cons, List.all_nil, List.length_cons, List.length_nil, Nat.reduceAdd, Nat.reduceLT, Nat.reduceLeDiff, Nat.reduceEqDiff, Nat.reduceSub, Nat.zero_add, Nat.add_zero, List.drop_succ_cons, List.drop_zero, List.take_succ_cons, List.take_zero]
theorem run136 (fn n : ByteArray) (l : List Fd) (ks : List (ByteArray × Bool)) (u : Bool) (hn : fn.size ≤ 1000000) (hsh : Short n l) (hk : ks.length ≤ 1000000) : run T S 136 [.agg (fileC fn n l ks u)] = some (.int .i64 (checkFile fn n l ks).2) := by
  have h30 := run30 (S := S) fn n l ks u hn hsh hk
  simp only [fileC] at h30 ⊢
  (refine run_fn T136 ⟨rfl, by decide⟩ ?_; rw [start136])
  simp (config := {decide := true, contextual := true, maxSteps := 3000000}) only [F136, h30, List.replicate, ↓simPre, simPost, Bool.not_not, Bool.not_false, Bool.not_true, Bool.false_eq_true, reduceCtorEq, ↓reduceIte, decide_true, decide_false, splice, results, resT, resTs, AV.key, Bool.and_true, Bool.true_and, and_true, true_and, and_self, List.flatMap_nil, List.flatMap_cons, List.append_nil, List.nil_append, List.cons_append, List.map_cons, List.map_nil, List.all_cons, List.all_nil, List.length_cons, List.length_nil, Nat.reduceAdd, Nat.reduceLT, Nat.reduceLeDiff, Nat.reduceEqDiff, Nat.reduceSub, Nat.zero_add, Nat.add_zero, List.drop_succ_cons, List.drop_zero, List.take_succ_cons, List.take_zero]
theorem run99 (fn n : ByteArray) (l : List Fd) (ks : List (ByteArray × Bool)) (u : Bool) (hn : fn.size ≤ 1000000) (hsh : Short n l) (hk : ks.length ≤ 1000000) : run T S 99 [.agg (fileC fn n l ks u)] = some (.int .i64 (checkFile fn n l ks).2) := by
  have h136 := run136 (S := S) fn n l ks u hn hsh hk
  simp only [fileC] at h136 ⊢
  (refine run_fn T99 ⟨rfl, by decide⟩ ?_; rw [start99])
  simp (config := {decide := true, contextual := true, maxSteps := 3000000}) only [F99, h136, List.replicate, ↓simPre, simPost, Bool.not_not, Bool.not_false, Bool.not_true, Bool.false_eq_true, reduceCtorEq, ↓reduceIte, decide_true, decide_false, splice, results, resT, resTs, AV.key, Bool.and_true, Bool.true_and, and_true, true_and, and_self, List.flatMap_nil, List.flatMap_cons, List.append_nil, List.nil_append, List.cons_append, List.map_cons, List.map_nil, List.all_cons, List.all_nil, List.length_cons, List.length_nil, Nat.reduceAdd, Nat.reduceLT, Nat.reduceLeDiff, Nat.reduceEqDiff, Nat.reduceSub, Nat.zero_add, Nat.add_zero, List.drop_succ_cons, List.drop_zero, List.take_succ_cons, List.take_zero]
/-- CheckFile is told. -/
def Told28 (S : RT) : Prop := ∀ (fn n : ByteArray) (l : List Fd) (ks : List (ByteArray × Bool)) (u : Bool), fn.size ≤ 1000000 → Short n l → ks.length ≤ 1000 →
  run T S 28 [.agg (fileC fn n l ks u)] = some (.tup [.int .i64 (checkFile fn n l ks).1, .int .i64 (checkFile fn n l ks).2])
theorem run97 (hS : Told28 S) (fn n : ByteArray) (l : List Fd) (ks : List (ByteArray × Bool)) (u : Bool) (hn : fn.size ≤ 1000000) (hsh : Short n l) (hk : ks.length ≤ 1000) : run T S 97 [.agg (fileC fn n l ks u)] = some (.int .i64 (checkFile fn n l ks).2) := by
  have h28 := hS fn n l ks u hn hsh hk
  simp only [fileC] at h28 ⊢
  (refine run_fn T97 ⟨rfl, by decide⟩ ?_; rw [start97])
  simp (config := {decide := true, contextual := true, maxSteps := 3000000}) only [F97, h28, List.replicate, ↓simPre, simPost, Bool.not_not, Bool.not_false, Bool.not_true, Bool.false_eq_true, reduceCtorEq, ↓reduceIte, decide_true, decide_false, splice, results, resT, resTs, AV.key, Bool.and_true, Bool.true_and, and_true, true_and, and_self, List.flatMap_nil, List.flatMap_cons, List.append_nil, List.nil_append, List.cons_append, List.map_cons, List.map_nil, List.all_cons, List.all_nil, List.length_cons, List.length_nil, Nat.reduceAdd, Nat.reduceLT, Nat.reduceLeDiff, Nat.reduceEqDiff, Nat.reduceSub, Nat.zero_add, Nat.add_zero, List.drop_succ_cons, List.drop_zero, List.take_succ_cons, List.take_zero]
end Go.Bv

/- BY VALUE, chapter 26: CheckTable, and the reference's Check. -/
set_option linter.unusedSimpArgs false
set_option linter.unusedVariables false
namespace Go.Bv
variable {S : RT}
attribute [local congr] ite_congr congr_bindOps congr_bindC congr_andThen congr_orNone congr_onBool congr_onEff congr_headC
set_option maxRecDepth 100000
set_option maxHeartbeats 40000000
def recErr (n : ByteArray) (l : List Fd) (r : Bool × ByteArray) : Int := if (!r.1) = true then (bytesErr n l r.2).2 else cond (!(r.2.toList == (bs []).toList)) 5
def recsGo (n : ByteArray) (l : List Fd) : List (Bool × ByteArray) → Int → Int × Int
  | [], _ => (0, 0)
  | r :: rs, i => if (recErr n l r != 0) = true then (i, recErr n l r) else recsGo n l rs (i + 1)
def tabE (fn n : ByteArray) (l : List Fd) (ks : List (ByteArray × Bool)) (rs : List (Bool × ByteArray)) : Int := first [(checkFile fn n l ks).2, cond (decide ((rs.length : Int) > 60)) 2]
/-- An index and the error of a table. -/
def checkTable (fn n : ByteArray) (l : List Fd) (ks : List (ByteArray × Bool)) (rs : List (Bool × ByteArray)) : Int × Int := if (tabE fn n l ks rs != 0) = true then (0, tabE fn n l ks rs) else recsGo n l rs 0
structure Small (fn n : ByteArray) (l : List Fd) (ks : List (ByteArray × Bool)) (rs : List (Bool × ByteArray)) : Prop where
  qfn : fn.size ≤ 1000
  qsh : Short n l
  qks : ks.length ≤ 1000
  qrs : rs.length ≤ 1000
  qby : ∀ r ∈ rs, r.2.size ≤ 1000
theorem rec_mem (rs : List (Bool × ByteArray)) (i : Nat) (h : i < rs.length) : rs.getD i (false, bs []) ∈ rs := by
  rw [List.getD_eq_getElem?_getD, List.getElem?_eq_getElem h]; simp
theorem run37 (hS : Told28 S) (fn n : ByteArray) (l : List Fd) (ks : List (ByteArray × Bool)) (u : Bool) (rs : List (Bool × ByteArray)) (h : Small fn n l ks rs) :
    run T S 37 [.agg (tabC fn n l ks u rs)] = some (.tup [.int .i64 (checkTable fn n l ks rs).1, .int .i64 (checkTable fn n l ks rs).2]) := by
  have h97 := run97 hS fn n l ks u (by have := h.qfn; omega) h.qsh h.qks
  have hrs := h.qrs
  simp only [fileC] at h97
  simp only [tabC]
  unfold checkTable tabE
  (refine run_fn T37 ⟨rfl, by decide⟩ ?_; rw [start37])
  simp (config := {decide := true, contextual := true, maxSteps := 3000000}) only [F37, h97, run81, run80_2, List.length_map, List.replicate, ↓simPre, simPost, Bool.not_not, Bool.not_false, Bool.not_true, Bool.false_eq_true, reduceCtorEq, ↓reduceIte, decide_true, decide_false, splice, results, resT, resTs, AV.key, Bool.and_true, Bool.true_and, and_true, true_and, and_self, List.flatMap_nil, List.flatMap_cons, List.append_nil, List.nil_append, List.cons_append, List.map_cons, List.map_nil, List.all_cons, List.all_nil, List.length_cons, List.length_nil, Nat.reduceAdd, Nat.reduceLT, Nat.reduceLeDiff, Nat.reduceEqDiff, Nat.reduceSub, Nat.zero_add, Nat.add_zero, List.drop_succ_cons, List.drop_zero, List.take_succ_cons, List.take_zero]
  split
  · rfl
  refine Eq.trans (headC_ind (σ := Nat) (fun i => ⟨[.unk, .ptr 1 0 0] ++ List.replicate 20 .unk ++ [.sl (rs.map encR), .int .i64 rs.length, .int .i64 i] ++ List.replicate 22 .unk, ⟨0, .dead⟩ :: ⟨0, .box [.str fn, .str n, .sl (l.map encF), .sl (ks.map encK), .bool u, .sl (rs.map encR)]⟩ :: List.replicate 45 ⟨0, .dead⟩⟩)
    (fun i => some (AV.tup [.int .i64 (recsGo n l (rs.drop i) i).1, .int .i64 (recsGo n l (rs.drop i) i).2])) (fun i => rs.length - i) (fun i => i ≤ rs.length) ?_ 0 (Nat.zero_le _)) (by simp)
  intro i hi ih
  by_cases hlt : i < rs.length
  · obtain ⟨h1, h2, h4, h5⟩ := idx hlt (by omega)
    have h3 := map_get encR rs i (false, bs []) hlt
    have hm := h.qby _ (rec_mem rs i hlt)
    have hih := ih (i + 1) (by omega) (by omega)
    rw [drop_cons (false, bs []) hlt]
    generalize rs.getD i (false, bs []) = r at h3 hm
    obtain ⟨d, b⟩ := r
    have h85 := run85 (S := S) n l b h.qsh (by simp only at hm; omega)
    simp only [encR] at h3
    simp only [recsGo, recErr]
    cases d with
    | true =>
      simp (config := {decide := true, contextual := true, maxSteps := 3000000}) only [h1, h2, h3, h4, h5, run81, List.length_map, List.replicate, ↓simPre, simPost, Bool.not_not, Bool.not_false, Bool.not_true, Bool.false_eq_true, reduceCtorEq, ↓reduceIte, decide_true, decide_false, splice, results, resT, resTs, AV.key, Bool.and_true, Bool.true_and, and_true, true_and, and_self, List.flatMap_nil, List.flatMap_cons, List.append_nil, List.nil_append, List.cons_append, List.map_cons, List.map_nil, List.all_cons, List.all_nil, List.length_cons, List.length_nil, Nat.reduceAdd, Nat.reduceLT, Nat.reduceLeDiff, Nat.reduceEqDiff, Nat.reduceSub, Nat.zero_add, Nat.add_zero, List.drop_succ_cons, List.drop_zero, List.take_succ_cons, List.take_zero]
      skip
      split
      · rfl
      · exact hih
    | false =>
      simp (config := {decide := true, contextual := true, maxSteps := 3000000}) only [h1, h2, h3, h4, h5, h85, run81, List.length_map, List.replicate, ↓simPre, simPost, Bool.not_not, Bool.not_false, Bool.not_true, Bool.false_eq_true, reduceCtorEq, ↓reduceIte, decide_true, decide_false, splice, results, resT, resTs, AV.key, Bool.and_true, Bool.true_and, and_true, true_and, and_self, List.flatMap_nil, List.flatMap_cons, List.append_nil, List.nil_append, List.cons_append, List.map_cons, List.map_nil, List.all_cons, List.all_nil, List.length_cons, List.length_nil, Nat.reduceAdd, Nat.reduceLT, Nat.reduceLeDiff, Nat.reduceEqDiff, Nat.reduceSub, Nat.zero_add, Nat.add_zero, List.drop_succ_cons, List.drop_zero, List.take_succ_cons, List.take_zero]
      skip
      split
      · rfl
      · exact hih
  · have h2 := idxEnd (Nat.le_of_not_lt hlt)
    have h7 : rs.drop i = [] := List.drop_eq_nil_of_le (by omega)
    simp (config := {decide := true, contextual := true, maxSteps := 3000000}) only [h2, h7, recsGo, List.length_map, List.replicate, ↓simPre, simPost, Bool.not_not, Bool.not_false, Bool.not_true, Bool.false_eq_true, reduceCtorEq, ↓reduceIte, decide_true, decide_false, splice, results, resT, resTs, AV.key, Bool.and_true, Bool.true_and, and_true, true_and, and_self, List.flatMap_nil, List.flatMap_cons, List.append_nil, List.nil_append, List.cons_append, List.map_cons, List.map_nil, List.all_cons, List.all_nil, List.length_cons, List.length_nil, Nat.reduceAdd, Nat.reduceLT, Nat.reduceLeDiff, Nat.reduceEqDiff, Nat.reduceSub, Nat.zero_add, Nat.add_zero, List.drop_succ_cons, List.drop_zero, List.take_succ_cons, List.take_zero]
theorem run39 (fn n : ByteArray) (l : List Fd) (ks : List (ByteArray × Bool)) (u : Bool) (rs : List (Bool × ByteArray)) (h : Small fn n l ks rs) :
    run T S 39 [.agg (tabC fn n l ks u rs)] = some (.tup [.int .i64 (checkTable fn n l ks rs).1, .int .i64 (checkTable fn n l ks rs).2]) := by
  have h99 := run99 (S := S) fn n l ks u (by have := h.qfn; omega) h.qsh (by have := h.qks; omega)
  have hrs := h.qrs
  simp only [fileC] at h99
  simp only [tabC]
  have main : (checkFile fn n l ks).2 = 0 → ¬ (rs.length : Int) > 60 → run T S 39 [.agg [.str fn, .str n, .sl (l.map encF), .sl (ks.map encK), .bool u, .sl (rs.map encR)]] = some (.tup [.int .i64 (recsGo n l rs 0).1, .int .i64 (recsGo n l rs 0).2]) := by
    intro c1 c2
    have c1b : ((checkFile fn n l ks).2 != 0) = false := by simpa using c1
    have c2b : decide ((rs.length : Int) > 60) = false := by simpa using c2
    (refine run_fn T39 ⟨rfl, by decide⟩ ?_; rw [start39])
    simp (config := {decide := true, contextual := true, maxSteps := 3000000}) only [F39, h99, c1b, c2b, List.length_map, List.replicate, ↓simPre, simPost, Bool.not_not, Bool.not_false, Bool.not_true, Bool.false_eq_true, reduceCtorEq, ↓reduceIte, decide_true, decide_false, splice, results, resT, resTs, AV.key, Bool.and_true, Bool.true_and, and_true, true_and, and_self, List.flatMap_nil, List.flatMap_cons, List.append_nil, List.nil_append, List.cons_append, List.map_cons, List.map_nil, List.all_cons, List.all_nil, List.length_cons, List.length_nil, Nat.reduceAdd, Nat.reduceLT, Nat.reduceLeDiff, Nat.reduceEqDiff, Nat.reduceSub, Nat.zero_add, Nat.add_zero, List.drop_succ_cons, List.drop_zero, List.take_succ_cons, List.take_zero]
    refine Eq.trans (headC_ind (σ := Nat) (fun i => ⟨[.unk, .ptr 1 0 0, .unk, .unk, .unk, .int .i64 i] ++ List.replicate 45 .unk, ⟨0, .dead⟩ :: ⟨0, .box [.str fn, .str n, .sl (l.map encF), .sl (ks.map encK), .bool u, .sl (rs.map encR)]⟩ :: List.replicate 49 ⟨0, .dead⟩⟩)
      (fun i => some (AV.tup [.int .i64 (recsGo n l (rs.drop i) i).1, .int .i64 (recsGo n l (rs.drop i) i).2])) (fun i => rs.length - i) (fun i => i ≤ rs.length) ?_ 0 (Nat.zero_le _)) (by simp)
    intro i hi ih
    by_cases hlt : i < rs.length
    · obtain ⟨h1, h2, h4, h5⟩ := idx hlt (by omega)
      have h3 := map_get encR rs i (false, bs []) hlt
      have hm := h.qby _ (rec_mem rs i hlt)
      have hih := ih (i + 1) (by omega) (by omega)
      rw [drop_cons (false, bs []) hlt]
      generalize rs.getD i (false, bs []) = r at h3 hm
      obtain ⟨d, b⟩ := r
      have h100 := run100 (S := S) n l b h.qsh (by simp only at hm; omega)
      simp only [encR] at h3
      simp only [recsGo, recErr]
      cases d with
      | true =>
        have e5 : cond (!(b.toList == (bs []).toList)) 5 = if (!(b.toList == (bs []).toList)) = true then 5 else 0 := rfl
        by_cases cb : (b.toList == (bs []).toList) = true
        · simp (config := {decide := true, contextual := true, maxSteps := 3000000}) only [h1, h2, h3, h4, h5, cb, List.length_map, List.replicate, ↓simPre, simPost, Bool.not_not, Bool.not_false, Bool.not_true, Bool.false_eq_true, reduceCtorEq, ↓reduceIte, decide_true, decide_false, splice, results, resT, resTs, AV.key, Bool.and_true, Bool.true_and, and_true, true_and, and_self, List.flatMap_nil, List.flatMap_cons, List.append_nil, List.nil_append, List.cons_append, List.map_cons, List.map_nil, List.all_cons, List.all_nil, List.length_cons, List.length_nil, Nat.reduceAdd, Nat.reduceLT, Nat.reduceLeDiff, Nat.reduceEqDiff, Nat.reduceSub, Nat.zero_add, Nat.add_zero, List.drop_succ_cons, List.drop_zero, List.take_succ_cons, List.take_zero]
          exact hih
        · have cb' : (b.toList == (bs []).toList) = false := by simpa using cb
          simp (config := {decide := true, contextual := true, maxSteps := 3000000}) only [h1, h2, h3, h4, h5, cb', List.length_map, List.replicate, ↓simPre, simPost, Bool.not_not, Bool.not_false, Bool.not_true, Bool.false_eq_true, reduceCtorEq, ↓reduceIte, decide_true, decide_false, splice, results, resT, resTs, AV.key, Bool.and_true, Bool.true_and, and_true, true_and, and_self, List.flatMap_nil, List.flatMap_cons, List.append_nil, List.nil_append, List.cons_append, List.map_cons, List.map_nil, List.all_cons, List.all_nil, List.length_cons, List.length_nil, Nat.reduceAdd, Nat.reduceLT, Nat.reduceLeDiff, Nat.reduceEqDiff, Nat.reduceSub, Nat.zero_add, Nat.add_zero, List.drop_succ_cons, List.drop_zero, List.take_succ_cons, List.take_zero]
          rfl
      | false =>
        simp (config := {decide := true, contextual := true, maxSteps := 3000000}) only [h1, h2, h3, h4, h5, h100, List.length_map, List.replicate, ↓simPre, simPost, Bool.not_not, Bool.not_false, Bool.not_true, Bool.false_eq_true, reduceCtorEq, ↓reduceIte, decide_true, decide_false, splice, results, resT, resTs, AV.key, Bool.and_true, Bool.true_and, and_true, true_and, and_self, List.flatMap_nil, List.flatMap_cons, List.append_nil, List.nil_append, List.cons_append, List.map_cons, List.map_nil, List.all_cons, List.all_nil, List.length_cons, List.length_nil, Nat.reduceAdd, Nat.reduceLT, Nat.reduceLeDiff, Nat.reduceEqDiff, Nat.reduceSub, Nat.zero_add, Nat.add_zero, List.drop_succ_cons, List.drop_zero, List.take_succ_cons, List.take_zero]
        skip
        split
        · rfl
        · exact hih
    · have h2 := idxEnd (Nat.le_of_not_lt hlt)
      have h7 : rs.drop i = [] := List.drop_eq_nil_of_le (by omega)
      simp (config := {decide := true, contextual := true, maxSteps := 3000000}) only [h2, h7, recsGo, List.length_map, List.replicate, ↓simPre, simPost, Bool.not_not, Bool.not_false, Bool.not_true, Bool.false_eq_true, reduceCtorEq, ↓reduceIte, decide_true, decide_false, splice, results, resT, resTs, AV.key, Bool.and_true, Bool.true_and, and_true, true_and, and_self, List.flatMap_nil, List.flatMap_cons, List.append_nil, List.nil_append, List.cons_append, List.map_cons, List.map_nil, List.all_cons, List.all_nil, List.length_cons, List.length_nil, Nat.reduceAdd, Nat.reduceLT, Nat.reduceLeDiff, Nat.reduceEqDiff, Nat.reduceSub, Nat.zero_add, Nat.add_zero, List.drop_succ_cons, List.drop_zero, List.take_succ_cons, List.take_zero]
  unfold checkTable tabE
  by_cases c1 : (checkFile fn n l ks).2 = 0
  · by_cases c2 : (rs.length : Int) > 60
    · have c1b : ((checkFile fn n l ks).2 != 0) = false := by simpa using c1
      have c2b : decide ((rs.length : Int) > 60) = true := by simpa using c2
      rw [c1, c2b]
      (refine run_fn T39 ⟨rfl, by decide⟩ ?_; rw [start39])
      simp (config := {decide := true, contextual := true, maxSteps := 3000000}) only [F39, h99, c1b, c2b, List.length_map, List.replicate, ↓simPre, simPost, Bool.not_not, Bool.not_false, Bool.not_true, Bool.false_eq_true, reduceCtorEq, ↓reduceIte, decide_true, decide_false, splice, results, resT, resTs, AV.key, Bool.and_true, Bool.true_and, and_true, true_and, and_self, List.flatMap_nil, List.flatMap_cons, List.append_nil, List.nil_append, List.cons_append, List.map_cons, List.map_nil, List.all_cons, List.all_nil, List.length_cons, List.length_nil, Nat.reduceAdd, Nat.reduceLT, Nat.reduceLeDiff, Nat.reduceEqDiff, Nat.reduceSub, Nat.zero_add, Nat.add_zero, List.drop_succ_cons, List.drop_zero, List.take_succ_cons, List.take_zero]
      rfl
    · have c2b : decide ((rs.length : Int) > 60) = false := by simpa using c2
      rw [main c1 c2, c1, c2b]
      rfl
  · have c1b : ((checkFile fn n l ks).2 != 0) = true := by simpa using c1
    have ef : first [(checkFile fn n l ks).2, cond (decide ((rs.length : Int) > 60)) 2] = (checkFile fn n l ks).2 := by simp [first, c1]
    rw [ef, if_pos c1b]
    (refine run_fn T39 ⟨rfl, by decide⟩ ?_; rw [start39])
    simp (config := {decide := true, contextual := true, maxSteps := 3000000}) only [F39, h99, c1b, List.length_map, List.replicate, ↓simPre, simPost, Bool.not_not, Bool.not_false, Bool.not_true, Bool.false_eq_true, reduceCtorEq, ↓reduceIte, decide_true, decide_false, splice, results, resT, resTs, AV.key, Bool.and_true, Bool.true_and, and_true, true_and, and_self, List.flatMap_nil, List.flatMap_cons, List.append_nil, List.nil_append, List.cons_append, List.map_cons, List.map_nil, List.all_cons, List.all_nil, List.length_cons, List.length_nil, Nat.reduceAdd, Nat.reduceLT, Nat.reduceLeDiff, Nat.reduceEqDiff, Nat.reduceSub, Nat.zero_add, Nat.add_zero, List.drop_succ_cons, List.drop_zero, List.take_succ_cons, List.take_zero]
end Go.Bv
