/- BY VALUE, chapter 26, the reference: Size, IsName, FieldAt. -/
import Derived.Test.YtnfmilnlekmjgaaC26E
import Derived.Test.YtnfmilnlekmjgaaC26I
set_option linter.unusedSimpArgs false
set_option linter.unusedVariables false
namespace Go.Bv
variable {S : RT}
attribute [local congr] ite_congr congr_bindOps congr_bindC congr_andThen congr_orNone congr_onBool congr_onEff congr_headC
set_option maxRecDepth 100000
set_option maxHeartbeats 40000000
theorem run96 (t : Ty) (h : checkType t = 0) : run T S 96 [.agg (encT t)] = some (.int .i64 (sizeT t)) := by
  have hz := checkType_zero h
  obtain ⟨k, l, sc⟩ := t
  simp only [encT]
  simp only at hz
  have e1 := tdiv_le l 2 hz.1 (by omega)
  have w1 : IntKind.wrap .i64 (l.tdiv 2) = l.tdiv 2 := wrap_i64 (by omega) (by omega)
  have w2 : IntKind.wrap .i64 (l.tdiv 2 + 1) = l.tdiv 2 + 1 := wrap_i64 (by omega) (by omega)
  have w3 : ∀ b : Bool, IntKind.wrap .i64 (2 + IntKind.wrap .i64 (2 * if b = true then 1 else 0)) = 2 + (2 * if b = true then 1 else 0) := by intro b; cases b <;> rfl
  (refine run_fn T96 ⟨rfl, by decide⟩ ?_; rw [start96])
  simp (config := {decide := true, contextual := true, maxSteps := 3000000}) only [F96, run48, w1, w2, w3, List.replicate, ↓simPre, simPost, Bool.not_not, Bool.not_false, Bool.not_true, Bool.false_eq_true, reduceCtorEq, ↓reduceIte, decide_true, decide_false, splice, results, resT, resTs, AV.key, Bool.and_true, Bool.true_and, and_true, true_and, and_self, List.flatMap_nil, List.flatMap_cons, List.append_nil, List.nil_append, List.cons_append, List.map_cons, List.map_nil, List.all_cons, List.all_nil, List.length_cons, List.length_nil, Nat.reduceAdd, Nat.reduceLT, Nat.reduceLeDiff, Nat.reduceEqDiff, Nat.reduceSub, Nat.zero_add, Nat.add_zero, List.drop_succ_cons, List.drop_zero, List.take_succ_cons, List.take_zero]
  unfold sizeT
  simp only
  unfold checkType at h
  by_cases h3 : k = 3
  · subst h3
    simp [first, cond] at h
    have hl : l = 4 ∨ l = 9 := by omega
    rcases hl with rfl | rfl <;> rfl
  · have h3' : (k == 3) = false := by simpa using h3
    simp only [h3', Bool.false_eq_true, if_false]
    (repeat' split) <;> rfl
def Right (l : List Fd) : Prop := ∀ f ∈ l, checkType f.t = 0
theorem width_right {f : Fd} (h : checkType f.t = 0) : width f = sizeT f.t := by simp [width, widthT, h]
theorem fd_mem (l : List Fd) (i : Nat) (h : i < l.length) : l.getD i default ∈ l := by
  rw [List.getD_eq_getElem?_getD, List.getElem?_eq_getElem h]; simp
theorem run94 (name : ByteArray) (l : List Fd) (hl : l.length ≤ 1000000) (hr : Right l) : run T S 94 [.agg [.str name, .sl (l.map encF)]] = some (.int .i64 (sizes l)) := by
  (refine run_fn T94 ⟨rfl, by decide⟩ ?_; rw [start94])
  simp (config := {decide := true, contextual := true, maxSteps := 3000000}) only [F94, List.length_map, List.replicate, ↓simPre, simPost, Bool.not_not, Bool.not_false, Bool.not_true, Bool.false_eq_true, reduceCtorEq, ↓reduceIte, decide_true, decide_false, splice, results, resT, resTs, AV.key, Bool.and_true, Bool.true_and, and_true, true_and, and_self, List.flatMap_nil, List.flatMap_cons, List.append_nil, List.nil_append, List.cons_append, List.map_cons, List.map_nil, List.all_cons, List.all_nil, List.length_cons, List.length_nil, Nat.reduceAdd, Nat.reduceLT, Nat.reduceLeDiff, Nat.reduceEqDiff, Nat.reduceSub, Nat.zero_add, Nat.add_zero, List.drop_succ_cons, List.drop_zero, List.take_succ_cons, List.take_zero]
  refine Eq.trans (headC_ind (σ := Nat × Int) (fun x => ⟨[.unk, .ptr 1 0 0, .unk, .int .i64 x.2, .int .i64 x.1] ++ List.replicate 17 .unk, ⟨0, .dead⟩ :: ⟨0, .box [.str name, .sl (l.map encF)]⟩ :: List.replicate 20 ⟨0, .dead⟩⟩)
    (fun x => some (AV.int .i64 (x.2 + sizes (l.drop x.1)))) (fun x => l.length - x.1) (fun x => x.1 ≤ l.length ∧ 0 ≤ x.2 ∧ x.2 ≤ 256 * x.1) ?_ (0, 0) ⟨Nat.zero_le _, Int.le_refl _, by simp⟩) (by simp)
  rintro ⟨i, acc⟩ ⟨hi, ha1, ha2⟩ ih
  simp only at hi ha1 ha2
  by_cases hlt : i < l.length
  · obtain ⟨h1, h2, h4, h5⟩ := idx hlt (by omega)
    have h3 := map_get encF l i default hlt
    have hw := width_range (l.getD i default)
    have hc := hr _ (fd_mem l i hlt)
    rw [width_right hc] at hw
    have h6 : IntKind.wrap .i64 (acc + sizeT (l.getD i default).t) = acc + sizeT (l.getD i default).t := wrap_i64 (by omega) (by omega)
    have h96 := run96 (S := S) (l.getD i default).t hc
    rw [drop_cons default hlt]
    simp only [encF, encT] at h3 h96
    simp (config := {decide := true, contextual := true, maxSteps := 3000000}) only [h1, h2, h3, h4, h5, h6, h96, List.length_map, List.replicate, ↓simPre, simPost, Bool.not_not, Bool.not_false, Bool.not_true, Bool.false_eq_true, reduceCtorEq, ↓reduceIte, decide_true, decide_false, splice, results, resT, resTs, AV.key, Bool.and_true, Bool.true_and, and_true, true_and, and_self, List.flatMap_nil, List.flatMap_cons, List.append_nil, List.nil_append, List.cons_append, List.map_cons, List.map_nil, List.all_cons, List.all_nil, List.length_cons, List.length_nil, Nat.reduceAdd, Nat.reduceLT, Nat.reduceLeDiff, Nat.reduceEqDiff, Nat.reduceSub, Nat.zero_add, Nat.add_zero, List.drop_succ_cons, List.drop_zero, List.take_succ_cons, List.take_zero]
    refine (ih (i + 1, acc + sizeT (l.getD i default).t) ⟨by omega, by omega, by push_cast; omega⟩ (by simp only; omega)).trans ?_
    simp only [sizes]
    rw [Int.add_assoc, width_right hc]
  · have h2 := idxEnd (Nat.le_of_not_lt hlt)
    have h7 : l.drop i = [] := List.drop_eq_nil_of_le (by omega)
    simp (config := {decide := true, contextual := true, maxSteps := 3000000}) only [h2, h7, sizes, Int.add_zero, List.length_map, List.replicate, ↓simPre, simPost, Bool.not_not, Bool.not_false, Bool.not_true, Bool.false_eq_true, reduceCtorEq, ↓reduceIte, decide_true, decide_false, splice, results, resT, resTs, AV.key, Bool.and_true, Bool.true_and, and_true, true_and, and_self, List.flatMap_nil, List.flatMap_cons, List.append_nil, List.nil_append, List.cons_append, List.map_cons, List.map_nil, List.all_cons, List.all_nil, List.length_cons, List.length_nil, Nat.reduceAdd, Nat.reduceLT, Nat.reduceLeDiff, Nat.reduceEqDiff, Nat.reduceSub, Nat.zero_add, Nat.add_zero, List.drop_succ_cons, List.drop_zero, List.take_succ_cons, List.take_zero]
theorem run33 (name : ByteArray) (l : List Fd) (hl : l.length ≤ 1000000) (hr : Right l) : run T S 33 [.agg [.str name, .sl (l.map encF)]] = some (.int .i64 (sizes l)) := by
  have h94 := run94 (S := S) name l hl hr
  (refine run_fn T33 ⟨rfl, by decide⟩ ?_; rw [start33])
  simp (config := {decide := true, contextual := true, maxSteps := 3000000}) only [F33, h94, List.replicate, ↓simPre, simPost, Bool.not_not, Bool.not_false, Bool.not_true, Bool.false_eq_true, reduceCtorEq, ↓reduceIte, decide_true, decide_false, splice, results, resT, resTs, AV.key, Bool.and_true, Bool.true_and, and_true, true_and, and_self, List.flatMap_nil, List.flatMap_cons, List.append_nil, List.nil_append, List.cons_append, List.map_cons, List.map_nil, List.all_cons, List.all_nil, List.length_cons, List.length_nil, Nat.reduceAdd, Nat.reduceLT, Nat.reduceLeDiff, Nat.reduceEqDiff, Nat.reduceSub, Nat.zero_add, Nat.add_zero, List.drop_succ_cons, List.drop_zero, List.take_succ_cons, List.take_zero]
def fieldAt : List Fd → ByteArray → Int → Int
  | [], _, _ => -1
  | f :: l, n, i => if (f.name.toList == n.toList) = true then i else fieldAt l n (i + 1)
theorem run95 (name n : ByteArray) (l : List Fd) (hl : l.length ≤ 1000000) : run T S 95 [.agg [.str name, .sl (l.map encF)], .str n] = some (.int .i64 (fieldAt l n 0)) := by
  (refine run_fn T95 ⟨rfl, by decide⟩ ?_; rw [start95])
  simp (config := {decide := true, contextual := true, maxSteps := 3000000}) only [F95, List.length_map, List.replicate, ↓simPre, simPost, Bool.not_not, Bool.not_false, Bool.not_true, Bool.false_eq_true, reduceCtorEq, ↓reduceIte, decide_true, decide_false, splice, results, resT, resTs, AV.key, Bool.and_true, Bool.true_and, and_true, true_and, and_self, List.flatMap_nil, List.flatMap_cons, List.append_nil, List.nil_append, List.cons_append, List.map_cons, List.map_nil, List.all_cons, List.all_nil, List.length_cons, List.length_nil, Nat.reduceAdd, Nat.reduceLT, Nat.reduceLeDiff, Nat.reduceEqDiff, Nat.reduceSub, Nat.zero_add, Nat.add_zero, List.drop_succ_cons, List.drop_zero, List.take_succ_cons, List.take_zero]
  refine Eq.trans (headC_ind (σ := Nat) (fun x => ⟨[.unk, .str n, .ptr 2 0 0, .unk, .unk, .int .i64 x] ++ List.replicate 16 .unk, ⟨0, .dead⟩ :: ⟨0, .dead⟩ :: ⟨0, .box [.str name, .sl (l.map encF)]⟩ :: List.replicate 19 ⟨0, .dead⟩⟩)
    (fun x => some (AV.int .i64 (fieldAt (l.drop x) n x))) (fun x => l.length - x) (fun x => x ≤ l.length) ?_ 0 (Nat.zero_le _)) (by simp)
  intro i hi ih
  by_cases hlt : i < l.length
  · obtain ⟨h1, h2, h4, h5⟩ := idx hlt (by omega)
    have h3 := map_get encF l i default hlt
    rw [drop_cons default hlt]
    simp only [encF] at h3
    simp (config := {decide := true, contextual := true, maxSteps := 3000000}) only [h1, h2, h3, h4, h5, List.length_map, List.replicate, ↓simPre, simPost, Bool.not_not, Bool.not_false, Bool.not_true, Bool.false_eq_true, reduceCtorEq, ↓reduceIte, decide_true, decide_false, splice, results, resT, resTs, AV.key, Bool.and_true, Bool.true_and, and_true, true_and, and_self, List.flatMap_nil, List.flatMap_cons, List.append_nil, List.nil_append, List.cons_append, List.map_cons, List.map_nil, List.all_cons, List.all_nil, List.length_cons, List.length_nil, Nat.reduceAdd, Nat.reduceLT, Nat.reduceLeDiff, Nat.reduceEqDiff, Nat.reduceSub, Nat.zero_add, Nat.add_zero, List.drop_succ_cons, List.drop_zero, List.take_succ_cons, List.take_zero]
    simp only [fieldAt]
    split
    · rfl
    · exact ih (i + 1) (by omega) (by omega)
  · have h2 := idxEnd (Nat.le_of_not_lt hlt)
    have h7 : l.drop i = [] := List.drop_eq_nil_of_le (by omega)
    simp (config := {decide := true, contextual := true, maxSteps := 3000000}) only [h2, h7, fieldAt, List.length_map, List.replicate, ↓simPre, simPost, Bool.not_not, Bool.not_false, Bool.not_true, Bool.false_eq_true, reduceCtorEq, ↓reduceIte, decide_true, decide_false, splice, results, resT, resTs, AV.key, Bool.and_true, Bool.true_and, and_true, true_and, and_self, List.flatMap_nil, List.flatMap_cons, List.append_nil, List.nil_append, List.cons_append, List.map_cons, List.map_nil, List.all_cons, List.all_nil, List.length_cons, List.length_nil, Nat.reduceAdd, Nat.reduceLT, Nat.reduceLeDiff, Nat.reduceEqDiff, Nat.reduceSub, Nat.zero_add, Nat.add_zero, List.drop_succ_cons, List.drop_zero, List.take_succ_cons, List.take_zero]
end Go.Bv
