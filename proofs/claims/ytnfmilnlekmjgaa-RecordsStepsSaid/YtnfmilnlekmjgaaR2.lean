/- BY VALUE, chapter 26, the reference: FieldsErr, FormatErr. -/
import Derived.Test.YtnfmilnlekmjgaaR1
import Derived.Test.YtnfmilnlekmjgaaR1b
set_option linter.unusedSimpArgs false
set_option linter.unusedVariables false
namespace Go.Bv
variable {S : RT}
attribute [local congr] ite_congr congr_bindOps congr_bindC congr_andThen congr_orNone congr_onBool congr_onEff congr_headC
set_option maxRecDepth 100000
set_option maxHeartbeats 40000000
theorem atFrom_any (l : List Fd) (n : ByteArray) : ∀ i off, (atFrom l n i off).2.2 = l.any (fun f => f.name.toList == n.toList) := by
  induction l with
  | nil => intro i off; rfl
  | cons f l ih =>
    intro i off
    simp only [atFrom, List.any_cons]
    split
    · rename_i h; rw [h]; rfl
    · rename_i h; rw [ih]; simp [h]
theorem fieldAt_any (f : Fd) (post : List Fd) : ∀ (pre : List Fd) (k : Int), decide (fieldAt (pre ++ f :: post) f.name k < k + pre.length) = pre.any (fun g => g.name.toList == f.name.toList) := by
  intro pre
  induction pre with
  | nil => intro k; simp [fieldAt]
  | cons g pre ih =>
    intro k
    simp only [List.cons_append, fieldAt, List.any_cons]
    split
    · rename_i h; rw [h]; simp; omega
    · rename_i h
      have := ih (k + 1)
      simp only [List.length_cons, h, Bool.false_or]
      rw [← this]
      congr 1
      push_cast
      apply propext; constructor <;> intro h <;> omega
theorem double_eq (l : List Fd) (i : Nat) (h : i < l.length) : decide (fieldAt l (l.getD i default).name 0 < (i : Int)) = (atFrom (l.take i) (l.getD i default).name 0 0).2.2 := by
  have h1 := fieldAt_any (l.getD i default) (l.drop (i + 1)) (l.take i) 0
  rw [← drop_cons default h, List.take_append_drop] at h1
  rw [atFrom_any, ← h1]
  simp
  have : min i l.length = i := by omega
  rw [this]
def fieldsErr (l : List Fd) : Int × Int :=
  if ((l.length : Int) == 0) = true then (0, 1) else if (decide ((l.length : Int) > 20)) = true then (0, 2) else ckFrom [] l 0 0
theorem sizes_snoc (l : List Fd) (f : Fd) : sizes (l ++ [f]) = sizes l + width f := by
  induction l with
  | nil => simp [sizes]
  | cons g l ih => simp [sizes, ih]; omega
theorem run92 (name : ByteArray) (l : List Fd) (h : Short name l) : run T S 92 [.agg [.str name, .sl (l.map encF)]] = some (.tup [.int .i64 (fieldsErr l).1, .int .i64 (fieldsErr l).2]) := by
  have hll := h.2.1
  (refine run_fn T92 ⟨rfl, by decide⟩ ?_; rw [start92])
  simp (config := {decide := true, contextual := true, maxSteps := 3000000}) only [F92, List.length_map, List.replicate, ↓simPre, simPost, Bool.not_not, Bool.not_false, Bool.not_true, Bool.false_eq_true, reduceCtorEq, ↓reduceIte, decide_true, decide_false, splice, results, resT, resTs, AV.key, Bool.and_true, Bool.true_and, and_true, true_and, and_self, List.flatMap_nil, List.flatMap_cons, List.append_nil, List.nil_append, List.cons_append, List.map_cons, List.map_nil, List.all_cons, List.all_nil, List.length_cons, List.length_nil, Nat.reduceAdd, Nat.reduceLT, Nat.reduceLeDiff, Nat.reduceEqDiff, Nat.reduceSub, Nat.zero_add, Nat.add_zero, List.drop_succ_cons, List.drop_zero, List.take_succ_cons, List.take_zero]
  unfold fieldsErr
  split
  · rfl
  split
  · rfl
  refine Eq.trans (headC_ind (σ := Nat) (fun x => ⟨[.unk, .ptr 1 0 0, .unk, .unk, .int .i64 x] ++ List.replicate 61 .unk, ⟨0, .dead⟩ :: ⟨0, .box [.str name, .sl (l.map encF)]⟩ :: List.replicate 64 ⟨0, .dead⟩⟩)
    (fun x => some (AV.tup [.int .i64 (ckFrom (l.take x) (l.drop x) x (sizes (l.take x))).1, .int .i64 (ckFrom (l.take x) (l.drop x) x (sizes (l.take x))).2])) (fun x => l.length - x) (fun x => x ≤ l.length ∧ Right (l.take x)) ?_ 0 ⟨Nat.zero_le _, by intro f hf; simp at hf⟩) (by simp [sizes])
  intro i ⟨hi, hri⟩ ih
  by_cases hlt : i < l.length
  · obtain ⟨h1, h2, h4, h5⟩ := idx hlt (by omega)
    have h3 := map_get encF l i default hlt
    have hmem := fd_mem l i hlt
    have h91 := run91 (S := S) (l.getD i default).name (by have := h.2.2 _ hmem; omega)
    have h95 := run95 (S := S) name (l.getD i default).name l (by omega)
    have h120 := run120 (S := S) (l.getD i default).t
    have hd := double_eq l i hlt
    rw [drop_cons default hlt]
    simp only [encF, encT] at h3 h120
    have hck : ckFrom (l.take i) (l.getD i default :: l.drop (i + 1)) i (sizes (l.take i)) = if (fieldErr (l.take i) (l.getD i default) != 0) = true then ((i : Int), fieldErr (l.take i) (l.getD i default)) else ckFrom (l.take (i + 1)) (l.drop (i + 1)) ((i : Int) + 1) (sizes (l.take (i + 1))) := by
      simp only [ckFrom]; rw [take_succ' l i hlt, sizes_snoc]
    have hfe : fieldErr (l.take i) (l.getD i default) = if (!isName (l.getD i default).name) = true then 7 else if (decide (fieldAt l (l.getD i default).name 0 < (i : Int))) = true then 13 else if (checkType (l.getD i default).t != 0) = true then checkType (l.getD i default).t else if ((l.getD i default).t.k == 4) = true then 17 else 0 := by
      rw [hd]
      unfold fieldErr
      simp only [first, cond]
      cases isName (l.getD i default).name <;> cases (atFrom (List.take i l) (l.getD i default).name 0 0).2.2 <;> simp <;> (try split) <;> simp_all
    simp (config := {decide := true, contextual := true, maxSteps := 3000000}) only [h1, h2, h3, h4, h5, h91, h95, h120, List.length_map, List.replicate, ↓simPre, simPost, Bool.not_not, Bool.not_false, Bool.not_true, Bool.false_eq_true, reduceCtorEq, ↓reduceIte, decide_true, decide_false, splice, results, resT, resTs, AV.key, Bool.and_true, Bool.true_and, and_true, true_and, and_self, List.flatMap_nil, List.flatMap_cons, List.append_nil, List.nil_append, List.cons_append, List.map_cons, List.map_nil, List.all_cons, List.all_nil, List.length_cons, List.length_nil, Nat.reduceAdd, Nat.reduceLT, Nat.reduceLeDiff, Nat.reduceEqDiff, Nat.reduceSub, Nat.zero_add, Nat.add_zero, List.drop_succ_cons, List.drop_zero, List.take_succ_cons, List.take_zero]
    rw [hck, hfe]
    by_cases c1 : (!isName (l.getD i default).name) = true
    · simp only [c1, if_true]; rfl
    simp only [c1, Bool.false_eq_true, if_false]
    by_cases c2 : (decide (fieldAt l (l.getD i default).name 0 < (i : Int))) = true
    · simp only [c2, if_true]; rfl
    simp only [c2, Bool.false_eq_true, if_false]
    by_cases c3 : (checkType (l.getD i default).t != 0) = true
    · simp only [c3, if_true]
    simp only [c3, Bool.false_eq_true, if_false]
    by_cases c4 : ((l.getD i default).t.k == 4) = true
    · simp only [c4, if_true]; rfl
    simp only [c4, Bool.false_eq_true, if_false]
    refine (ih (i + 1) ⟨by omega, ?_⟩ (by omega)).trans ?_
    · rw [take_succ' l i hlt]
      intro f hf
      rcases List.mem_append.1 hf with hf | hf
      · exact hri f hf
      · simp only [List.mem_singleton] at hf; subst hf; simpa using c3
    · rfl
  · have h2 := idxEnd (Nat.le_of_not_lt hlt)
    have h7 : l.drop i = [] := List.drop_eq_nil_of_le (by omega)
    have h8 : l.take i = l := List.take_of_length_le (by omega)
    rw [h8] at hri
    have h94 := run94 (S := S) name l (by omega) hri
    have w : ∀ b : Bool, IntKind.wrap .i64 (18 * if b = true then 1 else 0) = if b = true then 18 else 0 := by intro b; cases b <;> rfl
    simp (config := {decide := true, contextual := true, maxSteps := 3000000}) only [h2, h7, h8, h94, run48, w, ckFrom, cond, List.length_map, List.replicate, ↓simPre, simPost, Bool.not_not, Bool.not_false, Bool.not_true, Bool.false_eq_true, reduceCtorEq, ↓reduceIte, decide_true, decide_false, splice, results, resT, resTs, AV.key, Bool.and_true, Bool.true_and, and_true, true_and, and_self, List.flatMap_nil, List.flatMap_cons, List.append_nil, List.nil_append, List.cons_append, List.map_cons, List.map_nil, List.all_cons, List.all_nil, List.length_cons, List.length_nil, Nat.reduceAdd, Nat.reduceLT, Nat.reduceLeDiff, Nat.reduceEqDiff, Nat.reduceSub, Nat.zero_add, Nat.add_zero, List.drop_succ_cons, List.drop_zero, List.take_succ_cons, List.take_zero]
theorem fmt_eq (name : ByteArray) (l : List Fd) : checkFormat name l = if (!isName name) = true then (0, 7) else fieldsErr l := by
  unfold checkFormat formErr fieldsErr
  simp only [first, cond]
  cases isName name with
  | false => rfl
  | true =>
    cases h0 : ((l.length : Int) == 0) with
    | true => simp
    | false =>
      cases h1 : decide ((l.length : Int) > 20) with
      | true => simp
      | false => simp
theorem run27 (name : ByteArray) (l : List Fd) (h : Short name l) : run T S 27 [.agg [.str name, .sl (l.map encF)]] = some (.tup [.int .i64 (checkFormat name l).1, .int .i64 (checkFormat name l).2]) := by
  have h91 := run91 (S := S) name (by have := h.1; omega)
  have h92 := run92 (S := S) name l h
  rw [fmt_eq]
  (refine run_fn T27 ⟨rfl, by decide⟩ ?_; rw [start27])
  simp (config := {decide := true, contextual := true, maxSteps := 3000000}) only [F27, h91, h92, List.replicate, ↓simPre, simPost, Bool.not_not, Bool.not_false, Bool.not_true, Bool.false_eq_true, reduceCtorEq, ↓reduceIte, decide_true, decide_false, splice, results, resT, resTs, AV.key, Bool.and_true, Bool.true_and, and_true, true_and, and_self, List.flatMap_nil, List.flatMap_cons, List.append_nil, List.nil_append, List.cons_append, List.map_cons, List.map_nil, List.all_cons, List.all_nil, List.length_cons, List.length_nil, Nat.reduceAdd, Nat.reduceLT, Nat.reduceLeDiff, Nat.reduceEqDiff, Nat.reduceSub, Nat.zero_add, Nat.add_zero, List.drop_succ_cons, List.drop_zero, List.take_succ_cons, List.take_zero]
  split <;> rfl
theorem run73 (name : ByteArray) (l : List Fd) (h : Short name l) : run T S 73 [.agg [.str name, .sl (l.map encF)]] = some (.int .i64 (checkFormat name l).2) := by
  have h27 := run27 (S := S) name l h
  (refine run_fn T73 ⟨rfl, by decide⟩ ?_; rw [start73])
  simp (config := {decide := true, contextual := true, maxSteps := 3000000}) only [F73, h27, List.replicate, ↓simPre, simPost, Bool.not_not, Bool.not_false, Bool.not_true, Bool.false_eq_true, reduceCtorEq, ↓reduceIte, decide_true, decide_false, splice, results, resT, resTs, AV.key, Bool.and_true, Bool.true_and, and_true, true_and, and_self, List.flatMap_nil, List.flatMap_cons, List.append_nil, List.nil_append, List.cons_append, List.map_cons, List.map_nil, List.all_cons, List.all_nil, List.length_cons, List.length_nil, Nat.reduceAdd, Nat.reduceLT, Nat.reduceLeDiff, Nat.reduceEqDiff, Nat.reduceSub, Nat.zero_add, Nat.add_zero, List.drop_succ_cons, List.drop_zero, List.take_succ_cons, List.take_zero]
end Go.Bv
