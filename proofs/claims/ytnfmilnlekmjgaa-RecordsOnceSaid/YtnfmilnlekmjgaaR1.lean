/- BY VALUE, chapter 26, the reference: Size, IsName, FieldAt. -/
import Derived.Test.YtnfmilnlekmjgaaC26E
import Derived.Test.YtnfmilnlekmjgaaC26I
set_option linter.unusedSimpArgs false
set_option linter.unusedVariables false
namespace Go.Bv
variable {S : RT}
attribute [local congr] ite_congr congr_bindOps congr_bindC congr_andThen congr_orNone congr_onBool congr_onEff congr_headC
set_option maxRecDepth 100000
set_option maxHeartbeats 40000000
theorem run96 (t : Ty) (h : checkType t = 0) : run T S 96 [.agg (encT t)] = some (.int .i64 (sizeT t)) := by
  have hz := checkType_zero h
  obtain ⟨k, l, sc⟩ := t
  simp only [encT]
  simp only at hz
  have e1 := tdiv_le l 2 hz.1 (by omega)
  have w1 : IntKind.wrap .i64 (l.tdiv 2) = l.tdiv 2 := wrap_i64 (by omega) (by omega)
  have w2 : IntKind.wrap .i64 (l.tdiv 2 + 1) = l.tdiv 2 + 1 := wrap_i64 (by omega) (by omega)
  have w3 : ∀ b : Bool, IntKind.wrap .i64 (2 + IntKind.wrap .i64 (2 * if b = true then 1 else 0)) = 2 + (2 * if b = true then 1 else 0) := by intro b; cases b <;> rfl
  (refine run_fn T96 ⟨rfl, by decide⟩ ?_; rw [start96])
  simp (config := {decide := true, contextual := true, maxSteps := 3000000}) only [F96, run48, w1, w2, w3, List.replicate, ↓simPre, simPost, Bool.not_not, Bool.not_false, Bool.not_true, Bool.false_eq_true, reduceCtorEq, ↓reduceIte, decide_true, decide_false, splice, results, resT, resTs, AV.key, Bool.and_true, Bool.true_and, and_true, true_and, and_self, List.flatMap_nil, List.flatMap_cons, List.append_nil, List.nil_append, List.cons_append, List.map_cons, List.map_nil, List.all_cons, List.all_nil, List.length_cons, List.length_nil, Nat.reduceAdd, Nat.reduceLT, Nat.reduceLeDiff, Nat.reduceEqDiff, Nat.reduceSub, Nat.zero_add, Nat.add_zero, List.drop_succ_cons, List.drop_zero, List.take_succ_cons, List.take_zero]
  unfold sizeT
  simp only
  unfold checkType at h
  by_cases h3 : k = 3
  · subst h3
    simp [first, cond] at h
    have hl : l = 4 ∨ l = 9 := by omega
    rcases hl with rfl | rfl <;> rfl
  · have h3' : (k == 3) = false := by simpa using h3
    simp only [h3', Bool.false_eq_true, if_false]
    (repeat' split) <;> rfl
def Right (l : List Fd) : Prop := ∀ f ∈ l, checkType f.t = 0
theorem width_right {f : Fd} (h : checkType f.t = 0) : width f = sizeT f.t := by simp [width, widthT, h]
theorem fd_mem (l : List Fd) (i : Nat) (h : i < l.length) : l.getD i default ∈ l := by
  rw [List.getD_eq_getElem?_getD, List.getElem?_eq_getElem h]; simp
theorem run94 (name : ByteArray) (l : List Fd) (hl : l.length ≤ 1000000) (hr : Right l) : run T S 94 [.agg [.str name, .sl (l.map encF)]] = some (.int .i64 (sizes l)) := by
  (refine run_fn T94 ⟨rfl, by decide⟩ ?_; rw [start94])
  simp (config := {decide := true, contextual := true, maxSteps := 3000000}) only [F94, List.length_map, List.replicate, ↓simPre, simPost, Bool.not_not, Bool.not_false, Bool.not_true, Bool.false_eq_true, reduceCtorEq, ↓reduceIte, decide_true, decide_false, splice, results, resT, resTs, AV.key, Bool.and_true, Bool.true_and, and_true, true_and, and_self, List.flatMap_nil, List.flatMap_cons, List.append_nil, List.nil_append, List.cons_append, List.map_cons, List.map_nil, List.all_cons, List.all_nil, List.length_cons, List.length_nil, Nat.reduceAdd, Nat.reduceLT, Nat.reduceLeDiff, Nat.reduceEqDiff, Nat.reduceSub, Nat.zero_add, Nat.add_zero, List.drop_succ_cons, List.drop_zero, List.take_succ_cons, List.take_zero]
  refine Eq.trans (headC_ind (σ := Nat × Int) (fun x => ⟨[.unk, .ptr 1 0 0, .unk, .int .i64 x.2, .int .i64 x.1] ++ List.replicate 17 .unk, ⟨0, .dead⟩ :: ⟨0, .box [.str name, .sl (l.map encF)]⟩ :: List.replicate 20 ⟨0, .dead⟩⟩)
    (fun x => some (AV.int .i64 (x.2 + sizes (l.drop x.1)))) (fun x => l.length - x.1) (fun x => x.1 ≤ l.length ∧ 0 ≤ x.2 ∧ x.2 ≤ 256 * x.1) ?_ (0, 0) ⟨Nat.zero_le _, Int.le_refl _, by simp⟩) (by simp)
  rintro ⟨i, acc⟩ ⟨hi, ha1, ha2⟩ ih
  simp only at hi ha1 ha2
  by_cases hlt : i < l.length
  · obtain ⟨h1, h2, h4, h5⟩ := idx hlt (by omega)
    have h3 := map_get encF l i default hlt
    have hw := width_range (l.getD i default)
    have hc := hr _ (fd_mem l i hlt)
    rw [width_right hc] at hw
    have h6 : IntKind.wrap .i64 (acc + sizeT (l.getD i default).t) = acc + sizeT (l.getD i default).t := wrap_i64 (by omega) (by omega)
    have h96 := run96 (S := S) (l.getD i default).t hc
    rw [drop_cons default hlt]
    simp only [encF, encT] at h3 h96
    simp (config := {decide := true, contextual := true, maxSteps := 3000000}) only [h1, h2, h3, h4, h5, h6, h96, List.length_map, List.replicate, ↓simPre, simPost, Bool.not_not, Bool.not_false, Bool.not_true, Bool.false_eq_true, reduceCtorEq, ↓reduceIte, decide_true, decide_false, splice, results, resT, resTs, AV.key, Bool.and_true, Bool.true_and, and_true, true_and, and_self, List.flatMap_nil, List.flatMap_cons, List.append_nil, List.nil_append, List.cons_append, List.map_cons, List.map_nil, List.all_cons, List.all_nil, List.length_cons, List.length_nil, Nat.reduceAdd, Nat.reduceLT, Nat.reduceLeDiff, Nat.reduceEqDiff, Nat.reduceSub, Nat.zero_add, Nat.add_zero, List.drop_succ_cons, List.drop_zero, List.take_succ_cons, List.take_zero]
    refine (ih (i + 1, acc + sizeT (l.getD i default).t) ⟨by omega, by omega, by push_cast; omega⟩ (by simp only; omega)).trans ?_
    simp only [sizes]
    rw [Int.add_assoc, width_right hc]
  · have h2 := idxEnd (Nat.le_of_not_lt hlt)
    have h7 : l.drop i = [] := List.drop_eq_nil_of_le (by omega)
    simp (config := {decide := true, contextual := true, maxSteps := 3000000}) only [h2, h7, sizes, Int.add_zero, List.length_map, List.replicate, ↓simPre, simPost, Bool.not_not, Bool.not_false, Bool.not_true, Bool.false_eq_true, reduceCtorEq, ↓reduceIte, decide_true, decide_false, splice, results, resT, resTs, AV.key, Bool.and_true, Bool.true_and, and_true, true_and, and_self, List.flatMap_nil, List.flatMap_cons, List.append_nil, List.nil_append, List.cons_append, List.map_cons, List.map_nil, List.all_cons, List.all_nil, List.length_cons, List.length_nil, Nat.reduceAdd, Nat.reduceLT, Nat.reduceLeDiff, Nat.reduceEqDiff, Nat.reduceSub, Nat.zero_add, Nat.add_zero, List.drop_succ_cons, List.drop_zero, List.take_succ_cons, List.take_zero]
theorem run33 (name : ByteArray) (l : List Fd) (hl : l.length ≤ 1000000) (hr : Right l) : run T S 33 [.agg [.str name, .sl (l.map encF)]] = some (.int .i64 (sizes l)) := by
  have h94 := run94 (S := S) name l hl hr
  (refine run_fn T33 ⟨rfl, by decide⟩ ?_; rw [start33])
  simp (config := {decide := true, contextual := true, maxSteps := 3000000}) only [F33, h94, List.replicate, ↓simPre, simPost, Bool.not_not, Bool.not_false, Bool.not_true, Bool.false_eq_true, reduceCtorEq, ↓reduceIte, decide_true, decide_false, splice, results, resT, resTs, AV.key, Bool.and_true, Bool.true_and, and_true, true_and, and_self, List.flatMap_nil, List.flatMap_cons, List.append_nil, List.nil_append, List.cons_append, List.map_cons, List.map_nil, List.all_cons, List.all_nil, List.length_cons, List.length_nil, Nat.reduceAdd, Nat.reduceLT, Nat.reduceLeDiff, Nat.reduceEqDiff, Nat.reduceSub, Nat.zero_add, Nat.add_zero, List.drop_succ_cons, List.drop_zero, List.take_succ_cons, List.take_zero]
def fieldAt : List Fd → ByteArray → Int → Int
  | [], _, _ => -1
  | f :: l, n, i => if (f.name.toList == n.toList) = true then i else fieldAt l n (i + 1)
theorem run95 (name n : ByteArray) (l : List Fd) (hl : l.length ≤ 1000000) : run T S 95 [.agg [.str name, .sl (l.map encF)], .str n] = some (.int .i64 (fieldAt l n 0)) := by
  (refine run_fn T95 ⟨rfl, by decide⟩ ?_; rw [start95])
  simp (config := {decide := true, contextual := true, maxSteps := 3000000}) only [F95, List.length_map, List.replicate, ↓simPre, simPost, Bool.not_not, Bool.not_false, Bool.not_true, Bool.false_eq_true, reduceCtorEq, ↓reduceIte, decide_true, decide_false, splice, results, resT, resTs, AV.key, Bool.and_true, Bool.true_and, and_true, true_and, and_self, List.flatMap_nil, List.flatMap_cons, List.append_nil, List.nil_append, List.cons_append, List.map_cons, List.map_nil, List.all_cons, List.all_nil, List.length_cons, List.length_nil, Nat.reduceAdd, Nat.reduceLT, Nat.reduceLeDiff, Nat.reduceEqDiff, Nat.reduceSub, Nat.zero_add, Nat.add_zero, List.drop_succ_cons, List.drop_zero, List.take_succ_cons, List.take_zero]
  refine Eq.trans (headC_ind (σ := Nat) (fun x => ⟨[.unk, .str n, .ptr 2 0 0, .unk, .unk, .int .i64 x] ++ List.replicate 16 .unk, ⟨0, .dead⟩ :: ⟨0, .dead⟩ :: ⟨0, .box [.str name, .sl (l.map encF)]⟩ :: List.replicate 19 ⟨0, .dead⟩⟩)
    (fun x => some (AV.int .i64 (fieldAt (l.drop x) n x))) (fun x => l.length - x) (fun x => x ≤ l.length) ?_ 0 (Nat.zero_le _)) (by simp)
  intro i hi ih
  by_cases hlt : i < l.length
  · obtain ⟨h1, h2, h4, h5⟩ := idx hlt (by omega)
    have h3 := map_get encF l i default hlt
    rw [drop_cons default hlt]
    simp only [encF] at h3
    simp (config := {decide := true, contextual := true, maxSteps := 3000000}) only [h1, h2, h3, h4, h5, List.length_map, List.replicate, ↓simPre, simPost, Bool.not_not, Bool.not_false, Bool.not_true, Bool.false_eq_true, reduceCtorEq, ↓reduceIte, decide_true, decide_false, splice, results, resT, resTs, AV.key, Bool.and_true, Bool.true_and, and_true, true_and, and_self, List.flatMap_nil, List.flatMap_cons, List.append_nil, List.nil_append, List.cons_append, List.map_cons, List.map_nil, List.all_cons, List.all_nil, List.length_cons, List.length_nil, Nat.reduceAdd, Nat.reduceLT, Nat.reduceLeDiff, Nat.reduceEqDiff, Nat.reduceSub, Nat.zero_add, Nat.add_zero, List.drop_succ_cons, List.drop_zero, List.take_succ_cons, List.take_zero]
    simp only [fieldAt]
    split
    · rfl
    · exact ih (i + 1) (by omega) (by omega)
  · have h2 := idxEnd (Nat.le_of_not_lt hlt)
    have h7 : l.drop i = [] := List.drop_eq_nil_of_le (by omega)
    simp (config := {decide := true, contextual := true, maxSteps := 3000000}) only [h2, h7, fieldAt, List.length_map, List.replicate, ↓simPre, simPost, Bool.not_not, Bool.not_false, Bool.not_true, Bool.false_eq_true, reduceCtorEq, ↓reduceIte, decide_true, decide_false, splice, results, resT, resTs, AV.key, Bool.and_true, Bool.true_and, and_true, true_and, and_self, List.flatMap_nil, List.flatMap_cons, List.append_nil, List.nil_append, List.cons_append, List.map_cons, List.map_nil, List.all_cons, List.all_nil, List.length_cons, List.length_nil, Nat.reduceAdd, Nat.reduceLT, Nat.reduceLeDiff, Nat.reduceEqDiff, Nat.reduceSub, Nat.zero_add, Nat.add_zero, List.drop_succ_cons, List.drop_zero, List.take_succ_cons, List.take_zero]
end Go.Bv

/- BY VALUE, chapter 26, the reference: IsName. -/
set_option linter.unusedSimpArgs false
set_option linter.unusedVariables false
namespace Go.Bv
variable {S : RT}
attribute [local congr] ite_congr congr_bindOps congr_bindC congr_andThen congr_orNone congr_onBool congr_onEff congr_headC
set_option maxRecDepth 100000
set_option maxHeartbeats 40000000
theorem name_key : ∀ a1 a2 d36 d35 d64 z b1 b2 e95 e46 : Bool,
    (!((((a1 && a2) || d36) || d35) || d64) && (z || ((!(b1 && b2) && !e95) && !e46))) = !((((a1 && a2) || d35) || d36 || d64) || (!z && ((b1 && b2) || e95 || e46))) := by decide
theorem name_no' {C X : Bool} (h : C = !X) (hc : C = true) : X = false := by cases X <;> simp_all
theorem name_yes' {C X : Bool} (h : C = !X) (hc : ¬ C = true) : X = true := by cases X <;> simp_all
theorem isName_eq (s : ByteArray) : isName s = (if (!(decide (1 ≤ (s.size : Int)) && decide ((s.size : Int) ≤ 10))) = true then false else nameFrom s.data.toList true) := by
  unfold isName
  rw [ByteArray.toList_eq, ByteArray.toList_eq]
  have e1 : (bs []).data.toList = [] := rfl
  rw [e1]
  have hl : s.data.toList.length = s.size := by simp
  by_cases h0 : s.data.toList = []
  · rw [h0] at hl ⊢
    simp at hl
    simp [← hl]
  · have : s.data.toList.length ≠ 0 := fun e => h0 (List.eq_nil_of_length_eq_zero e)
    have h1 : 1 ≤ (s.size : Int) := by omega
    have h2 : (s.data.toList == []) = false := by
      cases hb : (s.data.toList == [])
      · rfl
      · exact absurd (eq_of_beq hb) h0
    rw [h2]
    by_cases h10 : s.size ≤ 10
    · have : (s.size : Int) ≤ 10 := by omega
      simp [h1, h10, this]
    · have : ¬ (s.size : Int) ≤ 10 := by omega
      simp [h1, h10, this]
theorem run91 (s : ByteArray) (hs : s.size ≤ 1000000000) : run T S 91 [.str s] = some (.bool (isName s)) := by
  (refine run_fn T91 ⟨rfl, by decide⟩ ?_; rw [start91])
  simp (config := {decide := true, contextual := true, maxSteps := 3000000}) only [F91, run62, List.replicate, ↓simPre, simPost, Bool.not_not, Bool.not_false, Bool.not_true, Bool.false_eq_true, reduceCtorEq, ↓reduceIte, decide_true, decide_false, splice, results, resT, resTs, AV.key, Bool.and_true, Bool.true_and, and_true, true_and, and_self, List.flatMap_nil, List.flatMap_cons, List.append_nil, List.nil_append, List.cons_append, List.map_cons, List.map_nil, List.all_cons, List.all_nil, List.length_cons, List.length_nil, Nat.reduceAdd, Nat.reduceLT, Nat.reduceLeDiff, Nat.reduceEqDiff, Nat.reduceSub, Nat.zero_add, Nat.add_zero, List.drop_succ_cons, List.drop_zero, List.take_succ_cons, List.take_zero]
  skip
  refine Eq.trans (b := if (!(decide (1 ≤ (s.size : Int)) && decide ((s.size : Int) ≤ 10))) = true then some (AV.bool false) else some (AV.bool (nameFrom s.data.toList true))) ?_ ?_
  · split
    · rfl
    refine Eq.trans (headC_ind (σ := Nat) (fun i => ⟨[.str s, .unk, .unk, .int .i64 i] ++ List.replicate 48 .unk, List.replicate 52 ⟨0, .dead⟩⟩)
        (fun i => some (AV.bool (nameFrom (s.data.toList.drop i) (i == 0)))) (fun i => s.size - i) (fun i => i ≤ s.size) ?_ 0 (Nat.zero_le _)) (by simp only [List.drop_zero]; rfl)
    intro i hi ih
    by_cases hlt : i < s.size
    · obtain ⟨h1, h2, h4, h5⟩ := idx hlt (by omega)
      rw [drop_cons 0 (by rw [Array.length_toList]; exact hlt)]
      have hb : byteAt s i = ((s.data.toList.getD i 0).toNat : Int) := by simp [byteAt]
      simp (config := {decide := true, contextual := true, maxSteps := 3000000}) only [h1, h2, h4, h5, hb, run133, run134, List.replicate, ↓simPre, simPost, Bool.not_not, Bool.not_false, Bool.not_true, Bool.false_eq_true, reduceCtorEq, ↓reduceIte, decide_true, decide_false, splice, results, resT, resTs, AV.key, Bool.and_true, Bool.true_and, and_true, true_and, and_self, List.flatMap_nil, List.flatMap_cons, List.append_nil, List.nil_append, List.cons_append, List.map_cons, List.map_nil, List.all_cons, List.all_nil, List.length_cons, List.length_nil, Nat.reduceAdd, Nat.reduceLT, Nat.reduceLeDiff, Nat.reduceEqDiff, Nat.reduceSub, Nat.zero_add, Nat.add_zero, List.drop_succ_cons, List.drop_zero, List.take_succ_cons, List.take_zero]
      simp only [nameFrom, letterB, otherB]
      have hz : (i == 0) = ((i : Int) == 0) := by cases i <;> rfl
      rw [hz]
      split
      · rename_i hc
        have hk := name_no' (name_key _ _ _ _ _ _ _ _ _ _) hc
        exact (congrArg (fun b => some (AV.bool (b && _))) hk).symm
      · rename_i hc
        have hk := name_yes' (name_key _ _ _ _ _ _ _ _ _ _) hc
        refine Eq.trans ?_ (congrArg (fun b => some (AV.bool (b && _))) hk).symm
        exact ih (i + 1) (by omega) (by omega)
    · have h2 := idxEnd (Nat.le_of_not_lt hlt)
      have h7 : s.data.toList.drop i = [] := List.drop_eq_nil_of_le (by rw [Array.length_toList]; exact Nat.le_of_not_lt hlt)
      simp (config := {decide := true, contextual := true, maxSteps := 3000000}) only [h2, h7, nameFrom, List.replicate, ↓simPre, simPost, Bool.not_not, Bool.not_false, Bool.not_true, Bool.false_eq_true, reduceCtorEq, ↓reduceIte, decide_true, decide_false, splice, results, resT, resTs, AV.key, Bool.and_true, Bool.true_and, and_true, true_and, and_self, List.flatMap_nil, List.flatMap_cons, List.append_nil, List.nil_append, List.cons_append, List.map_cons, List.map_nil, List.all_cons, List.all_nil, List.length_cons, List.length_nil, Nat.reduceAdd, Nat.reduceLT, Nat.reduceLeDiff, Nat.reduceEqDiff, Nat.reduceSub, Nat.zero_add, Nat.add_zero, List.drop_succ_cons, List.drop_zero, List.take_succ_cons, List.take_zero]
  · rw [isName_eq]
    split <;> rfl
end Go.Bv

/- BY VALUE, chapter 26, the reference: FieldsErr, FormatErr. -/
set_option linter.unusedSimpArgs false
set_option linter.unusedVariables false
namespace Go.Bv
variable {S : RT}
attribute [local congr] ite_congr congr_bindOps congr_bindC congr_andThen congr_orNone congr_onBool congr_onEff congr_headC
set_option maxRecDepth 100000
set_option maxHeartbeats 40000000
theorem atFrom_any (l : List Fd) (n : ByteArray) : ∀ i off, (atFrom l n i off).2.2 = l.any (fun f => f.name.toList == n.toList) := by
  induction l with
  | nil => intro i off; rfl
  | cons f l ih =>
    intro i off
    simp only [atFrom, List.any_cons]
    split
    · rename_i h; rw [h]; rfl
    · rename_i h; rw [ih]; simp [h]
theorem fieldAt_any (f : Fd) (post : List Fd) : ∀ (pre : List Fd) (k : Int), decide (fieldAt (pre ++ f :: post) f.name k < k + pre.length) = pre.any (fun g => g.name.toList == f.name.toList) := by
  intro pre
  induction pre with
  | nil => intro k; simp [fieldAt]
  | cons g pre ih =>
    intro k
    simp only [List.cons_append, fieldAt, List.any_cons]
    split
    · rename_i h; rw [h]; simp; omega
    · rename_i h
      have := ih (k + 1)
      simp only [List.length_cons, h, Bool.false_or]
      rw [← this]
      congr 1
      push_cast
      apply propext; constructor <;> intro h <;> omega
theorem double_eq (l : List Fd) (i : Nat) (h : i < l.length) : decide (fieldAt l (l.getD i default).name 0 < (i : Int)) = (atFrom (l.take i) (l.getD i default).name 0 0).2.2 := by
  have h1 := fieldAt_any (l.getD i default) (l.drop (i + 1)) (l.take i) 0
  rw [← drop_cons default h, List.take_append_drop] at h1
  rw [atFrom_any, ← h1]
  simp
  have : min i l.length = i := by omega
  rw [this]
def fieldsErr (l : List Fd) : Int × Int :=
  if ((l.length : Int) == 0) = true then (0, 1) else if (decide ((l.length : Int) > 20)) = true then (0, 2) else ckFrom [] l 0 0
theorem sizes_snoc (l : List Fd) (f : Fd) : sizes (l ++ [f]) = sizes l + width f := by
  induction l with
  | nil => simp [sizes]
  | cons g l ih => simp [sizes, ih]; omega
theorem run92 (name : ByteArray) (l : List Fd) (h : Short name l) : run T S 92 [.agg [.str name, .sl (l.map encF)]] = some (.tup [.int .i64 (fieldsErr l).1, .int .i64 (fieldsErr l).2]) := by
  have hll := h.2.1
  (refine run_fn T92 ⟨rfl, by decide⟩ ?_; rw [start92])
  simp (config := {decide := true, contextual := true, maxSteps := 3000000}) only [F92, List.length_map, List.replicate, ↓simPre, simPost, Bool.not_not, Bool.not_false, Bool.not_true, Bool.false_eq_true, reduceCtorEq, ↓reduceIte, decide_true, decide_false, splice, results, resT, resTs, AV.key, Bool.and_true, Bool.true_and, and_true, true_and, and_self, List.flatMap_nil, List.flatMap_cons, List.append_nil, List.nil_append, List.cons_append, List.map_cons, List.map_nil, List.all_cons, List.all_nil, List.length_cons, List.length_nil, Nat.reduceAdd, Nat.reduceLT, Nat.reduceLeDiff, Nat.reduceEqDiff, Nat.reduceSub, Nat.zero_add, Nat.add_zero, List.drop_succ_cons, List.drop_zero, List.take_succ_cons, List.take_zero]
  unfold fieldsErr
  split
  · rfl
  split
  · rfl
  refine Eq.trans (headC_ind (σ := Nat) (fun x => ⟨[.unk, .ptr 1 0 0, .unk, .unk, .int .i64 x] ++ List.replicate 61 .unk, ⟨0, .dead⟩ :: ⟨0, .box [.str name, .sl (l.map encF)]⟩ :: List.replicate 64 ⟨0, .dead⟩⟩)
    (fun x => some (AV.tup [.int .i64 (ckFrom (l.take x) (l.drop x) x (sizes (l.take x))).1, .int .i64 (ckFrom (l.take x) (l.drop x) x (sizes (l.take x))).2])) (fun x => l.length - x) (fun x => x ≤ l.length ∧ Right (l.take x)) ?_ 0 ⟨Nat.zero_le _, by intro f hf; simp at hf⟩) (by simp [sizes])
  intro i ⟨hi, hri⟩ ih
  by_cases hlt : i < l.length
  · obtain ⟨h1, h2, h4, h5⟩ := idx hlt (by omega)
    have h3 := map_get encF l i default hlt
    have hmem := fd_mem l i hlt
    have h91 := run91 (S := S) (l.getD i default).name (by have := h.2.2 _ hmem; omega)
    have h95 := run95 (S := S) name (l.getD i default).name l (by omega)
    have h120 := run120 (S := S) (l.getD i default).t
    have hd := double_eq l i hlt
    rw [drop_cons default hlt]
    simp only [encF, encT] at h3 h120
    have hck : ckFrom (l.take i) (l.getD i default :: l.drop (i + 1)) i (sizes (l.take i)) = if (fieldErr (l.take i) (l.getD i default) != 0) = true then ((i : Int), fieldErr (l.take i) (l.getD i default)) else ckFrom (l.take (i + 1)) (l.drop (i + 1)) ((i : Int) + 1) (sizes (l.take (i + 1))) := by
      simp only [ckFrom]; rw [take_succ' l i hlt, sizes_snoc]
    have hfe : fieldErr (l.take i) (l.getD i default) = if (!isName (l.getD i default).name) = true then 7 else if (decide (fieldAt l (l.getD i default).name 0 < (i : Int))) = true then 13 else if (checkType (l.getD i default).t != 0) = true then checkType (l.getD i default).t else if ((l.getD i default).t.k == 4) = true then 17 else 0 := by
      rw [hd]
      unfold fieldErr
      simp only [first, cond]
      cases isName (l.getD i default).name <;> cases (atFrom (List.take i l) (l.getD i default).name 0 0).2.2 <;> simp <;> (try split) <;> simp_all
    simp (config := {decide := true, contextual := true, maxSteps := 3000000}) only [h1, h2, h3, h4, h5, h91, h95, h120, List.length_map, List.replicate, ↓simPre, simPost, Bool.not_not, Bool.not_false, Bool.not_true, Bool.false_eq_true, reduceCtorEq, ↓reduceIte, decide_true, decide_false, splice, results, resT, resTs, AV.key, Bool.and_true, Bool.true_and, and_true, true_and, and_self, List.flatMap_nil, List.flatMap_cons, List.append_nil, List.nil_append, List.cons_append, List.map_cons, List.map_nil, List.all_cons, List.all_nil, List.length_cons, List.length_nil, Nat.reduceAdd, Nat.reduceLT, Nat.reduceLeDiff, Nat.reduceEqDiff, Nat.reduceSub, Nat.zero_add, Nat.add_zero, List.drop_succ_cons, List.drop_zero, List.take_succ_cons, List.take_zero]
    rw [hck, hfe]
    by_cases c1 : (!isName (l.getD i default).name) = true
    · simp only [c1, if_true]; rfl
    simp only [c1, Bool.false_eq_true, if_false]
    by_cases c2 : (decide (fieldAt l (l.getD i default).name 0 < (i : Int))) = true
    · simp only [c2, if_true]; rfl
    simp only [c2, Bool.false_eq_true, if_false]
    by_cases c3 : (checkType (l.getD i default).t != 0) = true
    · simp only [c3, if_true]
    simp only [c3, Bool.false_eq_true, if_false]
    by_cases c4 : ((l.getD i default).t.k == 4) = true
    · simp only [c4, if_true]; rfl
    simp only [c4, Bool.false_eq_true, if_false]
    refine (ih (i + 1) ⟨by omega, ?_⟩ (by omega)).trans ?_
    · rw [take_succ' l i hlt]
      intro f hf
      rcases List.mem_append.1 hf with hf | hf
      · exact hri f hf
      · simp only [List.mem_singleton] at hf; subst hf; simpa using c3
    · rfl
  · have h2 := idxEnd (Nat.le_of_not_lt hlt)
    have h7 : l.drop i = [] := List.drop_eq_nil_of_le (by omega)
    have h8 : l.take i = l := List.take_of_length_le (by omega)
    rw [h8] at hri
    have h94 := run94 (S := S) name l (by omega) hri
    have w : ∀ b : Bool, IntKind.wrap .i64 (18 * if b = true then 1 else 0) = if b = true then 18 else 0 := by intro b; cases b <;> rfl
    simp (config := {decide := true, contextual := true, maxSteps := 3000000}) only [h2, h7, h8, h94, run48, w, ckFrom, cond, List.length_map, List.replicate, ↓simPre, simPost, Bool.not_not, Bool.not_false, Bool.not_true, Bool.false_eq_true, reduceCtorEq, ↓reduceIte, decide_true, decide_false, splice, results, resT, resTs, AV.key, Bool.and_true, Bool.true_and, and_true, true_and, and_self, List.flatMap_nil, List.flatMap_cons, List.append_nil, List.nil_append, List.cons_append, List.map_cons, List.map_nil, List.all_cons, List.all_nil, List.length_cons, List.length_nil, Nat.reduceAdd, Nat.reduceLT, Nat.reduceLeDiff, Nat.reduceEqDiff, Nat.reduceSub, Nat.zero_add, Nat.add_zero, List.drop_succ_cons, List.drop_zero, List.take_succ_cons, List.take_zero]
theorem fmt_eq (name : ByteArray) (l : List Fd) : checkFormat name l = if (!isName name) = true then (0, 7) else fieldsErr l := by
  unfold checkFormat formErr fieldsErr
  simp only [first, cond]
  cases isName name with
  | false => rfl
  | true =>
    cases h0 : ((l.length : Int) == 0) with
    | true => simp
    | false =>
      cases h1 : decide ((l.length : Int) > 20) with
      | true => simp
      | false => simp
theorem run27 (name : ByteArray) (l : List Fd) (h : Short name l) : run T S 27 [.agg [.str name, .sl (l.map encF)]] = some (.tup [.int .i64 (checkFormat name l).1, .int .i64 (checkFormat name l).2]) := by
  have h91 := run91 (S := S) name (by have := h.1; omega)
  have h92 := run92 (S := S) name l h
  rw [fmt_eq]
  (refine run_fn T27 ⟨rfl, by decide⟩ ?_; rw [start27])
  simp (config := {decide := true, contextual := true, maxSteps := 3000000}) only [F27, h91, h92, List.replicate, ↓simPre, simPost, Bool.not_not, Bool.not_false, Bool.not_true, Bool.false_eq_true, reduceCtorEq, ↓reduceIte, decide_true, decide_false, splice, results, resT, resTs, AV.key, Bool.and_true, Bool.true_and, and_true, true_and, and_self, List.flatMap_nil, List.flatMap_cons, List.append_nil, List.nil_append, List.cons_append, List.map_cons, List.map_nil, List.all_cons, List.all_nil, List.length_cons, List.length_nil, Nat.reduceAdd, Nat.reduceLT, Nat.reduceLeDiff, Nat.reduceEqDiff, Nat.reduceSub, Nat.zero_add, Nat.add_zero, List.drop_succ_cons, List.drop_zero, List.take_succ_cons, List.take_zero]
  split <;> rfl
theorem run73 (name : ByteArray) (l : List Fd) (h : Short name l) : run T S 73 [.agg [.str name, .sl (l.map encF)]] = some (.int .i64 (checkFormat name l).2) := by
  have h27 := run27 (S := S) name l h
  (refine run_fn T73 ⟨rfl, by decide⟩ ?_; rw [start73])
  simp (config := {decide := true, contextual := true, maxSteps := 3000000}) only [F73, h27, List.replicate, ↓simPre, simPost, Bool.not_not, Bool.not_false, Bool.not_true, Bool.false_eq_true, reduceCtorEq, ↓reduceIte, decide_true, decide_false, splice, results, resT, resTs, AV.key, Bool.and_true, Bool.true_and, and_true, true_and, and_self, List.flatMap_nil, List.flatMap_cons, List.append_nil, List.nil_append, List.cons_append, List.map_cons, List.map_nil, List.all_cons, List.all_nil, List.length_cons, List.length_nil, Nat.reduceAdd, Nat.reduceLT, Nat.reduceLeDiff, Nat.reduceEqDiff, Nat.reduceSub, Nat.zero_add, Nat.add_zero, List.drop_succ_cons, List.drop_zero, List.take_succ_cons, List.take_zero]
end Go.Bv
