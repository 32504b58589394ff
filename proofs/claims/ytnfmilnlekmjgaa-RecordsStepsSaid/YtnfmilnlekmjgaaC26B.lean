/- BY VALUE, chapter 26: the program's functions, one by one (2). -/
import Derived.Test.YtnfmilnlekmjgaaC26A
set_option linter.unusedSimpArgs false
set_option linter.unusedVariables false
namespace Go.Bv
variable {S : RT}
attribute [local congr] ite_congr congr_bindOps congr_bindC congr_andThen congr_orNone congr_onBool congr_onEff congr_headC
set_option maxRecDepth 100000
set_option maxHeartbeats 40000000
theorem map_get {α : Type} (f : α → List AV) (l : List α) (i : Nat) (d : α) (h : i < l.length) : (l.map f).getD i [] = f (l.getD i d) := by
  simp [List.getD_eq_getElem?_getD, List.getElem?_eq_getElem h]
instance : Inhabited Fd := ⟨⟨bs [], ⟨0, 0, 0⟩⟩⟩
def sizes : List Fd → Int
  | [] => 0
  | f :: l => width f + sizes l
theorem sizes_range (l : List Fd) : 0 ≤ sizes l ∧ sizes l ≤ 256 * l.length := by
  induction l with
  | nil => simp [sizes]
  | cons f l ih => have := width_range f; simp [sizes]; omega
theorem run77 (name : ByteArray) (l : List Fd) (hl : l.length ≤ 1000000) : run T S 77 [.agg [.str name, .sl (l.map encF)]] = some (.int .i64 (sizes l)) := by
  (refine run_fn T77 ⟨rfl, by decide⟩ ?_; rw [start77])
  simp (config := {decide := true, contextual := true, maxSteps := 3000000}) only [F77, List.replicate, ↓simPre, simPost, Bool.not_not, Bool.not_false, Bool.not_true, Bool.false_eq_true, reduceCtorEq, ↓reduceIte, decide_true, decide_false, splice, results, resT, resTs, AV.key, Bool.and_true, Bool.true_and, and_true, true_and, and_self, List.flatMap_nil, List.flatMap_cons, List.append_nil, List.nil_append, List.cons_append, List.map_cons, List.map_nil, List.all_cons, List.all_nil, List.length_cons, List.length_nil, Nat.reduceAdd, Nat.reduceLT, Nat.reduceLeDiff, Nat.reduceEqDiff, Nat.reduceSub, Nat.zero_add, Nat.add_zero, List.drop_succ_cons, List.drop_zero, List.take_succ_cons, List.take_zero]
  refine Eq.trans (headC_ind (σ := Nat × Int) (fun x => ⟨[.unk, .unk, .unk, .int .i64 x.2, .unk, .unk, .unk, .sl (l.map encF), .int .i64 (l.map encF).length, .int .i64 x.1] ++ List.replicate 9 .unk, List.replicate 19 ⟨0, .dead⟩⟩)
    (fun x => some (AV.int .i64 (x.2 + sizes (l.drop x.1)))) (fun x => l.length - x.1) (fun x => x.1 ≤ l.length ∧ 0 ≤ x.2 ∧ x.2 ≤ 256 * x.1) ?_ (0, 0) ⟨Nat.zero_le _, Int.le_refl _, by simp⟩) (by simp)
  rintro ⟨i, acc⟩ ⟨hi, ha1, ha2⟩ ih
  simp only at hi ha1 ha2
  have h4 : (i : Int).toNat = i := by omega
  by_cases hlt : i < l.length
  · have h1 : (0 ≤ (i : Int)) = True := by simp
    have h2 : ((i : Int) < ((l.map encF).length : Int)) = True := by simp; omega
    have h3 := map_get encF l i default hlt
    have h5 : IntKind.wrap .i64 ((i : Int) + 1) = ((i + 1 : Nat) : Int) := by rw [wrap_i64 (by omega) (by omega)]; omega
    have hw := width_range (l.getD i default)
    have h6 : IntKind.wrap .i64 (acc + width (l.getD i default)) = acc + width (l.getD i default) := wrap_i64 (by omega) (by omega)
    have h90 := run90 (S := S) (l.getD i default)
    rw [drop_cons default hlt]
    simp only [encF] at h3 h90
    simp (config := {decide := true, contextual := true, maxSteps := 3000000}) only [h1, h2, h3, h4, h5, h6, h90, List.replicate, ↓simPre, simPost, Bool.not_not, Bool.not_false, Bool.not_true, Bool.false_eq_true, reduceCtorEq, ↓reduceIte, decide_true, decide_false, splice, results, resT, resTs, AV.key, Bool.and_true, Bool.true_and, and_true, true_and, and_self, List.flatMap_nil, List.flatMap_cons, List.append_nil, List.nil_append, List.cons_append, List.map_cons, List.map_nil, List.all_cons, List.all_nil, List.length_cons, List.length_nil, Nat.reduceAdd, Nat.reduceLT, Nat.reduceLeDiff, Nat.reduceEqDiff, Nat.reduceSub, Nat.zero_add, Nat.add_zero, List.drop_succ_cons, List.drop_zero, List.take_succ_cons, List.take_zero]
    refine (ih (i + 1, acc + width (l.getD i default)) ⟨by omega, by omega, by push_cast; omega⟩ (by simp only; omega)).trans ?_
    simp only [sizes]
    rw [Int.add_assoc]
  · have h2 : ((i : Int) < ((l.map encF).length : Int)) = False := by simp; omega
    have h7 : l.drop i = [] := List.drop_eq_nil_of_le (by omega)
    simp (config := {decide := true, contextual := true, maxSteps := 3000000}) only [h2, h7, sizes, Int.add_zero, List.replicate, ↓simPre, simPost, Bool.not_not, Bool.not_false, Bool.not_true, Bool.false_eq_true, reduceCtorEq, ↓reduceIte, decide_true, decide_false, splice, results, resT, resTs, AV.key, Bool.and_true, Bool.true_and, and_true, true_and, and_self, List.flatMap_nil, List.flatMap_cons, List.append_nil, List.nil_append, List.cons_append, List.map_cons, List.map_nil, List.all_cons, List.all_nil, List.length_cons, List.length_nil, Nat.reduceAdd, Nat.reduceLT, Nat.reduceLeDiff, Nat.reduceEqDiff, Nat.reduceSub, Nat.zero_add, Nat.add_zero, List.drop_succ_cons, List.drop_zero, List.take_succ_cons, List.take_zero]

def atFrom : List Fd → ByteArray → Int → Int → Int × Int × Bool
  | [], _, _, _ => (0, 0, false)
  | f :: l, n, i, off => if (f.name.toList == n.toList) = true then (i, off, true) else atFrom l n (i + 1) (off + width f)
theorem run88 (name n : ByteArray) (l : List Fd) (hl : l.length ≤ 1000000) : run T S 88 [.agg [.str name, .sl (l.map encF)], .str n] =
    some (.tup [.int .i64 (atFrom l n 0 0).1, .int .i64 (atFrom l n 0 0).2.1, .bool (atFrom l n 0 0).2.2]) := by
  (refine run_fn T88 ⟨rfl, by decide⟩ ?_; rw [start88])
  simp (config := {decide := true, contextual := true, maxSteps := 3000000}) only [F88, List.replicate, ↓simPre, simPost, Bool.not_not, Bool.not_false, Bool.not_true, Bool.false_eq_true, reduceCtorEq, ↓reduceIte, decide_true, decide_false, splice, results, resT, resTs, AV.key, Bool.and_true, Bool.true_and, and_true, true_and, and_self, List.flatMap_nil, List.flatMap_cons, List.append_nil, List.nil_append, List.cons_append, List.map_cons, List.map_nil, List.all_cons, List.all_nil, List.length_cons, List.length_nil, Nat.reduceAdd, Nat.reduceLT, Nat.reduceLeDiff, Nat.reduceEqDiff, Nat.reduceSub, Nat.zero_add, Nat.add_zero, List.drop_succ_cons, List.drop_zero, List.take_succ_cons, List.take_zero]
  refine Eq.trans (headC_ind (σ := Nat × Int) (fun x => ⟨[.unk, .str n, .unk, .unk, .unk, .unk, .unk, .int .i64 x.2, .unk, .unk, .unk, .sl (l.map encF), .int .i64 (l.map encF).length, .int .i64 x.1] ++ List.replicate 15 .unk, List.replicate 29 ⟨0, .dead⟩⟩)
    (fun x => some (AV.tup [.int .i64 (atFrom (l.drop x.1) n x.1 x.2).1, .int .i64 (atFrom (l.drop x.1) n x.1 x.2).2.1, .bool (atFrom (l.drop x.1) n x.1 x.2).2.2])) (fun x => l.length - x.1) (fun x => x.1 ≤ l.length ∧ 0 ≤ x.2 ∧ x.2 ≤ 256 * x.1) ?_ (0, 0) ⟨Nat.zero_le _, Int.le_refl _, by simp⟩) (by simp)
  rintro ⟨i, acc⟩ ⟨hi, ha1, ha2⟩ ih
  simp only at hi ha1 ha2
  have h4 : (i : Int).toNat = i := by omega
  by_cases hlt : i < l.length
  · have h1 : (0 ≤ (i : Int)) = True := by simp
    have h2 : ((i : Int) < ((l.map encF).length : Int)) = True := by simp; omega
    have h3 := map_get encF l i default hlt
    have h5 : IntKind.wrap .i64 ((i : Int) + 1) = ((i + 1 : Nat) : Int) := by rw [wrap_i64 (by omega) (by omega)]; omega
    have hw := width_range (l.getD i default)
    have h6 : IntKind.wrap .i64 (acc + width (l.getD i default)) = acc + width (l.getD i default) := wrap_i64 (by omega) (by omega)
    have h90 := run90 (S := S) (l.getD i default)
    rw [drop_cons default hlt]
    simp only [encF] at h3 h90
    simp (config := {decide := true, contextual := true, maxSteps := 3000000}) only [h1, h2, h3, h4, h5, h6, h90, List.replicate, ↓simPre, simPost, Bool.not_not, Bool.not_false, Bool.not_true, Bool.false_eq_true, reduceCtorEq, ↓reduceIte, decide_true, decide_false, splice, results, resT, resTs, AV.key, Bool.and_true, Bool.true_and, and_true, true_and, and_self, List.flatMap_nil, List.flatMap_cons, List.append_nil, List.nil_append, List.cons_append, List.map_cons, List.map_nil, List.all_cons, List.all_nil, List.length_cons, List.length_nil, Nat.reduceAdd, Nat.reduceLT, Nat.reduceLeDiff, Nat.reduceEqDiff, Nat.reduceSub, Nat.zero_add, Nat.add_zero, List.drop_succ_cons, List.drop_zero, List.take_succ_cons, List.take_zero]
    simp only [atFrom]
    split
    · rfl
    · have := ih (i + 1, acc + width (l.getD i default)) ⟨by omega, by omega, by push_cast; omega⟩ (by simp only; omega)
      refine this.trans ?_
      simp only [Int.natCast_add]
      rfl
  · have h2 : ((i : Int) < ((l.map encF).length : Int)) = False := by simp; omega
    have h7 : l.drop i = [] := List.drop_eq_nil_of_le (by omega)
    simp (config := {decide := true, contextual := true, maxSteps := 3000000}) only [h2, h7, atFrom, List.replicate, ↓simPre, simPost, Bool.not_not, Bool.not_false, Bool.not_true, Bool.false_eq_true, reduceCtorEq, ↓reduceIte, decide_true, decide_false, splice, results, resT, resTs, AV.key, Bool.and_true, Bool.true_and, and_true, true_and, and_self, List.flatMap_nil, List.flatMap_cons, List.append_nil, List.nil_append, List.cons_append, List.map_cons, List.map_nil, List.all_cons, List.all_nil, List.length_cons, List.length_nil, Nat.reduceAdd, Nat.reduceLT, Nat.reduceLeDiff, Nat.reduceEqDiff, Nat.reduceSub, Nat.zero_add, Nat.add_zero, List.drop_succ_cons, List.drop_zero, List.take_succ_cons, List.take_zero]
end Go.Bv
