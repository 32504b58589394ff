/- BY VALUE, chapter 26, the reference: IsName. -/
import Derived.Test.YtnfmilnlekmjgaaC26E
import Derived.Test.YtnfmilnlekmjgaaC26I
set_option linter.unusedSimpArgs false
set_option linter.unusedVariables false
namespace Go.Bv
variable {S : RT}
attribute [local congr] ite_congr congr_bindOps congr_bindC congr_andThen congr_orNone congr_onBool congr_onEff congr_headC
set_option maxRecDepth 100000
set_option maxHeartbeats 40000000
theorem name_key : ∀ a1 a2 d36 d35 d64 z b1 b2 e95 e46 : Bool,
    (!((((a1 && a2) || d36) || d35) || d64) && (z || ((!(b1 && b2) && !e95) && !e46))) = !((((a1 && a2) || d35) || d36 || d64) || (!z && ((b1 && b2) || e95 || e46))) := by decide
theorem name_no' {C X : Bool} (h : C = !X) (hc : C = true) : X = false := by cases X <;> simp_all
theorem name_yes' {C X : Bool} (h : C = !X) (hc : ¬ C = true) : X = true := by cases X <;> simp_all
theorem isName_eq (s : ByteArray) : isName s = (if (!(decide (1 ≤ (s.size : Int)) && decide ((s.size : Int) ≤ 10))) = true then false else nameFrom s.data.toList true) := by
  unfold isName
  rw [ByteArray.toList_eq, ByteArray.toList_eq]
  have e1 : (bs []).data.toList = [] := rfl
  rw [e1]
  have hl : s.data.toList.length = s.size := by simp
  by_cases h0 : s.data.toList = []
  · rw [h0] at hl ⊢
    simp at hl
    simp [← hl]
  · have : s.data.toList.length ≠ 0 := fun e => h0 (List.eq_nil_of_length_eq_zero e)
    have h1 : 1 ≤ (s.size : Int) := by omega
    have h2 : (s.data.toList == []) = false := by
      cases hb : (s.data.toList == [])
      · rfl
      · exact absurd (eq_of_beq hb) h0
    rw [h2]
    by_cases h10 : s.size ≤ 10
    · have : (s.size : Int) ≤ 10 := by omega
      simp [h1, h10, this]
    · have : ¬ (s.size : Int) ≤ 10 := by omega
      simp [h1, h10, this]
theorem run91 (s : ByteArray) (hs : s.size ≤ 1000000000) : run T S 91 [.str s] = some (.bool (isName s)) := by
  (refine run_fn T91 ⟨rfl, by decide⟩ ?_; rw [start91])
  simp (config := {decide := true, contextual := true, maxSteps := 3000000}) only [F91, run62, List.replicate, ↓simPre, simPost, Bool.not_not, Bool.not_false, Bool.not_true, Bool.false_eq_true, reduceCtorEq, ↓reduceIte, decide_true, decide_false, splice, results, resT, resTs, AV.key, Bool.and_true, Bool.true_and, and_true, true_and, and_self, List.flatMap_nil, List.flatMap_cons, List.append_nil, List.nil_append, List.cons_append, List.map_cons, List.map_nil, List.all_cons, List.all_nil, List.length_cons, List.length_nil, Nat.reduceAdd, Nat.reduceLT, Nat.reduceLeDiff, Nat.reduceEqDiff, Nat.reduceSub, Nat.zero_add, Nat.add_zero, List.drop_succ_cons, List.drop_zero, List.take_succ_cons, List.take_zero]
  skip
  refine Eq.trans (b := if (!(decide (1 ≤ (s.size : Int)) && decide ((s.size : Int) ≤ 10))) = true then some (AV.bool false) else some (AV.bool (nameFrom s.data.toList true))) ?_ ?_
  · split
    · rfl
    refine Eq.trans (headC_ind (σ := Nat) (fun i => ⟨[.str s, .unk, .unk, .int .i64 i] ++ List.replicate 48 .unk, List.replicate 52 ⟨0, .dead⟩⟩)
        (fun i => some (AV.bool (nameFrom (s.data.toList.drop i) (i == 0)))) (fun i => s.size - i) (fun i => i ≤ s.size) ?_ 0 (Nat.zero_le _)) (by simp only [List.drop_zero]; rfl)
    intro i hi ih
    by_cases hlt : i < s.size
    · obtain ⟨h1, h2, h4, h5⟩ := idx hlt (by omega)
      rw [drop_cons 0 (by rw [Array.length_toList]; exact hlt)]
      have hb : byteAt s i = ((s.data.toList.getD i 0).toNat : Int) := by simp [byteAt]
      simp (config := {decide := true, contextual := true, maxSteps := 3000000}) only [h1, h2, h4, h5, hb, run133, run134, List.replicate, ↓simPre, simPost, Bool.not_not, Bool.not_false, Bool.not_true, Bool.false_eq_true, reduceCtorEq, ↓reduceIte, decide_true, decide_false, splice, results, resT, resTs, AV.key, Bool.and_true, Bool.true_and, and_true, true_and, and_self, List.flatMap_nil, List.flatMap_cons, List.append_nil, List.nil_append, List.cons_append, List.map_cons, List.map_nil, List.all_cons, List.all_nil, List.length_cons, List.length_nil, Nat.reduceAdd, Nat.reduceLT, Nat.reduceLeDiff, Nat.reduceEqDiff, Nat.reduceSub, Nat.zero_add, Nat.add_zero, List.drop_succ_cons, List.drop_zero, List.take_succ_cons, List.take_zero]
      simp only [nameFrom, letterB, otherB]
      have hz : (i == 0) = ((i : Int) == 0) := by cases i <;> rfl
      rw [hz]
      split
      · rename_i hc
        have hk := name_no' (name_key _ _ _ _ _ _ _ _ _ _) hc
        exact (congrArg (fun b => some (AV.bool (b && _))) hk).symm
      · rename_i hc
        have hk := name_yes' (name_key _ _ _ _ _ _ _ _ _ _) hc
        refine Eq.trans ?_ (congrArg (fun b => some (AV.bool (b && _))) hk).symm
        exact ih (i + 1) (by omega) (by omega)
    · have h2 := idxEnd (Nat.le_of_not_lt hlt)
      have h7 : s.data.toList.drop i = [] := List.drop_eq_nil_of_le (by rw [Array.length_toList]; exact Nat.le_of_not_lt hlt)
      simp (config := {decide := true, contextual := true, maxSteps := 3000000}) only [h2, h7, nameFrom, List.replicate, ↓simPre, simPost, Bool.not_not, Bool.not_false, Bool.not_true, Bool.false_eq_true, reduceCtorEq, ↓reduceIte, decide_true, decide_false, splice, results, resT, resTs, AV.key, Bool.and_true, Bool.true_and, and_true, true_and, and_self, List.flatMap_nil, List.flatMap_cons, List.append_nil, List.nil_append, List.cons_append, List.map_cons, List.map_nil, List.all_cons, List.all_nil, List.length_cons, List.length_nil, Nat.reduceAdd, Nat.reduceLT, Nat.reduceLeDiff, Nat.reduceEqDiff, Nat.reduceSub, Nat.zero_add, Nat.add_zero, List.drop_succ_cons, List.drop_zero, List.take_succ_cons, List.take_zero]
  · rw [isName_eq]
    split <;> rfl
end Go.Bv
