/- BY VALUE, chapter 26: ownFile, SizeOf, OffsetOf; the reference's FieldAt. -/
import Derived.Test.YtnfmilnlekmjgaaW4d
import Derived.Test.YtnfmilnlekmjgaaR2
set_option linter.unusedSimpArgs false
set_option linter.unusedVariables false
namespace Go.Bv
variable {S : RT}
attribute [local congr] ite_congr congr_bindOps congr_bindC congr_andThen congr_orNone congr_onBool congr_onEff congr_headC
set_option maxRecDepth 100000
set_option maxHeartbeats 40000000
theorem run29 (fn n : ByteArray) (l : List Fd) (ks : List (ByteArray × Bool)) (u : Bool) (hl : l.length ≤ 1000000) (hk : ks.length ≤ 1000000) : run T S 29 [.agg (fileC fn n l ks u)] = some (.agg (fileC fn n l ks u)) := by
  have h18 := run18 (S := S) n l hl
  have h1 : (ks.map encK).all (fun y => y.length == 2) = true := by simp [encK]
  have h2 : ((ks.map encK).length * 24 ≤ 140737488355328) = True := by simp; omega
  have h3 : (ks.length * 24 ≤ 140737488355328) = True := by simp; omega
  simp only [fileC]
  (refine run_fn T29 ⟨rfl, by decide⟩ ?_; rw [start29])
  simp (config := {decide := true, contextual := true, maxSteps := 3000000}) only [F29, h18, h1, h2, h3, List.length_map, List.replicate, ↓simPre, simPost, Bool.not_not, Bool.not_false, Bool.not_true, Bool.false_eq_true, reduceCtorEq, ↓reduceIte, decide_true, decide_false, splice, results, resT, resTs, AV.key, Bool.and_true, Bool.true_and, and_true, true_and, and_self, List.flatMap_nil, List.flatMap_cons, List.append_nil, List.nil_append, List.cons_append, List.map_cons, List.map_nil, List.all_cons, List.all_nil, List.length_cons, List.length_nil, Nat.reduceAdd, Nat.reduceLT, Nat.reduceLeDiff, Nat.reduceEqDiff, Nat.reduceSub, Nat.zero_add, Nat.add_zero, List.drop_succ_cons, List.drop_zero, List.take_succ_cons, List.take_zero]
theorem run31 (n : ByteArray) (l : List Fd) (h : Short n l) : run T S 31 [.agg [.str n, .sl (l.map encF)]] = some (if ((checkFormat n l).2 != 0) = true then .tup [.int .i64 0, .int .i64 (checkFormat n l).2] else .tup [.int .i64 (sizes l), .int .i64 0]) := by
  have h76 := run76 (S := S) n l h
  have h77 := run77 (S := S) n l (by have := h.2.1; omega)
  (refine run_fn T31 ⟨rfl, by decide⟩ ?_; rw [start31])
  simp (config := {decide := true, contextual := true, maxSteps := 3000000}) only [F31, h76, h77, List.replicate, ↓simPre, simPost, Bool.not_not, Bool.not_false, Bool.not_true, Bool.false_eq_true, reduceCtorEq, ↓reduceIte, decide_true, decide_false, splice, results, resT, resTs, AV.key, Bool.and_true, Bool.true_and, and_true, true_and, and_self, List.flatMap_nil, List.flatMap_cons, List.append_nil, List.nil_append, List.cons_append, List.map_cons, List.map_nil, List.all_cons, List.all_nil, List.length_cons, List.length_nil, Nat.reduceAdd, Nat.reduceLT, Nat.reduceLeDiff, Nat.reduceEqDiff, Nat.reduceSub, Nat.zero_add, Nat.add_zero, List.drop_succ_cons, List.drop_zero, List.take_succ_cons, List.take_zero]
  skip
  split <;> rfl
theorem run34 (n nm : ByteArray) (l : List Fd) (hl : l.length ≤ 1000000) : run T S 34 [.agg [.str n, .sl (l.map encF)], .str nm] = some (.int .i64 (fieldAt l nm 0)) := by
  have h95 := run95 (S := S) n nm l hl
  (refine run_fn T34 ⟨rfl, by decide⟩ ?_; rw [start34])
  simp (config := {decide := true, contextual := true, maxSteps := 3000000}) only [F34, h95, List.replicate, ↓simPre, simPost, Bool.not_not, Bool.not_false, Bool.not_true, Bool.false_eq_true, reduceCtorEq, ↓reduceIte, decide_true, decide_false, splice, results, resT, resTs, AV.key, Bool.and_true, Bool.true_and, and_true, true_and, and_self, List.flatMap_nil, List.flatMap_cons, List.append_nil, List.nil_append, List.cons_append, List.map_cons, List.map_nil, List.all_cons, List.all_nil, List.length_cons, List.length_nil, Nat.reduceAdd, Nat.reduceLT, Nat.reduceLeDiff, Nat.reduceEqDiff, Nat.reduceSub, Nat.zero_add, Nat.add_zero, List.drop_succ_cons, List.drop_zero, List.take_succ_cons, List.take_zero]
theorem fieldAt_range (l : List Fd) (nm : ByteArray) : ∀ k : Int, fieldAt l nm k = -1 ∧ l.any (fun f => f.name.toList == nm.toList) = false ∨ (k ≤ fieldAt l nm k ∧ fieldAt l nm k < k + l.length ∧ l.any (fun f => f.name.toList == nm.toList) = true) := by
  induction l with
  | nil => intro k; exact .inl ⟨rfl, rfl⟩
  | cons f l ih =>
    intro k
    simp only [fieldAt, List.any_cons]
    split
    · rename_i h; rw [h]; right; simp; omega
    · rename_i h
      have h' : (f.name.toList == nm.toList) = false := by simpa using h
      rw [h']
      rcases ih (k + 1) with ⟨h1, h2⟩ | ⟨h1, h2, h3⟩
      · left; exact ⟨h1, by simp [h2]⟩
      · right; refine ⟨by omega, by simp only [List.length_cons]; push_cast; omega, by simp [h3]⟩
/-- Where a field is found. -/
theorem at_field (l : List Fd) (nm : ByteArray) : ∀ (k : Int) (off : Int), l.any (fun f => f.name.toList == nm.toList) = true →
    atFrom l nm k off = (fieldAt l nm k, off + sizes (l.take (fieldAt l nm k - k).toNat), true) := by
  induction l with
  | nil => intro k off h; simp at h
  | cons f l ih =>
    intro k off h
    simp only [atFrom, fieldAt]
    split
    · simp [sizes]
    · rename_i hh
      have h' : (f.name.toList == nm.toList) = false := by simpa using hh
      simp only [List.any_cons, h', Bool.false_or] at h
      rw [ih (k + 1) (off + width f) h]
      rcases fieldAt_range l nm (k + 1) with ⟨_, h2⟩ | ⟨h1, h2, h3⟩
      · rw [h2] at h; cases h
      · have : (fieldAt l nm (k + 1) - k).toNat = (fieldAt l nm (k + 1) - (k + 1)).toNat + 1 := by omega
        rw [this]
        simp only [List.take_succ_cons, sizes]
        rw [Int.add_assoc]
theorem at_none (l : List Fd) (nm : ByteArray) : ∀ (k : Int) (off : Int), l.any (fun f => f.name.toList == nm.toList) = false → atFrom l nm k off = (0, 0, false) ∧ fieldAt l nm k = -1 := by
  induction l with
  | nil => intro k off _; exact ⟨rfl, rfl⟩
  | cons f l ih =>
    intro k off h
    simp only [List.any_cons, Bool.or_eq_false_iff] at h
    simp only [atFrom, fieldAt, h.1, Bool.false_eq_true, if_false]
    exact ⟨(ih (k + 1) _ h.2).1, (ih (k + 1) off h.2).2⟩
def tyAV (t : Ty) : AV := .agg (encT t)
/-- The offset and the type of a field, and the error. -/
def offsetOf (n : ByteArray) (l : List Fd) (nm : ByteArray) : Int × Ty × Int :=
  if ((checkFormat n l).2 != 0) = true then (0, ⟨0, 0, 0⟩, (checkFormat n l).2)
  else if l.any (fun f => f.name.toList == nm.toList) = true then (sizes (l.take (fieldAt l nm 0).toNat), (l.getD (fieldAt l nm 0).toNat default).t, 0)
  else (0, ⟨0, 0, 0⟩, 11)
theorem run32 (n : ByteArray) (l : List Fd) (nm : ByteArray) (h : Short n l) : run T S 32 [.agg [.str n, .sl (l.map encF)], .str nm] = some (.tup [.int .i64 (offsetOf n l nm).1, tyAV (offsetOf n l nm).2.1, .int .i64 (offsetOf n l nm).2.2]) := by
  have h76 := run76 (S := S) n l h
  have h88 := run88 (S := S) n nm l (by have := h.2.1; omega)
  unfold offsetOf
  cases hc : ((checkFormat n l).2 != 0) with
  | true =>
    simp only [if_true, tyAV, encT]
    (refine run_fn T32 ⟨rfl, by decide⟩ ?_; rw [start32])
    simp (config := {decide := true, contextual := true, maxSteps := 3000000}) only [F32, h76, h88, hc, List.replicate, ↓simPre, simPost, Bool.not_not, Bool.not_false, Bool.not_true, Bool.false_eq_true, reduceCtorEq, ↓reduceIte, decide_true, decide_false, splice, results, resT, resTs, AV.key, Bool.and_true, Bool.true_and, and_true, true_and, and_self, List.flatMap_nil, List.flatMap_cons, List.append_nil, List.nil_append, List.cons_append, List.map_cons, List.map_nil, List.all_cons, List.all_nil, List.length_cons, List.length_nil, Nat.reduceAdd, Nat.reduceLT, Nat.reduceLeDiff, Nat.reduceEqDiff, Nat.reduceSub, Nat.zero_add, Nat.add_zero, List.drop_succ_cons, List.drop_zero, List.take_succ_cons, List.take_zero]
  | false =>
    simp only [Bool.false_eq_true, if_false]
    cases ha : l.any (fun f => f.name.toList == nm.toList) with
    | false =>
      rw [(at_none l nm 0 0 ha).1] at h88
      simp only [Bool.false_eq_true, if_false, tyAV, encT]
      (refine run_fn T32 ⟨rfl, by decide⟩ ?_; rw [start32])
      simp (config := {decide := true, contextual := true, maxSteps := 3000000}) only [F32, h76, h88, hc, List.replicate, ↓simPre, simPost, Bool.not_not, Bool.not_false, Bool.not_true, Bool.false_eq_true, reduceCtorEq, ↓reduceIte, decide_true, decide_false, splice, results, resT, resTs, AV.key, Bool.and_true, Bool.true_and, and_true, true_and, and_self, List.flatMap_nil, List.flatMap_cons, List.append_nil, List.nil_append, List.cons_append, List.map_cons, List.map_nil, List.all_cons, List.all_nil, List.length_cons, List.length_nil, Nat.reduceAdd, Nat.reduceLT, Nat.reduceLeDiff, Nat.reduceEqDiff, Nat.reduceSub, Nat.zero_add, Nat.add_zero, List.drop_succ_cons, List.drop_zero, List.take_succ_cons, List.take_zero]
    | true =>
      have hf := at_field l nm 0 0 ha
      rw [hf] at h88
      rcases fieldAt_range l nm 0 with ⟨_, h2⟩ | ⟨r1, r2, _⟩
      · rw [h2] at ha; cases ha
      · simp only [Int.sub_zero, Int.zero_add] at h88 r2
        have g1 : (0 ≤ fieldAt l nm 0) = True := by simp; omega
        have g2 : (fieldAt l nm 0 < (l.length : Int)) = True := by simp; omega
        have g3 := map_get encF l (fieldAt l nm 0).toNat default (by omega)
        simp only [encF] at g3
        simp only [if_true, tyAV, encT]
        (refine run_fn T32 ⟨rfl, by decide⟩ ?_; rw [start32])
        simp (config := {decide := true, contextual := true, maxSteps := 3000000}) only [F32, h76, h88, hc, g1, g2, g3, List.length_map, List.replicate, ↓simPre, simPost, Bool.not_not, Bool.not_false, Bool.not_true, Bool.false_eq_true, reduceCtorEq, ↓reduceIte, decide_true, decide_false, splice, results, resT, resTs, AV.key, Bool.and_true, Bool.true_and, and_true, true_and, and_self, List.flatMap_nil, List.flatMap_cons, List.append_nil, List.nil_append, List.cons_append, List.map_cons, List.map_nil, List.all_cons, List.all_nil, List.length_cons, List.length_nil, Nat.reduceAdd, Nat.reduceLT, Nat.reduceLeDiff, Nat.reduceEqDiff, Nat.reduceSub, Nat.zero_add, Nat.add_zero, List.drop_succ_cons, List.drop_zero, List.take_succ_cons, List.take_zero]
end Go.Bv
