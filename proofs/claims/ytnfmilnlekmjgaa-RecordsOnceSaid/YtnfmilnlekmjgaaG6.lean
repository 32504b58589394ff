/- BY VALUE, chapter 26: Decode. -/
import Derived.Test.YtnfmilnlekmjgaaG1
import Derived.Test.YtnfmilnlekmjgaaG3
import Derived.Test.YtnfmilnlekmjgaaG3
import Derived.Test.YtnfmilnlekmjgaaG3
set_option linter.unusedSimpArgs false
set_option linter.unusedVariables false
namespace Go.Bv
variable {S : RT}
attribute [local congr] ite_congr congr_bindOps congr_bindC congr_andThen congr_orNone congr_onBool congr_onEff congr_headC
set_option maxRecDepth 100000
set_option maxHeartbeats 40000000
def decimalN (t : Ty) (s : ByteArray) : Int × Int × Int :=
  if (t.k == 1) = true then decGo (packD s s.size) (packA s.size) (2 * s.size - 1) (IntKind.wrap .i64 (((2 * s.size - 1 : Nat) : Int) - t.l)) ((packD s s.size).take (2 * s.size - 1)) 0 0
  else decGo (zoneD s s.size ++ [hi (byteAt s (s.size - 1))]) (zoneA s.size ++ [(s.size : Int) - 1]) s.size (IntKind.wrap .i64 ((s.size : Int) - t.l)) ((zoneD s s.size ++ [hi (byteAt s (s.size - 1))]).take s.size) 0 0
theorem run152' (t : Ty) (s : ByteArray) (hk : t.k = 1 ∨ t.k = 2) (hs : 1 ≤ s.size) (hs2 : s.size ≤ 1000) : run T S 152 [.agg (encT t), .str s] = some (encI3 (decimalN t s)) := by
  obtain ⟨k, l, sc⟩ := t
  simp only at hk
  rcases hk with rfl | rfl
  · exact run152 (S := S) ⟨1, l, sc⟩ s _ _ (2 * s.size - 1) (by rw [packD_len]; omega) (by rw [packA_len]; omega) (by omega) (run161p l sc s hs hs2)
  · exact run152 (S := S) ⟨2, l, sc⟩ s _ _ s.size (by simp [zoneD_len]) (by simp [zoneA_len]) (by omega) (run161z l sc s hs hs2)
def decodeE (t : Ty) (s : ByteArray) : Int :=
  if (first [checkType t, cond (t.k == 4) 17] == 0) = true then cond ((s.size : Int) != sizeT t) 18 else first [checkType t, cond (t.k == 4) 17]
/-- The value in bytes, an offset, and the error. -/
def decode (t : Ty) (s : ByteArray) : Val × Int × Int :=
  if (decodeE t s != 0) = true then (⟨0, bs []⟩, 0, decodeE t s)
  else if (t.k == 0) = true then (⟨0, s⟩, 0, 0)
  else if (t.k == 3) = true then (if (checkValue t ⟨binN s, bs []⟩ != 0) = true then (⟨0, bs []⟩, 0, checkValue t ⟨binN s, bs []⟩) else (⟨binN s, bs []⟩, 0, 0))
  else (⟨(decimalN t s).1, bs []⟩, (decimalN t s).2.1, (decimalN t s).2.2)
def encD (x : Val × Int × Int) : AV := .tup [.agg (encV x.1), .int .i64 x.2.1, .int .i64 x.2.2]
theorem sizeT_pos {t : Ty} (h : checkType t = 0) (h4 : t.k ≠ 4) : 1 ≤ sizeT t := by
  have h0 := checkType_zero h
  obtain ⟨k, l, sc⟩ := t
  simp only at h0 h4
  have hk : k = 0 ∨ k = 1 ∨ k = 2 ∨ k = 3 := by omega
  unfold checkType at h
  rcases hk with rfl | rfl | rfl | rfl <;> simp [first, cond] at h <;> simp [sizeT]
  all_goals try (split at h <;> simp_all <;> omega)
  all_goals have := Int.tdiv_nonneg h0.1 (show (0:Int) ≤ 2 by omega)
  all_goals have := Int.tdiv_nonneg h0.1 (show (0:Int) ≤ 9 by omega)
  all_goals omega
theorem run125 (t : Ty) (s : ByteArray) (hs : s.size ≤ 9223372036854775807) : run T S 125 [.agg (encT t), .str s] = some (encD (decode t s)) := by
  have h89 := run89 (S := S) t
  by_cases h0 : first [checkType t, cond (t.k == 4) 17] = 0
  · have hc : checkType t = 0 := first_zero h0 _ (List.mem_cons_self ..)
    have h4 : t.k ≠ 4 := by
      have := cond_zero (by omega) (first_zero h0 (cond (t.k == 4) 17) (by simp))
      simpa using this
    have hz := checkType_zero hc
    have h150 := run150 (S := S) t hz.1 (by omega)
    by_cases hsz : (s.size : Int) = sizeT t
    · have hr := sizeT_range hc
      have hp := sizeT_pos hc h4
      have h151 := run151 (S := S) s (by omega) (by omega)
      have h152 := fun hk => run152' (S := S) t s hk (by omega) (by omega)
      have h126 := run126 (S := S) t ⟨binN s, bs []⟩
      obtain ⟨k, l, sc⟩ := t
      simp only at hz h4 h0
      have hb : ((s.size : Int) != sizeT ⟨k, l, sc⟩) = false := by simp [hsz]
      have c0 : cond false 18 = 0 := rfl
      have hE : decodeE ⟨k, l, sc⟩ s = 0 := by
        unfold decodeE; simp only; rw [h0]; simp [hsz, cond]
      have hk : k = 0 ∨ k = 1 ∨ k = 2 ∨ k = 3 := by omega
      simp only [encT, encV] at h89 h150 h126 h152 ⊢
      rcases hk with rfl | rfl | rfl | rfl
      · have h0' : first [checkType ⟨0, l, sc⟩, cond false 17] = 0 := h0
        have hd : decode ⟨0, l, sc⟩ s = (⟨0, s⟩, 0, 0) := by simp [decode, hE]
        rw [hd]
        (refine run_fn T125 ⟨rfl, by decide⟩ ?_; rw [start125])
        simp (config := {decide := true, contextual := true, maxSteps := 3000000}) only [F125, h89, run131, run130_2, h0, h0', h150, hb, c0, List.replicate, ↓simPre, simPost, Bool.not_not, Bool.not_false, Bool.not_true, Bool.false_eq_true, reduceCtorEq, ↓reduceIte, decide_true, decide_false, splice, results, resT, resTs, AV.key, Bool.and_true, Bool.true_and, and_true, true_and, and_self, List.flatMap_nil, List.flatMap_cons, List.append_nil, List.nil_append, List.cons_append, List.map_cons, List.map_nil, List.all_cons, List.all_nil, List.length_cons, List.length_nil, Nat.reduceAdd, Nat.reduceLT, Nat.reduceLeDiff, Nat.reduceEqDiff, Nat.reduceSub, Nat.zero_add, Nat.add_zero, List.drop_succ_cons, List.drop_zero, List.take_succ_cons, List.take_zero]
        rfl
      · have h152 := h152 (.inl rfl)
        have h0' : first [checkType ⟨1, l, sc⟩, cond false 17] = 0 := h0
        have hd : decode ⟨1, l, sc⟩ s = (⟨(decimalN ⟨1, l, sc⟩ s).1, bs []⟩, (decimalN ⟨1, l, sc⟩ s).2.1, (decimalN ⟨1, l, sc⟩ s).2.2) := by simp [decode, hE]
        rw [hd]
        (refine run_fn T125 ⟨rfl, by decide⟩ ?_; rw [start125])
        simp (config := {decide := true, contextual := true, maxSteps := 3000000}) only [F125, h89, run131, run130_2, h0, h0', h150, hb, c0, h152, encI3, List.replicate, ↓simPre, simPost, Bool.not_not, Bool.not_false, Bool.not_true, Bool.false_eq_true, reduceCtorEq, ↓reduceIte, decide_true, decide_false, splice, results, resT, resTs, AV.key, Bool.and_true, Bool.true_and, and_true, true_and, and_self, List.flatMap_nil, List.flatMap_cons, List.append_nil, List.nil_append, List.cons_append, List.map_cons, List.map_nil, List.all_cons, List.all_nil, List.length_cons, List.length_nil, Nat.reduceAdd, Nat.reduceLT, Nat.reduceLeDiff, Nat.reduceEqDiff, Nat.reduceSub, Nat.zero_add, Nat.add_zero, List.drop_succ_cons, List.drop_zero, List.take_succ_cons, List.take_zero]
        rfl
      · have h152 := h152 (.inr rfl)
        have h0' : first [checkType ⟨2, l, sc⟩, cond false 17] = 0 := h0
        have hd : decode ⟨2, l, sc⟩ s = (⟨(decimalN ⟨2, l, sc⟩ s).1, bs []⟩, (decimalN ⟨2, l, sc⟩ s).2.1, (decimalN ⟨2, l, sc⟩ s).2.2) := by simp [decode, hE]
        rw [hd]
        (refine run_fn T125 ⟨rfl, by decide⟩ ?_; rw [start125])
        simp (config := {decide := true, contextual := true, maxSteps := 3000000}) only [F125, h89, run131, run130_2, h0, h0', h150, hb, c0, h152, encI3, List.replicate, ↓simPre, simPost, Bool.not_not, Bool.not_false, Bool.not_true, Bool.false_eq_true, reduceCtorEq, ↓reduceIte, decide_true, decide_false, splice, results, resT, resTs, AV.key, Bool.and_true, Bool.true_and, and_true, true_and, and_self, List.flatMap_nil, List.flatMap_cons, List.append_nil, List.nil_append, List.cons_append, List.map_cons, List.map_nil, List.all_cons, List.all_nil, List.length_cons, List.length_nil, Nat.reduceAdd, Nat.reduceLT, Nat.reduceLeDiff, Nat.reduceEqDiff, Nat.reduceSub, Nat.zero_add, Nat.add_zero, List.drop_succ_cons, List.drop_zero, List.take_succ_cons, List.take_zero]
        rfl
      · have h0' : first [checkType ⟨3, l, sc⟩, cond false 17] = 0 := h0
        have hd : decode ⟨3, l, sc⟩ s = (if (checkValue ⟨3, l, sc⟩ ⟨binN s, bs []⟩ != 0) = true then (⟨0, bs []⟩, 0, checkValue ⟨3, l, sc⟩ ⟨binN s, bs []⟩) else (⟨binN s, bs []⟩, 0, 0)) := by simp [decode, hE]
        rw [hd]
        (refine run_fn T125 ⟨rfl, by decide⟩ ?_; rw [start125])
        simp (config := {decide := true, contextual := true, maxSteps := 3000000}) only [F125, h89, run131, run130_2, h0, h0', h150, hb, c0, h151, h126, List.replicate, ↓simPre, simPost, Bool.not_not, Bool.not_false, Bool.not_true, Bool.false_eq_true, reduceCtorEq, ↓reduceIte, decide_true, decide_false, splice, results, resT, resTs, AV.key, Bool.and_true, Bool.true_and, and_true, true_and, and_self, List.flatMap_nil, List.flatMap_cons, List.append_nil, List.nil_append, List.cons_append, List.map_cons, List.map_nil, List.all_cons, List.all_nil, List.length_cons, List.length_nil, Nat.reduceAdd, Nat.reduceLT, Nat.reduceLeDiff, Nat.reduceEqDiff, Nat.reduceSub, Nat.zero_add, Nat.add_zero, List.drop_succ_cons, List.drop_zero, List.take_succ_cons, List.take_zero]
        split <;> rfl
    · obtain ⟨k, l, sc⟩ := t
      simp only [encT] at h89 h150 ⊢
      simp only at hz h4 h0
      have hb : ((s.size : Int) != sizeT ⟨k, l, sc⟩) = true := by simpa using hsz
      have c0 : cond true 18 = 18 := rfl
      have hE : decodeE ⟨k, l, sc⟩ s = 18 := by
        unfold decodeE; simp only; rw [h0]; simp [hsz, cond]
      have hd : decode ⟨k, l, sc⟩ s = (⟨0, bs []⟩, 0, 18) := by simp [decode, hE]
      rw [hd]
      (refine run_fn T125 ⟨rfl, by decide⟩ ?_; rw [start125])
      simp (config := {decide := true, contextual := true, maxSteps := 3000000}) only [F125, h89, run131, run130_2, h0, h150, hb, c0, List.replicate, ↓simPre, simPost, Bool.not_not, Bool.not_false, Bool.not_true, Bool.false_eq_true, reduceCtorEq, ↓reduceIte, decide_true, decide_false, splice, results, resT, resTs, AV.key, Bool.and_true, Bool.true_and, and_true, true_and, and_self, List.flatMap_nil, List.flatMap_cons, List.append_nil, List.nil_append, List.cons_append, List.map_cons, List.map_nil, List.all_cons, List.all_nil, List.length_cons, List.length_nil, Nat.reduceAdd, Nat.reduceLT, Nat.reduceLeDiff, Nat.reduceEqDiff, Nat.reduceSub, Nat.zero_add, Nat.add_zero, List.drop_succ_cons, List.drop_zero, List.take_succ_cons, List.take_zero]
      rfl
  · obtain ⟨k, l, sc⟩ := t
    simp only at h0
    simp only [encT] at h89 ⊢
    have h0' : (first [checkType ⟨k, l, sc⟩, cond (k == 4) 17] == 0) = false := by simpa using h0
    have h0'' : (first [checkType ⟨k, l, sc⟩, cond (k == 4) 17] != 0) = true := by simpa using h0
    have hE : decodeE ⟨k, l, sc⟩ s = first [checkType ⟨k, l, sc⟩, cond (k == 4) 17] := by simp only [decodeE, h0', Bool.false_eq_true, if_false]
    have hd : decode ⟨k, l, sc⟩ s = (⟨0, bs []⟩, 0, first [checkType ⟨k, l, sc⟩, cond (k == 4) 17]) := by simp only [decode, hE, h0'', if_true]
    rw [hd]
    (refine run_fn T125 ⟨rfl, by decide⟩ ?_; rw [start125])
    simp (config := {decide := true, contextual := true, maxSteps := 3000000}) only [F125, h89, run131, run130_2, h0', h0'', List.replicate, ↓simPre, simPost, Bool.not_not, Bool.not_false, Bool.not_true, Bool.false_eq_true, reduceCtorEq, ↓reduceIte, decide_true, decide_false, splice, results, resT, resTs, AV.key, Bool.and_true, Bool.true_and, and_true, true_and, and_self, List.flatMap_nil, List.flatMap_cons, List.append_nil, List.nil_append, List.cons_append, List.map_cons, List.map_nil, List.all_cons, List.all_nil, List.length_cons, List.length_nil, Nat.reduceAdd, Nat.reduceLT, Nat.reduceLeDiff, Nat.reduceEqDiff, Nat.reduceSub, Nat.zero_add, Nat.add_zero, List.drop_succ_cons, List.drop_zero, List.take_succ_cons, List.take_zero]
    rfl
end Go.Bv
