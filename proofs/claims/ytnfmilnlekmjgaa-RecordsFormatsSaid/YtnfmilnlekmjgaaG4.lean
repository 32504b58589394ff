/- BY VALUE, chapter 26: halves. -/
import Derived.Test.YtnfmilnlekmjgaaC26I
set_option linter.unusedSimpArgs false
set_option linter.unusedVariables false
namespace Go.Bv
variable {S : RT}
attribute [local congr] ite_congr congr_bindOps congr_bindC congr_andThen congr_orNone congr_onBool congr_onEff congr_headC
set_option maxRecDepth 100000
set_option maxHeartbeats 40000000
theorem run161p (l sc : Int) (s : ByteArray) (hs : 1 ≤ s.size) (hs2 : s.size ≤ 1000) : run T S 161 [.agg [.int .i64 1, .int .i64 l, .int .i64 sc], .str s] = some (.tup [.sl (u8s (packD s s.size)), .sl (ints (packA s.size))]) := by
  (refine run_fn T161 ⟨rfl, by decide⟩ ?_; rw [start161])
  simp (config := {decide := true, contextual := true, maxSteps := 3000000}) only [F161, u8s_len, ints_len, List.replicate, ↓simPre, simPost, Bool.not_not, Bool.not_false, Bool.not_true, Bool.false_eq_true, reduceCtorEq, ↓reduceIte, decide_true, decide_false, splice, results, resT, resTs, AV.key, Bool.and_true, Bool.true_and, and_true, true_and, and_self, List.flatMap_nil, List.flatMap_cons, List.append_nil, List.nil_append, List.cons_append, List.map_cons, List.map_nil, List.all_cons, List.all_nil, List.length_cons, List.length_nil, Nat.reduceAdd, Nat.reduceLT, Nat.reduceLeDiff, Nat.reduceEqDiff, Nat.reduceSub, Nat.zero_add, Nat.add_zero, List.drop_succ_cons, List.drop_zero, List.take_succ_cons, List.take_zero]
  refine Eq.trans (headC_ind (σ := Nat) (fun i => match i with
      | 0 => ⟨[.unk, .str s, .ptr 2 0 0, .unk, .nil, .nil] ++ List.replicate 4 .unk ++ [.int .i64 s.size, .int .i64 0] ++ List.replicate 53 .unk, [⟨0, .dead⟩, ⟨0, .dead⟩, ⟨0, .box [.int .i64 1, .int .i64 l, .int .i64 sc]⟩] ++ List.replicate 62 ⟨0, .dead⟩⟩
      | i + 1 => ⟨[.unk, .str s, .ptr 2 0 0, .unk, .own 38 0, .own 43 0] ++ List.replicate 4 .unk ++ [.int .i64 s.size, .int .i64 (i + 1 : Nat)] ++ List.replicate 53 .unk, [⟨0, .dead⟩, ⟨0, .dead⟩, ⟨0, .box [.int .i64 1, .int .i64 l, .int .i64 sc]⟩] ++ List.replicate 35 ⟨0, .dead⟩ ++ [⟨0, .row 5 1 0 (u8s (packD s (i + 1)))⟩] ++ List.replicate 4 ⟨0, .dead⟩ ++ [⟨0, .row 3 1 0 (ints (packA (i + 1)))⟩] ++ List.replicate 21 ⟨0, .dead⟩⟩)
    (fun i => some (.tup [.sl (u8s (packD s s.size)), .sl (ints (packA s.size))])) (fun i => s.size - i) (fun i => i ≤ s.size) ?_ 0 (Nat.zero_le _)) (by simp)
  intro i hi ih
  cases i with
  | zero =>
    obtain ⟨h1, h2, h4, h5⟩ := idx (i := 0) (n := s.size) (by omega) (by omega)
    simp only [Int.ofNat_eq_natCast, Int.cast_ofNat_Int, Int.natCast_zero] at h1 h2 h4 h5
    simp (config := {decide := true, contextual := true, maxSteps := 3000000}) only [h1, h2, h4, h5, List.length_map, List.replicate, ↓simPre, simPost, Bool.not_not, Bool.not_false, Bool.not_true, Bool.false_eq_true, reduceCtorEq, ↓reduceIte, decide_true, decide_false, splice, results, resT, resTs, AV.key, Bool.and_true, Bool.true_and, and_true, true_and, and_self, List.flatMap_nil, List.flatMap_cons, List.append_nil, List.nil_append, List.cons_append, List.map_cons, List.map_nil, List.all_cons, List.all_nil, List.length_cons, List.length_nil, Nat.reduceAdd, Nat.reduceLT, Nat.reduceLeDiff, Nat.reduceEqDiff, Nat.reduceSub, Nat.zero_add, Nat.add_zero, List.drop_succ_cons, List.drop_zero, List.take_succ_cons, List.take_zero]
    exact ih 1 (by omega) (by omega)
  | succ i =>
    by_cases hlt : i + 1 < s.size
    · obtain ⟨h1, h2, h4, h5⟩ := idx hlt (by omega)
      have l1 := packD_len s (i + 1)
      have l2 := packA_len (i + 1)
      have g5 : (((u8s (packD s (i + 1))).length + 2) * 1 ≤ 140737488355328) = True := by rw [u8s_len]; simp; omega
      have g6 : (((ints (packA (i + 1))).length + 2) * 8 ≤ 140737488355328) = True := by rw [ints_len]; simp; omega
      have e1 : u8s (packD s (i + 1)) ++ [[.int .u8 ((byteAt s (i + 1)).fdiv 16)], [.int .u8 (IntKind.u8.wrap ↑(BitVec.ofInt IntKind.u8.bits (byteAt s (i + 1)) &&& BitVec.ofInt IntKind.u8.bits 15).toNat)]] = u8s (packD s (i + 2)) := by
        rw [packD.eq_2 s (i + 1), u8s_app]; rfl
      have e2 : ints (packA (i + 1)) ++ [[.int .i64 ((i + 1 : Nat) : Int)], [.int .i64 ((i + 1 : Nat) : Int)]] = ints (packA (i + 2)) := by
        rw [packA.eq_2 (i + 1), ints_app]; rfl
      simp (config := {decide := true, contextual := true, maxSteps := 3000000}) only [h1, h2, h4, h5, g5, g6, e1, e2, List.length_map, List.replicate, ↓simPre, simPost, Bool.not_not, Bool.not_false, Bool.not_true, Bool.false_eq_true, reduceCtorEq, ↓reduceIte, decide_true, decide_false, splice, results, resT, resTs, AV.key, Bool.and_true, Bool.true_and, and_true, true_and, and_self, List.flatMap_nil, List.flatMap_cons, List.append_nil, List.nil_append, List.cons_append, List.map_cons, List.map_nil, List.all_cons, List.all_nil, List.length_cons, List.length_nil, Nat.reduceAdd, Nat.reduceLT, Nat.reduceLeDiff, Nat.reduceEqDiff, Nat.reduceSub, Nat.zero_add, Nat.add_zero, List.drop_succ_cons, List.drop_zero, List.take_succ_cons, List.take_zero]
      exact ih (i + 2) (by omega) (by omega)
    · have h2 := idxEnd (Nat.le_of_not_lt hlt)
      have hi1 : i + 1 = s.size := by omega
      simp (config := {decide := true, contextual := true, maxSteps := 3000000}) only [h2, List.replicate, ↓simPre, simPost, Bool.not_not, Bool.not_false, Bool.not_true, Bool.false_eq_true, reduceCtorEq, ↓reduceIte, decide_true, decide_false, splice, results, resT, resTs, AV.key, Bool.and_true, Bool.true_and, and_true, true_and, and_self, List.flatMap_nil, List.flatMap_cons, List.append_nil, List.nil_append, List.cons_append, List.map_cons, List.map_nil, List.all_cons, List.all_nil, List.length_cons, List.length_nil, Nat.reduceAdd, Nat.reduceLT, Nat.reduceLeDiff, Nat.reduceEqDiff, Nat.reduceSub, Nat.zero_add, Nat.add_zero, List.drop_succ_cons, List.drop_zero, List.take_succ_cons, List.take_zero]
      rw [hi1]
theorem run161z (l sc : Int) (s : ByteArray) (hs : 1 ≤ s.size) (hs2 : s.size ≤ 1000) : run T S 161 [.agg [.int .i64 2, .int .i64 l, .int .i64 sc], .str s] = some (.tup [.sl (u8s (zoneD s s.size ++ [hi (byteAt s (s.size - 1))])), .sl (ints (zoneA s.size ++ [(s.size : Int) - 1]))]) := by
  (refine run_fn T161 ⟨rfl, by decide⟩ ?_; rw [start161])
  simp (config := {decide := true, contextual := true, maxSteps := 3000000}) only [F161, u8s_len, ints_len, List.replicate, ↓simPre, simPost, Bool.not_not, Bool.not_false, Bool.not_true, Bool.false_eq_true, reduceCtorEq, ↓reduceIte, decide_true, decide_false, splice, results, resT, resTs, AV.key, Bool.and_true, Bool.true_and, and_true, true_and, and_self, List.flatMap_nil, List.flatMap_cons, List.append_nil, List.nil_append, List.cons_append, List.map_cons, List.map_nil, List.all_cons, List.all_nil, List.length_cons, List.length_nil, Nat.reduceAdd, Nat.reduceLT, Nat.reduceLeDiff, Nat.reduceEqDiff, Nat.reduceSub, Nat.zero_add, Nat.add_zero, List.drop_succ_cons, List.drop_zero, List.take_succ_cons, List.take_zero]
  refine Eq.trans (headC_ind (σ := Nat) (fun i => match i with
      | 0 => ⟨[.unk, .str s, .ptr 2 0 0, .unk, .nil, .nil] ++ List.replicate 4 .unk ++ [.int .i64 s.size, .int .i64 0] ++ List.replicate 53 .unk, [⟨0, .dead⟩, ⟨0, .dead⟩, ⟨0, .box [.int .i64 2, .int .i64 l, .int .i64 sc]⟩] ++ List.replicate 62 ⟨0, .dead⟩⟩
      | i + 1 => ⟨[.unk, .str s, .ptr 2 0 0, .unk, .own 25 0, .own 29 0] ++ List.replicate 4 .unk ++ [.int .i64 s.size, .int .i64 (i + 1 : Nat)] ++ List.replicate 53 .unk, [⟨0, .dead⟩, ⟨0, .dead⟩, ⟨0, .box [.int .i64 2, .int .i64 l, .int .i64 sc]⟩] ++ List.replicate 22 ⟨0, .dead⟩ ++ [⟨0, .row 5 1 0 (u8s (zoneD s (i + 1)))⟩] ++ List.replicate 3 ⟨0, .dead⟩ ++ [⟨0, .row 3 1 0 (ints (zoneA (i + 1)))⟩] ++ List.replicate 35 ⟨0, .dead⟩⟩)
    (fun i => some (.tup [.sl (u8s (zoneD s s.size ++ [hi (byteAt s (s.size - 1))])), .sl (ints (zoneA s.size ++ [(s.size : Int) - 1]))])) (fun i => s.size - i) (fun i => i ≤ s.size) ?_ 0 (Nat.zero_le _)) (by simp)
  intro i hi ih
  cases i with
  | zero =>
    obtain ⟨h1, h2, h4, h5⟩ := idx (i := 0) (n := s.size) (by omega) (by omega)
    simp only [Int.ofNat_eq_natCast, Int.cast_ofNat_Int, Int.natCast_zero] at h1 h2 h4 h5
    simp (config := {decide := true, contextual := true, maxSteps := 3000000}) only [h1, h2, h4, h5, List.length_map, List.replicate, ↓simPre, simPost, Bool.not_not, Bool.not_false, Bool.not_true, Bool.false_eq_true, reduceCtorEq, ↓reduceIte, decide_true, decide_false, splice, results, resT, resTs, AV.key, Bool.and_true, Bool.true_and, and_true, true_and, and_self, List.flatMap_nil, List.flatMap_cons, List.append_nil, List.nil_append, List.cons_append, List.map_cons, List.map_nil, List.all_cons, List.all_nil, List.length_cons, List.length_nil, Nat.reduceAdd, Nat.reduceLT, Nat.reduceLeDiff, Nat.reduceEqDiff, Nat.reduceSub, Nat.zero_add, Nat.add_zero, List.drop_succ_cons, List.drop_zero, List.take_succ_cons, List.take_zero]
    exact ih 1 (by omega) (by omega)
  | succ i =>
    by_cases hlt : i + 1 < s.size
    · obtain ⟨h1, h2, h4, h5⟩ := idx hlt (by omega)
      have l1 := zoneD_len s (i + 1)
      have l2 := zoneA_len (i + 1)
      have g5 : (((u8s (zoneD s (i + 1))).length + 1) * 1 ≤ 140737488355328) = True := by rw [u8s_len]; simp; omega
      have g6 : (((ints (zoneA (i + 1))).length + 1) * 8 ≤ 140737488355328) = True := by rw [ints_len]; simp; omega
      have e1 : u8s (zoneD s (i + 1)) ++ [[.int .u8 (IntKind.u8.wrap ↑(BitVec.ofInt IntKind.u8.bits (byteAt s (i + 1)) &&& BitVec.ofInt IntKind.u8.bits 15).toNat)]] = u8s (zoneD s (i + 2)) := by
        rw [zoneD.eq_2 s (i + 1), u8s_app]; rfl
      have e2 : ints (zoneA (i + 1)) ++ [[.int .i64 ((i + 1 : Nat) : Int)]] = ints (zoneA (i + 2)) := by
        rw [zoneA.eq_2 (i + 1), ints_app]; rfl
      simp (config := {decide := true, contextual := true, maxSteps := 3000000}) only [h1, h2, h4, h5, g5, g6, e1, e2, List.length_map, List.replicate, ↓simPre, simPost, Bool.not_not, Bool.not_false, Bool.not_true, Bool.false_eq_true, reduceCtorEq, ↓reduceIte, decide_true, decide_false, splice, results, resT, resTs, AV.key, Bool.and_true, Bool.true_and, and_true, true_and, and_self, List.flatMap_nil, List.flatMap_cons, List.append_nil, List.nil_append, List.cons_append, List.map_cons, List.map_nil, List.all_cons, List.all_nil, List.length_cons, List.length_nil, Nat.reduceAdd, Nat.reduceLT, Nat.reduceLeDiff, Nat.reduceEqDiff, Nat.reduceSub, Nat.zero_add, Nat.add_zero, List.drop_succ_cons, List.drop_zero, List.take_succ_cons, List.take_zero]
      exact ih (i + 2) (by omega) (by omega)
    · have h2 := idxEnd (Nat.le_of_not_lt hlt)
      obtain hi1 : i + 1 = s.size := by omega
      have w1 : IntKind.wrap .i64 ((s.size : Int) - 1) = (i : Int) := by rw [wrap_i64 (by omega) (by omega)]; omega
      have h2 : (((i + 1 : Nat) : Int) < (s.size : Int)) = False := by simp; omega
      have h3 : ((i : Int) < (s.size : Int)) = True := by simp; omega
      have g5 : (((u8s (zoneD s (i + 1))).length + 1) * 1 ≤ 140737488355328) = True := by rw [u8s_len, zoneD_len]; simp; omega
      have g6 : (((ints (zoneA (i + 1))).length + 1) * 8 ≤ 140737488355328) = True := by rw [ints_len, zoneA_len]; simp; omega
      have e3 : s.size - 1 = i := by omega
      simp (config := {decide := true, contextual := true, maxSteps := 3000000}) only [h2, h3, w1, g5, g6, List.replicate, ↓simPre, simPost, Bool.not_not, Bool.not_false, Bool.not_true, Bool.false_eq_true, reduceCtorEq, ↓reduceIte, decide_true, decide_false, splice, results, resT, resTs, AV.key, Bool.and_true, Bool.true_and, and_true, true_and, and_self, List.flatMap_nil, List.flatMap_cons, List.append_nil, List.nil_append, List.cons_append, List.map_cons, List.map_nil, List.all_cons, List.all_nil, List.length_cons, List.length_nil, Nat.reduceAdd, Nat.reduceLT, Nat.reduceLeDiff, Nat.reduceEqDiff, Nat.reduceSub, Nat.zero_add, Nat.add_zero, List.drop_succ_cons, List.drop_zero, List.take_succ_cons, List.take_zero]
      rw [u8s_app, ints_app, ← hi1]
      have e4 : (i + 1) - 1 = i := rfl
      have e5 : ((i + 1 : Nat) : Int) - 1 = (i : Int) := by omega
      rw [e4, e5]
      rfl
end Go.Bv
