/- BY VALUE, chapter 26: binary. -/
import Derived.Test.YtnfmilnlekmjgaaC26I
set_option linter.unusedSimpArgs false
set_option linter.unusedVariables false
namespace Go.Bv
variable {S : RT}
attribute [local congr] ite_congr congr_bindOps congr_bindC congr_andThen congr_orNone congr_onBool congr_onEff congr_headC
set_option maxRecDepth 100000
set_option maxHeartbeats 40000000
def binStep (n c : Int) : Int := IntKind.wrap .i64 ((BitVec.ofInt IntKind.i64.bits (IntKind.wrap .i64 (n * 256)) ||| BitVec.ofInt IntKind.i64.bits (IntKind.wrap .i64 c)).toNat : Int)
def binGo : List UInt8 → Int → Int
  | [], n => n
  | c :: l, n => binGo l (binStep n (c.toNat : Int))
def binN (s : ByteArray) : Int := binGo (s.extract 1 s.size).data.toList (IntKind.wrap .i64 (IntKind.wrap .i8 (byteAt s 0)))
theorem run151 (s : ByteArray) (hs : 1 ≤ s.size) (hs2 : s.size ≤ 1000) : run T S 151 [.str s] = some (.int .i64 (binN s)) := by
  have g1 : ((0:Int) < (s.size : Int)) = True := by simp; omega
  have g0 : ((s.size : Int) ≤ (s.size : Int)) = True := by simp
  have g2 : ((1:Int) ≤ (s.size : Int)) = True := by simp; omega
  have hsz : (s.extract 1 s.size).size = s.size - 1 := by simp
  have g4 : ((s.extract 1 s.size).size ≤ 140737488355328) = True := by simp; omega
  (refine run_fn T151 ⟨rfl, by decide⟩ ?_; rw [start151])
  simp (config := {decide := true, contextual := true, maxSteps := 3000000}) only [F151, g0, g1, g2, g4, List.replicate, ↓simPre, simPost, Bool.not_not, Bool.not_false, Bool.not_true, Bool.false_eq_true, reduceCtorEq, ↓reduceIte, decide_true, decide_false, splice, results, resT, resTs, AV.key, Bool.and_true, Bool.true_and, and_true, true_and, and_self, List.flatMap_nil, List.flatMap_cons, List.append_nil, List.nil_append, List.cons_append, List.map_cons, List.map_nil, List.all_cons, List.all_nil, List.length_cons, List.length_nil, Nat.reduceAdd, Nat.reduceLT, Nat.reduceLeDiff, Nat.reduceEqDiff, Nat.reduceSub, Nat.zero_add, Nat.add_zero, List.drop_succ_cons, List.drop_zero, List.take_succ_cons, List.take_zero]
  unfold binN
  refine Eq.trans (headC_ind (σ := Nat × Int) (fun x => ⟨[.unk, .unk, .unk, .int .i64 x.2] ++ List.replicate 8 .unk ++ [.sl (byteCells (s.extract 1 s.size)), .int .i64 (byteCells (s.extract 1 s.size)).length, .int .i64 x.1] ++ List.replicate 10 .unk, List.replicate 25 ⟨0, .dead⟩⟩)
    (fun x => some (AV.int .i64 (binGo ((s.extract 1 s.size).data.toList.drop x.1) x.2))) (fun i => (s.extract 1 s.size).size - i.1) (fun i => i.1 ≤ (s.extract 1 s.size).size) ?_ (0, IntKind.wrap .i64 (IntKind.wrap .i8 (byteAt s 0))) (Nat.zero_le _)) (by simp only [List.drop_zero])
  rintro ⟨i, n⟩ hi ih
  simp only at hi
  by_cases hlt : i < (s.extract 1 s.size).size
  · obtain ⟨h1, h2, h4, h5⟩ := idx hlt (by omega)
    have h3 := byteCells_get (s.extract 1 s.size) i hlt
    rw [drop_cons 0 (by rw [Array.length_toList]; exact hlt)]
    simp (config := {decide := true, contextual := true, maxSteps := 3000000}) only [h1, h2, h3, h4, h5, byteCells_len, List.replicate, ↓simPre, simPost, Bool.not_not, Bool.not_false, Bool.not_true, Bool.false_eq_true, reduceCtorEq, ↓reduceIte, decide_true, decide_false, splice, results, resT, resTs, AV.key, Bool.and_true, Bool.true_and, and_true, true_and, and_self, List.flatMap_nil, List.flatMap_cons, List.append_nil, List.nil_append, List.cons_append, List.map_cons, List.map_nil, List.all_cons, List.all_nil, List.length_cons, List.length_nil, Nat.reduceAdd, Nat.reduceLT, Nat.reduceLeDiff, Nat.reduceEqDiff, Nat.reduceSub, Nat.zero_add, Nat.add_zero, List.drop_succ_cons, List.drop_zero, List.take_succ_cons, List.take_zero]
    have := ih (i + 1, binStep n ((s.extract 1 s.size).data.toList.getD i 0).toNat) (by simp only; omega) (by simp only; omega)
    rw [byteCells_len] at this
    exact this
  · have h2 := idxEnd (Nat.le_of_not_lt hlt)
    have h7 : (s.extract 1 s.size).data.toList.drop i = [] := List.drop_eq_nil_of_le (by rw [Array.length_toList]; exact Nat.le_of_not_lt hlt)
    simp (config := {decide := true, contextual := true, maxSteps := 3000000}) only [h2, byteCells_len, h7, binGo, List.replicate, ↓simPre, simPost, Bool.not_not, Bool.not_false, Bool.not_true, Bool.false_eq_true, reduceCtorEq, ↓reduceIte, decide_true, decide_false, splice, results, resT, resTs, AV.key, Bool.and_true, Bool.true_and, and_true, true_and, and_self, List.flatMap_nil, List.flatMap_cons, List.append_nil, List.nil_append, List.cons_append, List.map_cons, List.map_nil, List.all_cons, List.all_nil, List.length_cons, List.length_nil, Nat.reduceAdd, Nat.reduceLT, Nat.reduceLeDiff, Nat.reduceEqDiff, Nat.reduceSub, Nat.zero_add, Nat.add_zero, List.drop_succ_cons, List.drop_zero, List.take_succ_cons, List.take_zero]
end Go.Bv

/- BY VALUE, chapter 26: halves. -/
set_option linter.unusedSimpArgs false
set_option linter.unusedVariables false
namespace Go.Bv
variable {S : RT}
attribute [local congr] ite_congr congr_bindOps congr_bindC congr_andThen congr_orNone congr_onBool congr_onEff congr_headC
set_option maxRecDepth 100000
set_option maxHeartbeats 40000000
theorem run161p (l sc : Int) (s : ByteArray) (hs : 1 ≤ s.size) (hs2 : s.size ≤ 1000) : run T S 161 [.agg [.int .i64 1, .int .i64 l, .int .i64 sc], .str s] = some (.tup [.sl (u8s (packD s s.size)), .sl (ints (packA s.size))]) := by
  (refine run_fn T161 ⟨rfl, by decide⟩ ?_; rw [start161])
  simp (config := {decide := true, contextual := true, maxSteps := 3000000}) only [F161, u8s_len, ints_len, List.replicate, ↓simPre, simPost, Bool.not_not, Bool.not_false, Bool.not_true, Bool.false_eq_true, reduceCtorEq, ↓reduceIte, decide_true, decide_false, splice, results, resT, resTs, AV.key, Bool.and_true, Bool.true_and, and_true, true_and, and_self, List.flatMap_nil, List.flatMap_cons, List.append_nil, List.nil_append, List.cons_append, List.map_cons, List.map_nil, List.all_cons, List.all_nil, List.length_cons, List.length_nil, Nat.reduceAdd, Nat.reduceLT, Nat.reduceLeDiff, Nat.reduceEqDiff, Nat.reduceSub, Nat.zero_add, Nat.add_zero, List.drop_succ_cons, List.drop_zero, List.take_succ_cons, List.take_zero]
  refine Eq.trans (headC_ind (σ := Nat) (fun i => match i with
      | 0 => ⟨[.unk, .str s, .ptr 2 0 0, .unk, .nil, .nil] ++ List.replicate 4 .unk ++ [.int .i64 s.size, .int .i64 0] ++ List.replicate 53 .unk, [⟨0, .dead⟩, ⟨0, .dead⟩, ⟨0, .box [.int .i64 1, .int .i64 l, .int .i64 sc]⟩] ++ List.replicate 62 ⟨0, .dead⟩⟩
      | i + 1 => ⟨[.unk, .str s, .ptr 2 0 0, .unk, .own 38 0, .own 43 0] ++ List.replicate 4 .unk ++ [.int .i64 s.size, .int .i64 (i + 1 : Nat)] ++ List.replicate 53 .unk, [⟨0, .dead⟩, ⟨0, .dead⟩, ⟨0, .box [.int .i64 1, .int .i64 l, .int .i64 sc]⟩] ++ List.replicate 35 ⟨0, .dead⟩ ++ [⟨0, .row 5 1 0 (u8s (packD s (i + 1)))⟩] ++ List.replicate 4 ⟨0, .dead⟩ ++ [⟨0, .row 3 1 0 (ints (packA (i + 1)))⟩] ++ List.replicate 21 ⟨0, .dead⟩⟩)
    (fun i => some (.tup [.sl (u8s (packD s s.size)), .sl (ints (packA s.size))])) (fun i => s.size - i) (fun i => i ≤ s.size) ?_ 0 (Nat.zero_le _)) (by simp)
  intro i hi ih
  cases i with
  | zero =>
    obtain ⟨h1, h2, h4, h5⟩ := idx (i := 0) (n := s.size) (by omega) (by omega)
    simp only [Int.ofNat_eq_natCast, Int.cast_ofNat_Int, Int.natCast_zero] at h1 h2 h4 h5
    simp (config := {decide := true, contextual := true, maxSteps := 3000000}) only [h1, h2, h4, h5, List.length_map, List.replicate, ↓simPre, simPost, Bool.not_not, Bool.not_false, Bool.not_true, Bool.false_eq_true, reduceCtorEq, ↓reduceIte, decide_true, decide_false, splice, results, resT, resTs, AV.key, Bool.and_true, Bool.true_and, and_true, true_and, and_self, List.flatMap_nil, List.flatMap_cons, List.append_nil, List.nil_append, List.cons_append, List.map_cons, List.map_nil, List.all_cons, List.all_nil, List.length_cons, List.length_nil, Nat.reduceAdd, Nat.reduceLT, Nat.reduceLeDiff, Nat.reduceEqDiff, Nat.reduceSub, Nat.zero_add, Nat.add_zero, List.drop_succ_cons, List.drop_zero, List.take_succ_cons, List.take_zero]
    exact ih 1 (by omega) (by omega)
  | succ i =>
    by_cases hlt : i + 1 < s.size
    · obtain ⟨h1, h2, h4, h5⟩ := idx hlt (by omega)
      have l1 := packD_len s (i + 1)
      have l2 := packA_len (i + 1)
      have g5 : (((u8s (packD s (i + 1))).length + 2) * 1 ≤ 140737488355328) = True := by rw [u8s_len]; simp; omega
      have g6 : (((ints (packA (i + 1))).length + 2) * 8 ≤ 140737488355328) = True := by rw [ints_len]; simp; omega
      have e1 : u8s (packD s (i + 1)) ++ [[.int .u8 ((byteAt s (i + 1)).fdiv 16)], [.int .u8 (IntKind.u8.wrap ↑(BitVec.ofInt IntKind.u8.bits (byteAt s (i + 1)) &&& BitVec.ofInt IntKind.u8.bits 15).toNat)]] = u8s (packD s (i + 2)) := by
        rw [packD.eq_2 s (i + 1), u8s_app]; rfl
      have e2 : ints (packA (i + 1)) ++ [[.int .i64 ((i + 1 : Nat) : Int)], [.int .i64 ((i + 1 : Nat) : Int)]] = ints (packA (i + 2)) := by
        rw [packA.eq_2 (i + 1), ints_app]; rfl
      simp (config := {decide := true, contextual := true, maxSteps := 3000000}) only [h1, h2, h4, h5, g5, g6, e1, e2, List.length_map, List.replicate, ↓simPre, simPost, Bool.not_not, Bool.not_false, Bool.not_true, Bool.false_eq_true, reduceCtorEq, ↓reduceIte, decide_true, decide_false, splice, results, resT, resTs, AV.key, Bool.and_true, Bool.true_and, and_true, true_and, and_self, List.flatMap_nil, List.flatMap_cons, List.append_nil, List.nil_append, List.cons_append, List.map_cons, List.map_nil, List.all_cons, List.all_nil, List.length_cons, List.length_nil, Nat.reduceAdd, Nat.reduceLT, Nat.reduceLeDiff, Nat.reduceEqDiff, Nat.reduceSub, Nat.zero_add, Nat.add_zero, List.drop_succ_cons, List.drop_zero, List.take_succ_cons, List.take_zero]
      exact ih (i + 2) (by omega) (by omega)
    · have h2 := idxEnd (Nat.le_of_not_lt hlt)
      have hi1 : i + 1 = s.size := by omega
      simp (config := {decide := true, contextual := true, maxSteps := 3000000}) only [h2, List.replicate, ↓simPre, simPost, Bool.not_not, Bool.not_false, Bool.not_true, Bool.false_eq_true, reduceCtorEq, ↓reduceIte, decide_true, decide_false, splice, results, resT, resTs, AV.key, Bool.and_true, Bool.true_and, and_true, true_and, and_self, List.flatMap_nil, List.flatMap_cons, List.append_nil, List.nil_append, List.cons_append, List.map_cons, List.map_nil, List.all_cons, List.all_nil, List.length_cons, List.length_nil, Nat.reduceAdd, Nat.reduceLT, Nat.reduceLeDiff, Nat.reduceEqDiff, Nat.reduceSub, Nat.zero_add, Nat.add_zero, List.drop_succ_cons, List.drop_zero, List.take_succ_cons, List.take_zero]
      rw [hi1]
theorem run161z (l sc : Int) (s : ByteArray) (hs : 1 ≤ s.size) (hs2 : s.size ≤ 1000) : run T S 161 [.agg [.int .i64 2, .int .i64 l, .int .i64 sc], .str s] = some (.tup [.sl (u8s (zoneD s s.size ++ [hi (byteAt s (s.size - 1))])), .sl (ints (zoneA s.size ++ [(s.size : Int) - 1]))]) := by
  (refine run_fn T161 ⟨rfl, by decide⟩ ?_; rw [start161])
  simp (config := {decide := true, contextual := true, maxSteps := 3000000}) only [F161, u8s_len, ints_len, List.replicate, ↓simPre, simPost, Bool.not_not, Bool.not_false, Bool.not_true, Bool.false_eq_true, reduceCtorEq, ↓reduceIte, decide_true, decide_false, splice, results, resT, resTs, AV.key, Bool.and_true, Bool.true_and, and_true, true_and, and_self, List.flatMap_nil, List.flatMap_cons, List.append_nil, List.nil_append, List.cons_append, List.map_cons, List.map_nil, List.all_cons, List.all_nil, List.length_cons, List.length_nil, Nat.reduceAdd, Nat.reduceLT, Nat.reduceLeDiff, Nat.reduceEqDiff, Nat.reduceSub, Nat.zero_add, Nat.add_zero, List.drop_succ_cons, List.drop_zero, List.take_succ_cons, List.take_zero]
  refine Eq.trans (headC_ind (σ := Nat) (fun i => match i with
      | 0 => ⟨[.unk, .str s, .ptr 2 0 0, .unk, .nil, .nil] ++ List.replicate 4 .unk ++ [.int .i64 s.size, .int .i64 0] ++ List.replicate 53 .unk, [⟨0, .dead⟩, ⟨0, .dead⟩, ⟨0, .box [.int .i64 2, .int .i64 l, .int .i64 sc]⟩] ++ List.replicate 62 ⟨0, .dead⟩⟩
      | i + 1 => ⟨[.unk, .str s, .ptr 2 0 0, .unk, .own 25 0, .own 29 0] ++ List.replicate 4 .unk ++ [.int .i64 s.size, .int .i64 (i + 1 : Nat)] ++ List.replicate 53 .unk, [⟨0, .dead⟩, ⟨0, .dead⟩, ⟨0, .box [.int .i64 2, .int .i64 l, .int .i64 sc]⟩] ++ List.replicate 22 ⟨0, .dead⟩ ++ [⟨0, .row 5 1 0 (u8s (zoneD s (i + 1)))⟩] ++ List.replicate 3 ⟨0, .dead⟩ ++ [⟨0, .row 3 1 0 (ints (zoneA (i + 1)))⟩] ++ List.replicate 35 ⟨0, .dead⟩⟩)
    (fun i => some (.tup [.sl (u8s (zoneD s s.size ++ [hi (byteAt s (s.size - 1))])), .sl (ints (zoneA s.size ++ [(s.size : Int) - 1]))])) (fun i => s.size - i) (fun i => i ≤ s.size) ?_ 0 (Nat.zero_le _)) (by simp)
  intro i hi ih
  cases i with
  | zero =>
    obtain ⟨h1, h2, h4, h5⟩ := idx (i := 0) (n := s.size) (by omega) (by omega)
    simp only [Int.ofNat_eq_natCast, Int.cast_ofNat_Int, Int.natCast_zero] at h1 h2 h4 h5
    simp (config := {decide := true, contextual := true, maxSteps := 3000000}) only [h1, h2, h4, h5, List.length_map, List.replicate, ↓simPre, simPost, Bool.not_not, Bool.not_false, Bool.not_true, Bool.false_eq_true, reduceCtorEq, ↓reduceIte, decide_true, decide_false, splice, results, resT, resTs, AV.key, Bool.and_true, Bool.true_and, and_true, true_and, and_self, List.flatMap_nil, List.flatMap_cons, List.append_nil, List.nil_append, List.cons_append, List.map_cons, List.map_nil, List.all_cons, List.all_nil, List.length_cons, List.length_nil, Nat.reduceAdd, Nat.reduceLT, Nat.reduceLeDiff, Nat.reduceEqDiff, Nat.reduceSub, Nat.zero_add, Nat.add_zero, List.drop_succ_cons, List.drop_zero, List.take_succ_cons, List.take_zero]
    exact ih 1 (by omega) (by omega)
  | succ i =>
    by_cases hlt : i + 1 < s.size
    · obtain ⟨h1, h2, h4, h5⟩ := idx hlt (by omega)
      have l1 := zoneD_len s (i + 1)
      have l2 := zoneA_len (i + 1)
      have g5 : (((u8s (zoneD s (i + 1))).length + 1) * 1 ≤ 140737488355328) = True := by rw [u8s_len]; simp; omega
      have g6 : (((ints (zoneA (i + 1))).length + 1) * 8 ≤ 140737488355328) = True := by rw [ints_len]; simp; omega
      have e1 : u8s (zoneD s (i + 1)) ++ [[.int .u8 (IntKind.u8.wrap ↑(BitVec.ofInt IntKind.u8.bits (byteAt s (i + 1)) &&& BitVec.ofInt IntKind.u8.bits 15).toNat)]] = u8s (zoneD s (i + 2)) := by
        rw [zoneD.eq_2 s (i + 1), u8s_app]; rfl
      have e2 : ints (zoneA (i + 1)) ++ [[.int .i64 ((i + 1 : Nat) : Int)]] = ints (zoneA (i + 2)) := by
        rw [zoneA.eq_2 (i + 1), ints_app]; rfl
      simp (config := {decide := true, contextual := true, maxSteps := 3000000}) only [h1, h2, h4, h5, g5, g6, e1, e2, List.length_map, List.replicate, ↓simPre, simPost, Bool.not_not, Bool.not_false, Bool.not_true, Bool.false_eq_true, reduceCtorEq, ↓reduceIte, decide_true, decide_false, splice, results, resT, resTs, AV.key, Bool.and_true, Bool.true_and, and_true, true_and, and_self, List.flatMap_nil, List.flatMap_cons, List.append_nil, List.nil_append, List.cons_append, List.map_cons, List.map_nil, List.all_cons, List.all_nil, List.length_cons, List.length_nil, Nat.reduceAdd, Nat.reduceLT, Nat.reduceLeDiff, Nat.reduceEqDiff, Nat.reduceSub, Nat.zero_add, Nat.add_zero, List.drop_succ_cons, List.drop_zero, List.take_succ_cons, List.take_zero]
      exact ih (i + 2) (by omega) (by omega)
    · have h2 := idxEnd (Nat.le_of_not_lt hlt)
      obtain hi1 : i + 1 = s.size := by omega
      have w1 : IntKind.wrap .i64 ((s.size : Int) - 1) = (i : Int) := by rw [wrap_i64 (by omega) (by omega)]; omega
      have h2 : (((i + 1 : Nat) : Int) < (s.size : Int)) = False := by simp; omega
      have h3 : ((i : Int) < (s.size : Int)) = True := by simp; omega
      have g5 : (((u8s (zoneD s (i + 1))).length + 1) * 1 ≤ 140737488355328) = True := by rw [u8s_len, zoneD_len]; simp; omega
      have g6 : (((ints (zoneA (i + 1))).length + 1) * 8 ≤ 140737488355328) = True := by rw [ints_len, zoneA_len]; simp; omega
      have e3 : s.size - 1 = i := by omega
      simp (config := {decide := true, contextual := true, maxSteps := 3000000}) only [h2, h3, w1, g5, g6, List.replicate, ↓simPre, simPost, Bool.not_not, Bool.not_false, Bool.not_true, Bool.false_eq_true, reduceCtorEq, ↓reduceIte, decide_true, decide_false, splice, results, resT, resTs, AV.key, Bool.and_true, Bool.true_and, and_true, true_and, and_self, List.flatMap_nil, List.flatMap_cons, List.append_nil, List.nil_append, List.cons_append, List.map_cons, List.map_nil, List.all_cons, List.all_nil, List.length_cons, List.length_nil, Nat.reduceAdd, Nat.reduceLT, Nat.reduceLeDiff, Nat.reduceEqDiff, Nat.reduceSub, Nat.zero_add, Nat.add_zero, List.drop_succ_cons, List.drop_zero, List.take_succ_cons, List.take_zero]
      rw [u8s_app, ints_app, ← hi1]
      have e4 : (i + 1) - 1 = i := rfl
      have e5 : ((i + 1 : Nat) : Int) - 1 = (i : Int) := by omega
      rw [e4, e5]
      rfl
end Go.Bv

/- BY VALUE, chapter 26: decimal. -/
set_option linter.unusedSimpArgs false
set_option linter.unusedVariables false
namespace Go.Bv
variable {S : RT}
attribute [local congr] ite_congr congr_bindOps congr_bindC congr_andThen congr_orNone congr_onBool congr_onEff congr_headC
set_option maxRecDepth 100000
set_option maxHeartbeats 40000000
def decGo (D A : List Int) (m : Nat) (lim : Int) : List Int → Nat → Int → Int × Int × Int
  | [], _, n => if (decide (D.getD m 0 < 10)) = true then (0, A.getD m 0, 21) else if (D.getD m 0 == 11 || D.getD m 0 == 13) = true then (IntKind.wrap .i64 (0 - n), 0, 0) else (n, 0, 0)
  | d :: l, i, n => if (decide (d > 9) || (decide (d > 0) && decide ((i : Int) < lim))) = true then (0, A.getD i 0, 21) else decGo D A m lim l (i + 1) (IntKind.wrap .i64 (IntKind.wrap .i64 (n * 10) + IntKind.wrap .i64 d))
theorem u8s_get (l : List Int) (i : Nat) (h : i < l.length) : (u8s l).getD i [] = [.int .u8 (l.getD i 0)] := by
  simp [u8s, List.getD_eq_getElem?_getD, List.getElem?_eq_getElem h]
def encI3 (x : Int × Int × Int) : AV := .tup [.int .i64 x.1, .int .i64 x.2.1, .int .i64 x.2.2]
theorem run152 (t : Ty) (s : ByteArray) (D A : List Int) (m : Nat) (hD : D.length = m + 1) (hA : A.length = m + 1) (hm : m ≤ 10000) (h161 : run T S 161 [.agg (encT t), .str s] = some (.tup [.sl (u8s D), .sl (ints A)])) :
    run T S 152 [.agg (encT t), .str s] = some (encI3 (decGo D A m (IntKind.wrap .i64 ((m : Int) - t.l)) (D.take m) 0 0)) := by
  obtain ⟨k, l, sc⟩ := t
  simp only [encT] at h161 ⊢
  have w1 : IntKind.wrap .i64 (((u8s D).length : Int) - 1) = (m : Int) := by rw [u8s_len, wrap_i64 (by omega) (by omega)]; omega
  have w2 : ((m : Int) ≤ ((u8s D).length : Int)) = True := by rw [u8s_len]; simp; omega
  have w3 : (u8s D).all (fun y => y.length == 1) = true := by simp [u8s]
  have w4 : (u8s D).take m = u8s (D.take m) := by simp [u8s, List.map_take]
  have w5 : (u8s (D.take m)).length = m := by rw [u8s_len]; simp; omega
  have w6 : ((m : Int) < ((u8s D).length : Int)) = True := by rw [u8s_len]; simp; omega
  have w7 : ((m : Int) < ((ints A).length : Int)) = True := by rw [ints_len]; simp; omega
  have w8 := u8s_get D m (by omega)
  have w9 := ints_get A m (by omega)
  (refine run_fn T152 ⟨rfl, by decide⟩ ?_; rw [start152])
  simp (config := {decide := true, contextual := true, maxSteps := 3000000}) only [F152, h161, w1, w2, w3, w4, w5, List.replicate, ↓simPre, simPost, Bool.not_not, Bool.not_false, Bool.not_true, Bool.false_eq_true, reduceCtorEq, ↓reduceIte, decide_true, decide_false, splice, results, resT, resTs, AV.key, Bool.and_true, Bool.true_and, and_true, true_and, and_self, List.flatMap_nil, List.flatMap_cons, List.append_nil, List.nil_append, List.cons_append, List.map_cons, List.map_nil, List.all_cons, List.all_nil, List.length_cons, List.length_nil, Nat.reduceAdd, Nat.reduceLT, Nat.reduceLeDiff, Nat.reduceEqDiff, Nat.reduceSub, Nat.zero_add, Nat.add_zero, List.drop_succ_cons, List.drop_zero, List.take_succ_cons, List.take_zero]
  refine Eq.trans (headC_ind (σ := Nat × Int) (fun x => ⟨[.unk, .unk, .ptr 2 0 0, .unk, .unk, .unk, .unk, .sl (u8s D), .sl (ints A), .int .i64 m, .int .i64 x.2] ++ List.replicate 13 .unk ++ [.sl (u8s (D.take m)), .int .i64 m, .int .i64 x.1] ++ List.replicate 54 .unk, [⟨0, .dead⟩, ⟨0, .dead⟩, ⟨0, .box [.int .i64 k, .int .i64 l, .int .i64 sc]⟩] ++ List.replicate 78 ⟨0, .dead⟩⟩)
    (fun x => some (encI3 (decGo D A m (IntKind.wrap .i64 ((m : Int) - l)) ((D.take m).drop x.1) x.1 x.2))) (fun i => m - i.1) (fun i => i.1 ≤ m) ?_ (0, 0) (by simp)) (by simp)
  rintro ⟨i, n⟩ hi ih
  simp only at hi
  by_cases hlt : i < m
  · obtain ⟨h1, h2, h4, h5⟩ := idx hlt (by omega)
    have h3 := u8s_get (D.take m) i (by simp; omega)
    have h2' : ((i : Int) < ((u8s (D.take m)).length : Int)) = True := by rw [w5]; exact h2
    have h6 : ((i : Int) < ((ints A).length : Int)) = True := by rw [ints_len]; simp; omega
    have h7 := ints_get A i (by omega)
    rw [drop_cons 0 (by simp; omega)]
    simp (config := {decide := true, contextual := true, maxSteps := 3000000}) only [h1, h2, h2', h3, h4, h5, h6, h7, w5, List.replicate, ↓simPre, simPost, Bool.not_not, Bool.not_false, Bool.not_true, Bool.false_eq_true, reduceCtorEq, ↓reduceIte, decide_true, decide_false, splice, results, resT, resTs, AV.key, Bool.and_true, Bool.true_and, and_true, true_and, and_self, List.flatMap_nil, List.flatMap_cons, List.append_nil, List.nil_append, List.cons_append, List.map_cons, List.map_nil, List.all_cons, List.all_nil, List.length_cons, List.length_nil, Nat.reduceAdd, Nat.reduceLT, Nat.reduceLeDiff, Nat.reduceEqDiff, Nat.reduceSub, Nat.zero_add, Nat.add_zero, List.drop_succ_cons, List.drop_zero, List.take_succ_cons, List.take_zero]
    simp only [decGo]
    split
    · rfl
    · exact ih (i + 1, _) (by simp only; omega) (by simp only; omega)
  · have h2 := idxEnd (Nat.le_of_not_lt hlt)
    have h7 : (D.take m).drop i = [] := List.drop_eq_nil_of_le (by simp; omega)
    simp (config := {decide := true, contextual := true, maxSteps := 3000000}) only [h2, h7, w6, w7, w8, w9, decGo, List.replicate, ↓simPre, simPost, Bool.not_not, Bool.not_false, Bool.not_true, Bool.false_eq_true, reduceCtorEq, ↓reduceIte, decide_true, decide_false, splice, results, resT, resTs, AV.key, Bool.and_true, Bool.true_and, and_true, true_and, and_self, List.flatMap_nil, List.flatMap_cons, List.append_nil, List.nil_append, List.cons_append, List.map_cons, List.map_nil, List.all_cons, List.all_nil, List.length_cons, List.length_nil, Nat.reduceAdd, Nat.reduceLT, Nat.reduceLeDiff, Nat.reduceEqDiff, Nat.reduceSub, Nat.zero_add, Nat.add_zero, List.drop_succ_cons, List.drop_zero, List.take_succ_cons, List.take_zero]
    (repeat' split) <;> rfl
end Go.Bv
