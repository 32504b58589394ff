/- BY VALUE, chapter 26: awake. -/
import Derived.Test.YtnfmilnlekmjgaaW3
import Derived.Test.YtnfmilnlekmjgaaR8
import Derived.Test.YtnfmilnlekmjgaaG8
import Derived.Test.YtnfmilnlekmjgaaG1
set_option linter.unusedSimpArgs false
set_option linter.unusedVariables false
namespace Go.Bv
attribute [local congr] ite_congr congr_bindOps congr_bindC congr_andThen congr_orNone congr_onBool congr_onEff congr_headC
set_option maxRecDepth 100000
set_option maxHeartbeats 40000000
def dig : AV := .agg [.str (bs [82]), .sl [[.str (bs [78]), .int .i64 2, .int .i64 1, .int .i64 0]]]
def fdN : Fd := ⟨bs [78], ⟨2, 1, 0⟩⟩
theorem enc7 : run T SN 82 [.agg [.int .i64 2, .int .i64 1, .int .i64 0], .agg [.int .i64 7, .str (bs [])]] = some (.tup [.str (bs [247]), .int .i64 0]) :=
  run_of (n := 12) (by kernel_rfl)
theorem dig_short : Short (bs [82]) [fdN] := ⟨by decide, by decide, by
  intro f hf
  simp only [List.mem_singleton] at hf
  subst hf
  decide⟩
theorem dig_right : (checkFormat (bs [82]) [fdN]).2 = 0 := by kernel_rfl
theorem rec7 : VSpec Go.Proofs.Try.prog 23 [dig, .sl [[.int .i64 7, .str (bs [])]]] (.tup [.str (bs [247]), .int .i64 0, .int .i64 0]) :=
  rec1 (bs [82]) fdN ⟨7, bs []⟩ (bs [247]) dig_short dig_right enc7 (by decide)
open Classical in
/-- RecordOf, told where it is asked: at the one format and value of awake. -/
noncomputable def S23 : RT := fun f xs => if f = 23 ∧ xs = [dig, .sl [[.int .i64 7, .str (bs [])]]] then some (.tup [.str (bs [247]), .int .i64 0, .int .i64 0]) else none
theorem S23_sound : VSound Go.Proofs.Try.prog S23 := by
  intro f xs r h
  unfold S23 at h
  split at h
  · rename_i hh
    obtain ⟨rfl, rfl⟩ := hh
    cases h
    exact ⟨rec7, by kernel_rfl⟩
  · cases h
theorem run23 : run T S23 23 [dig, .sl [[.int .i64 7, .str (bs [])]]] = some (.tup [.str (bs [247]), .int .i64 0, .int .i64 0]) :=
  run_ext rfl (by unfold S23; rw [if_pos ⟨rfl, rfl⟩])
theorem run72 : run T S23 72 [] = some dig := by
  (refine run_fn T72 ⟨rfl, by decide⟩ ?_; rw [start72])
  simp (config := {decide := true, contextual := true, maxSteps := 3000000}) only [F72, dig, List.replicate, ↓simPre, simPost, Bool.not_not, Bool.not_false, Bool.not_true, Bool.false_eq_true, reduceCtorEq, ↓reduceIte, decide_true, decide_false, splice, results, resT, resTs, AV.key, Bool.and_true, Bool.true_and, and_true, true_and, and_self, List.flatMap_nil, List.flatMap_cons, List.append_nil, List.nil_append, List.cons_append, List.map_cons, List.map_nil, List.all_cons, List.all_nil, List.length_cons, List.length_nil, Nat.reduceAdd, Nat.reduceLT, Nat.reduceLeDiff, Nat.reduceEqDiff, Nat.reduceSub, Nat.zero_add, Nat.add_zero, List.drop_succ_cons, List.drop_zero, List.take_succ_cons, List.take_zero]
theorem vals7 : valuesOf (bs [82]) [fdN] (bs [247]) = ([⟨7, bs []⟩], 0, 0) := by kernel_rfl
theorem run15 : run T S23 15 [] = some (.bool true) := by
  have h72 := run72
  have h23 := run23
  have h20 := run20 (S := S23) (bs [82]) [fdN] (bs [247]) dig_short (by decide)
  rw [vals7] at h20
  simp only [encVs, List.map_cons, List.map_nil, encF, encV, fdN] at h20
  simp only [dig] at h72 h23
  have b1 : ((bs [247]).toList == (bs [247]).toList) = true := by simp
  (refine run_fn T15 ⟨rfl, by decide⟩ ?_; rw [start15])
  simp (config := {decide := true, contextual := true, maxSteps := 3000000}) only [F15, h72, h23, h20, b1, List.getD_cons_zero, List.replicate, ↓simPre, simPost, Bool.not_not, Bool.not_false, Bool.not_true, Bool.false_eq_true, reduceCtorEq, ↓reduceIte, decide_true, decide_false, splice, results, resT, resTs, AV.key, Bool.and_true, Bool.true_and, and_true, true_and, and_self, List.flatMap_nil, List.flatMap_cons, List.append_nil, List.nil_append, List.cons_append, List.map_cons, List.map_nil, List.all_cons, List.all_nil, List.length_cons, List.length_nil, Nat.reduceAdd, Nat.reduceLT, Nat.reduceLeDiff, Nat.reduceEqDiff, Nat.reduceSub, Nat.zero_add, Nat.add_zero, List.drop_succ_cons, List.drop_zero, List.take_succ_cons, List.take_zero]
  rfl
end Go.Bv
