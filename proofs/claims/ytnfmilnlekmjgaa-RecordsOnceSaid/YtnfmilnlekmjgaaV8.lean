/- BY VALUE, chapter 26: open files: stepping, rewriting, and their reference. -/
import Derived.Test.YtnfmilnlekmjgaaV1
set_option linter.unusedSimpArgs false
set_option linter.unusedVariables false
namespace Go.Bv
attribute [local congr] ite_congr congr_bindOps congr_bindC congr_andThen congr_orNone congr_onBool congr_onEff congr_headC
set_option maxRecDepth 100000
set_option maxHeartbeats 40000000
def openE (E : Int) (rs : List (Bool × ByteArray)) (o : Int) : Int := if (E != 0) = true then E else if (!(decide (0 ≤ o) && decide (o ≤ (rs.length : Int) + 1))) = true then 3 else 0
/-- From a number on, one by one, to the next record that is there; 0 if there is none. -/
def seek (rs : List (Bool × ByteArray)) (b : Int) : Nat → Int → Int
  | 0, _ => 0
  | k + 1, m => if (decide (1 ≤ m) && decide (m ≤ (rs.length : Int))) = true then (if isDel rs m = true then seek rs b k (m + b) else m) else 0
def mu (rs : List (Bool × ByteArray)) (b m : Int) : Nat := if b = 1 then ((rs.length : Int) + 1 - m).toNat else m.toNat
theorem mu_step {rs : List (Bool × ByteArray)} {b m : Int} (hb : b = 1 ∨ b = -1) (h : 1 ≤ m ∧ m ≤ (rs.length : Int)) : mu rs b m = mu rs b (m + b) + 1 := by
  unfold mu
  rcases hb with rfl | rfl
  · simp only [if_true]; omega
  · have : ¬ (-1 : Int) = 1 := by decide
    simp only [if_neg this]; omega
theorem seek_out {rs : List (Bool × ByteArray)} {b : Int} {k : Nat} {m : Int} (h : ¬ (1 ≤ m ∧ m ≤ (rs.length : Int))) : seek rs b k m = 0 := by
  cases k with
  | zero => rfl
  | succ k =>
    have d : (decide (1 ≤ m) && decide (m ≤ (rs.length : Int))) = false := by rw [Bool.and_eq_false_iff]; simp; omega
    simp only [seek, d, Bool.false_eq_true, if_false]
theorem seek_in {rs : List (Bool × ByteArray)} {b m : Int} (hb : b = 1 ∨ b = -1) (h : 1 ≤ m ∧ m ≤ (rs.length : Int)) : seek rs b (mu rs b m) m = if isDel rs m = true then seek rs b (mu rs b (m + b)) (m + b) else m := by
  rw [mu_step hb h]
  have d : (decide (1 ≤ m) && decide (m ≤ (rs.length : Int))) = true := by simp; omega
  simp only [seek, d, if_true]
def find (rs : List (Bool × ByteArray)) (b m : Int) : Int := seek rs b (mu rs b m) m
def stepA (rs : List (Bool × ByteArray)) (up : Bool) (m : Int) : AV := if (m == 0) = true then .tup [.agg [.int .i64 0, .bool false], .str (bs []), .int .i64 9] else .tup [.agg [.int .i64 m, .bool up], .str (rs.getD (m - 1).toNat (false, bs [])).2, .int .i64 0]
def stepB (rs : List (Bool × ByteArray)) (up : Bool) (m : Int) : AV := if (m == 0) = true then .agg [.int .i64 0, .bool false, .str (bs []), .int .i64 9] else .agg [.int .i64 m, .bool up, .str (rs.getD (m - 1).toNat (false, bs [])).2, .int .i64 0]
def byOf (back : Bool) : Int := if back = true then -1 else 1
section
variable {S : RT} (fn n : ByteArray) (l : List Fd) (ks : List (ByteArray × Bool)) (u : Bool) (rs : List (Bool × ByteArray)) (h : Small fn n l ks rs) (o : Int) (ou : Bool)
include h
theorem run104 (hS : Told28 S) : run T S 104 [.agg (tabC fn n l ks u rs), .agg [.int .i64 o, .bool ou]] = some (.int .i64 (openE (checkTable fn n l ks rs).2 rs o)) := by
  have h101 := run101 hS fn n l ks u rs h
  have hrs := h.qrs
  have w0 : IntKind.wrap .i64 ((rs.length : Int) + 1) = (rs.length : Int) + 1 := wrap_i64 (by omega) (by omega)
  unfold openE
  simp only [tabC] at h101 ⊢
  generalize (checkTable fn n l ks rs).2 = E at *
  have f1 : ∀ x, E ≠ 0 → first [E, x] = E := fun x hx => by simp [first, hx]
  by_cases dd : o < 0
  · have d5 : decide (o < 0) = true := by simpa using dd
    have d6 : (!(decide (0 ≤ o) && decide (o ≤ (rs.length : Int) + 1))) = true := by simp; omega
    by_cases hE : E = 0
    · subst hE
      have f0 : first [0, cond true 3] = 3 := rfl
      simp only [d6, if_true]
      (refine run_fn T104 ⟨rfl, by decide⟩ ?_; rw [start104])
      simp (config := {decide := true, contextual := true, maxSteps := 3000000}) only [F104, h101, run81, run80_2, d5, f0, w0, List.length_map, List.replicate, ↓simPre, simPost, Bool.not_not, Bool.not_false, Bool.not_true, Bool.false_eq_true, reduceCtorEq, ↓reduceIte, decide_true, decide_false, splice, results, resT, resTs, AV.key, Bool.and_true, Bool.true_and, and_true, true_and, and_self, List.flatMap_nil, List.flatMap_cons, List.append_nil, List.nil_append, List.cons_append, List.map_cons, List.map_nil, List.all_cons, List.all_nil, List.length_cons, List.length_nil, Nat.reduceAdd, Nat.reduceLT, Nat.reduceLeDiff, Nat.reduceEqDiff, Nat.reduceSub, Nat.zero_add, Nat.add_zero, List.drop_succ_cons, List.drop_zero, List.take_succ_cons, List.take_zero]
    · have hE' : (E != 0) = true := by simpa using hE
      simp only [hE', if_true]
      have f2 := f1 (cond true 3) hE
      (refine run_fn T104 ⟨rfl, by decide⟩ ?_; rw [start104])
      simp (config := {decide := true, contextual := true, maxSteps := 3000000}) only [F104, h101, run81, run80_2, d5, f2, w0, List.length_map, List.replicate, ↓simPre, simPost, Bool.not_not, Bool.not_false, Bool.not_true, Bool.false_eq_true, reduceCtorEq, ↓reduceIte, decide_true, decide_false, splice, results, resT, resTs, AV.key, Bool.and_true, Bool.true_and, and_true, true_and, and_self, List.flatMap_nil, List.flatMap_cons, List.append_nil, List.nil_append, List.cons_append, List.map_cons, List.map_nil, List.all_cons, List.all_nil, List.length_cons, List.length_nil, Nat.reduceAdd, Nat.reduceLT, Nat.reduceLeDiff, Nat.reduceEqDiff, Nat.reduceSub, Nat.zero_add, Nat.add_zero, List.drop_succ_cons, List.drop_zero, List.take_succ_cons, List.take_zero]
  · have d5 : decide (o < 0) = false := by simpa using dd
    by_cases d7 : o > (rs.length : Int) + 1
    · have d8 : decide (o > (rs.length : Int) + 1) = true := by simpa using d7
      have d6 : (!(decide (0 ≤ o) && decide (o ≤ (rs.length : Int) + 1))) = true := by simp; omega
      by_cases hE : E = 0
      · subst hE
        have f0 : first [0, cond true 3] = 3 := rfl
        simp only [d6, if_true]
        (refine run_fn T104 ⟨rfl, by decide⟩ ?_; rw [start104])
        simp (config := {decide := true, contextual := true, maxSteps := 3000000}) only [F104, h101, run81, run80_2, d5, d8, f0, w0, List.length_map, List.replicate, ↓simPre, simPost, Bool.not_not, Bool.not_false, Bool.not_true, Bool.false_eq_true, reduceCtorEq, ↓reduceIte, decide_true, decide_false, splice, results, resT, resTs, AV.key, Bool.and_true, Bool.true_and, and_true, true_and, and_self, List.flatMap_nil, List.flatMap_cons, List.append_nil, List.nil_append, List.cons_append, List.map_cons, List.map_nil, List.all_cons, List.all_nil, List.length_cons, List.length_nil, Nat.reduceAdd, Nat.reduceLT, Nat.reduceLeDiff, Nat.reduceEqDiff, Nat.reduceSub, Nat.zero_add, Nat.add_zero, List.drop_succ_cons, List.drop_zero, List.take_succ_cons, List.take_zero]
      · have hE' : (E != 0) = true := by simpa using hE
        simp only [hE', if_true]
        have f2 := f1 (cond true 3) hE
        (refine run_fn T104 ⟨rfl, by decide⟩ ?_; rw [start104])
        simp (config := {decide := true, contextual := true, maxSteps := 3000000}) only [F104, h101, run81, run80_2, d5, d8, f2, w0, List.length_map, List.replicate, ↓simPre, simPost, Bool.not_not, Bool.not_false, Bool.not_true, Bool.false_eq_true, reduceCtorEq, ↓reduceIte, decide_true, decide_false, splice, results, resT, resTs, AV.key, Bool.and_true, Bool.true_and, and_true, true_and, and_self, List.flatMap_nil, List.flatMap_cons, List.append_nil, List.nil_append, List.cons_append, List.map_cons, List.map_nil, List.all_cons, List.all_nil, List.length_cons, List.length_nil, Nat.reduceAdd, Nat.reduceLT, Nat.reduceLeDiff, Nat.reduceEqDiff, Nat.reduceSub, Nat.zero_add, Nat.add_zero, List.drop_succ_cons, List.drop_zero, List.take_succ_cons, List.take_zero]
    · have d8 : decide (o > (rs.length : Int) + 1) = false := by simpa using d7
      have d6 : (!(decide (0 ≤ o) && decide (o ≤ (rs.length : Int) + 1))) = false := by simp; omega
      by_cases hE : E = 0
      · subst hE
        have f0 : first [0, cond false 3] = 0 := rfl
        simp only [d6]
        (refine run_fn T104 ⟨rfl, by decide⟩ ?_; rw [start104])
        simp (config := {decide := true, contextual := true, maxSteps := 3000000}) only [F104, h101, run81, run80_2, d5, d8, f0, w0, List.length_map, List.replicate, ↓simPre, simPost, Bool.not_not, Bool.not_false, Bool.not_true, Bool.false_eq_true, reduceCtorEq, ↓reduceIte, decide_true, decide_false, splice, results, resT, resTs, AV.key, Bool.and_true, Bool.true_and, and_true, true_and, and_self, List.flatMap_nil, List.flatMap_cons, List.append_nil, List.nil_append, List.cons_append, List.map_cons, List.map_nil, List.all_cons, List.all_nil, List.length_cons, List.length_nil, Nat.reduceAdd, Nat.reduceLT, Nat.reduceLeDiff, Nat.reduceEqDiff, Nat.reduceSub, Nat.zero_add, Nat.add_zero, List.drop_succ_cons, List.drop_zero, List.take_succ_cons, List.take_zero]
      · have hE' : (E != 0) = true := by simpa using hE
        simp only [hE', if_true]
        have f2 := f1 (cond false 3) hE
        (refine run_fn T104 ⟨rfl, by decide⟩ ?_; rw [start104])
        simp (config := {decide := true, contextual := true, maxSteps := 3000000}) only [F104, h101, run81, run80_2, d5, d8, f2, w0, List.length_map, List.replicate, ↓simPre, simPost, Bool.not_not, Bool.not_false, Bool.not_true, Bool.false_eq_true, reduceCtorEq, ↓reduceIte, decide_true, decide_false, splice, results, resT, resTs, AV.key, Bool.and_true, Bool.true_and, and_true, true_and, and_self, List.flatMap_nil, List.flatMap_cons, List.append_nil, List.nil_append, List.cons_append, List.map_cons, List.map_nil, List.all_cons, List.all_nil, List.length_cons, List.length_nil, Nat.reduceAdd, Nat.reduceLT, Nat.reduceLeDiff, Nat.reduceEqDiff, Nat.reduceSub, Nat.zero_add, Nat.add_zero, List.drop_succ_cons, List.drop_zero, List.take_succ_cons, List.take_zero]
omit h in
theorem open_in {E : Int} {o : Int} (h : openE E rs o = 0) : E = 0 ∧ 0 ≤ o ∧ o ≤ (rs.length : Int) + 1 := by
  unfold openE at h
  split at h
  · rename_i hh; subst h; simp at hh
  · rename_i hh
    split at h
    · omega
    · rename_i hin
      simp only [Bool.not_eq_true', Bool.not_eq_false, Bool.and_eq_true, decide_eq_true_eq] at hin
      exact ⟨by simpa using hh, hin.1, hin.2⟩
theorem run46 (hS : Told28 S) (back up : Bool) : run T S 46 [.agg (tabC fn n l ks u rs), .agg [.int .i64 o, .bool ou], .bool back, .bool up] =
    some (if (openE (checkTable fn n l ks rs).2 rs o != 0) = true then .tup [.agg [.int .i64 0, .bool false], .str (bs []), .int .i64 (openE (checkTable fn n l ks rs).2 rs o)] else stepA rs up (find rs (byOf back) (o + byOf back))) := by
  have h104 := run104 fn n l ks u rs h o ou hS
  have hrs := h.qrs
  have hop := @open_in rs (checkTable fn n l ks rs).2 o
  simp only [tabC] at h104 ⊢
  generalize openE (checkTable fn n l ks rs).2 rs o = E at *
  by_cases hE : E = 0
  case neg =>
    have hE' : (E != 0) = true := by simpa using hE
    simp only [hE', if_true]
    (refine run_fn T46 ⟨rfl, by decide⟩ ?_; rw [start46])
    simp (config := {decide := true, contextual := true, maxSteps := 3000000}) only [F46, h104, hE', List.replicate, ↓simPre, simPost, Bool.not_not, Bool.not_false, Bool.not_true, Bool.false_eq_true, reduceCtorEq, ↓reduceIte, decide_true, decide_false, splice, results, resT, resTs, AV.key, Bool.and_true, Bool.true_and, and_true, true_and, and_self, List.flatMap_nil, List.flatMap_cons, List.append_nil, List.nil_append, List.cons_append, List.map_cons, List.map_nil, List.all_cons, List.all_nil, List.length_cons, List.length_nil, Nat.reduceAdd, Nat.reduceLT, Nat.reduceLeDiff, Nat.reduceEqDiff, Nat.reduceSub, Nat.zero_add, Nat.add_zero, List.drop_succ_cons, List.drop_zero, List.take_succ_cons, List.take_zero]
  have hE' : (E != 0) = false := by simpa using hE
  obtain ⟨_, o1, o2⟩ := hop hE
  simp only [hE', Bool.false_eq_true, if_false]
  have hf1 : ∀ {b m : Int}, (b = 1 ∨ b = -1) → 1 ≤ m ∧ m ≤ (rs.length : Int) → find rs b m = if isDel rs m = true then find rs b (m + b) else m := fun hb hin => seek_in hb hin
  have hf0 : ∀ {b m : Int}, ¬ (1 ≤ m ∧ m ≤ (rs.length : Int)) → find rs b m = 0 := fun hin => seek_out hin
  cases back with
  | false =>
    have w0 : IntKind.wrap .i64 (o + 1) = o + 1 := wrap_i64 (by omega) (by omega)
    have e : byOf false = 1 := rfl
    have hb : (1 : Int) = 1 ∨ (1 : Int) = -1 := by omega
    rw [e]
    (refine run_fn T46 ⟨rfl, by decide⟩ ?_; rw [start46])
    simp (config := {decide := true, contextual := true, maxSteps := 3000000}) only [F46, h104, hE', w0, List.length_map, List.replicate, ↓simPre, simPost, Bool.not_not, Bool.not_false, Bool.not_true, Bool.false_eq_true, reduceCtorEq, ↓reduceIte, decide_true, decide_false, splice, results, resT, resTs, AV.key, Bool.and_true, Bool.true_and, and_true, true_and, and_self, List.flatMap_nil, List.flatMap_cons, List.append_nil, List.nil_append, List.cons_append, List.map_cons, List.map_nil, List.all_cons, List.all_nil, List.length_cons, List.length_nil, Nat.reduceAdd, Nat.reduceLT, Nat.reduceLeDiff, Nat.reduceEqDiff, Nat.reduceSub, Nat.zero_add, Nat.add_zero, List.drop_succ_cons, List.drop_zero, List.take_succ_cons, List.take_zero]
    refine headC_ind (σ := Int) (fun m => ⟨[.unk, .unk, .unk, .bool up, .ptr 4 0 0, .unk, .unk, .unk, .ptr 8 0 0, .unk, .unk, .unk, .int .i64 1, .int .i64 m] ++ List.replicate 40 .unk,
        [⟨0, .dead⟩, ⟨0, .dead⟩, ⟨0, .dead⟩, ⟨0, .dead⟩, ⟨0, .box [.str fn, .str n, .sl (l.map encF), .sl (ks.map encK), .bool u, .sl (rs.map encR)]⟩, ⟨0, .dead⟩, ⟨0, .dead⟩, ⟨0, .dead⟩, ⟨0, .box [.int .i64 0, .bool false]⟩] ++ List.replicate 45 ⟨0, .dead⟩⟩)
      (fun m => some (stepA rs up (find rs 1 m))) (fun m => mu rs 1 m) (fun m => -1 ≤ m ∧ m ≤ (rs.length : Int) + 2) ?_ (o + 1) (by omega)
    intro m hm ih
    by_cases hin : 1 ≤ m ∧ m ≤ (rs.length : Int)
    · have d1 : decide (m ≥ 1) = true := by simp; omega
      have d2 : decide (m ≤ (rs.length : Int)) = true := by simp; omega
      have w1 : IntKind.wrap .i64 (m - 1) = ((m - 1).toNat : Int) := by rw [wrap_i64 (by omega) (by omega)]; omega
      have w2 : IntKind.wrap .i64 (m + 1) = m + 1 := wrap_i64 (by omega) (by omega)
      obtain ⟨i1, i2, i4, i5⟩ := idx (i := (m - 1).toNat) (n := rs.length) (by omega) (by omega)
      have i3 := map_get encR rs (m - 1).toNat (false, bs []) (by omega)
      simp only [encR] at i3
      have hih := ih (m + 1) (by omega) (by have := mu_step (b := 1) hb hin; omega)
      simp only [List.replicate, List.cons_append, List.nil_append] at hih
      rw [hf1 hb hin]
      unfold isDel
      cases hd : (rs.getD (m - 1).toNat (false, bs [])).1 with
      | true =>
        simp only [if_true]
        simp (config := {decide := true, contextual := true, maxSteps := 3000000}) only [d1, d2, w1, w2, i1, i2, i3, i4, hd, List.length_map, List.replicate, ↓simPre, simPost, Bool.not_not, Bool.not_false, Bool.not_true, Bool.false_eq_true, reduceCtorEq, ↓reduceIte, decide_true, decide_false, splice, results, resT, resTs, AV.key, Bool.and_true, Bool.true_and, and_true, true_and, and_self, List.flatMap_nil, List.flatMap_cons, List.append_nil, List.nil_append, List.cons_append, List.map_cons, List.map_nil, List.all_cons, List.all_nil, List.length_cons, List.length_nil, Nat.reduceAdd, Nat.reduceLT, Nat.reduceLeDiff, Nat.reduceEqDiff, Nat.reduceSub, Nat.zero_add, Nat.add_zero, List.drop_succ_cons, List.drop_zero, List.take_succ_cons, List.take_zero]
        exact hih
      | false =>
        have m0 : (m == 0) = false := by simp; omega
        simp only [Bool.false_eq_true, if_false, stepA, m0]
        simp (config := {decide := true, contextual := true, maxSteps := 3000000}) only [d1, d2, w1, w2, i1, i2, i3, i4, hd, List.length_map, List.replicate, ↓simPre, simPost, Bool.not_not, Bool.not_false, Bool.not_true, Bool.false_eq_true, reduceCtorEq, ↓reduceIte, decide_true, decide_false, splice, results, resT, resTs, AV.key, Bool.and_true, Bool.true_and, and_true, true_and, and_self, List.flatMap_nil, List.flatMap_cons, List.append_nil, List.nil_append, List.cons_append, List.map_cons, List.map_nil, List.all_cons, List.all_nil, List.length_cons, List.length_nil, Nat.reduceAdd, Nat.reduceLT, Nat.reduceLeDiff, Nat.reduceEqDiff, Nat.reduceSub, Nat.zero_add, Nat.add_zero, List.drop_succ_cons, List.drop_zero, List.take_succ_cons, List.take_zero]
    · rw [hf0 hin]
      have m0 : ((0 : Int) == 0) = true := rfl
      simp only [stepA, m0, if_true]
      by_cases d : m ≥ 1
      · have d1 : decide (m ≥ 1) = true := by simpa using d
        have d2 : decide (m ≤ (rs.length : Int)) = false := by simp; omega
        simp (config := {decide := true, contextual := true, maxSteps := 3000000}) only [d1, d2, List.length_map, List.replicate, ↓simPre, simPost, Bool.not_not, Bool.not_false, Bool.not_true, Bool.false_eq_true, reduceCtorEq, ↓reduceIte, decide_true, decide_false, splice, results, resT, resTs, AV.key, Bool.and_true, Bool.true_and, and_true, true_and, and_self, List.flatMap_nil, List.flatMap_cons, List.append_nil, List.nil_append, List.cons_append, List.map_cons, List.map_nil, List.all_cons, List.all_nil, List.length_cons, List.length_nil, Nat.reduceAdd, Nat.reduceLT, Nat.reduceLeDiff, Nat.reduceEqDiff, Nat.reduceSub, Nat.zero_add, Nat.add_zero, List.drop_succ_cons, List.drop_zero, List.take_succ_cons, List.take_zero]
      · have d1 : decide (m ≥ 1) = false := by simpa using d
        simp (config := {decide := true, contextual := true, maxSteps := 3000000}) only [d1, List.length_map, List.replicate, ↓simPre, simPost, Bool.not_not, Bool.not_false, Bool.not_true, Bool.false_eq_true, reduceCtorEq, ↓reduceIte, decide_true, decide_false, splice, results, resT, resTs, AV.key, Bool.and_true, Bool.true_and, and_true, true_and, and_self, List.flatMap_nil, List.flatMap_cons, List.append_nil, List.nil_append, List.cons_append, List.map_cons, List.map_nil, List.all_cons, List.all_nil, List.length_cons, List.length_nil, Nat.reduceAdd, Nat.reduceLT, Nat.reduceLeDiff, Nat.reduceEqDiff, Nat.reduceSub, Nat.zero_add, Nat.add_zero, List.drop_succ_cons, List.drop_zero, List.take_succ_cons, List.take_zero]
  | true =>
    have w0 : IntKind.wrap .i64 (o + (-1)) = o + (-1) := wrap_i64 (by omega) (by omega)
    have e : byOf true = (-1) := rfl
    have hb : ((-1) : Int) = 1 ∨ ((-1) : Int) = -1 := by omega
    rw [e]
    (refine run_fn T46 ⟨rfl, by decide⟩ ?_; rw [start46])
    simp (config := {decide := true, contextual := true, maxSteps := 3000000}) only [F46, h104, hE', w0, List.length_map, List.replicate, ↓simPre, simPost, Bool.not_not, Bool.not_false, Bool.not_true, Bool.false_eq_true, reduceCtorEq, ↓reduceIte, decide_true, decide_false, splice, results, resT, resTs, AV.key, Bool.and_true, Bool.true_and, and_true, true_and, and_self, List.flatMap_nil, List.flatMap_cons, List.append_nil, List.nil_append, List.cons_append, List.map_cons, List.map_nil, List.all_cons, List.all_nil, List.length_cons, List.length_nil, Nat.reduceAdd, Nat.reduceLT, Nat.reduceLeDiff, Nat.reduceEqDiff, Nat.reduceSub, Nat.zero_add, Nat.add_zero, List.drop_succ_cons, List.drop_zero, List.take_succ_cons, List.take_zero]
    refine headC_ind (σ := Int) (fun m => ⟨[.unk, .unk, .unk, .bool up, .ptr 4 0 0, .unk, .unk, .unk, .ptr 8 0 0, .unk, .unk, .unk, .int .i64 (-1), .int .i64 m] ++ List.replicate 40 .unk,
        [⟨0, .dead⟩, ⟨0, .dead⟩, ⟨0, .dead⟩, ⟨0, .dead⟩, ⟨0, .box [.str fn, .str n, .sl (l.map encF), .sl (ks.map encK), .bool u, .sl (rs.map encR)]⟩, ⟨0, .dead⟩, ⟨0, .dead⟩, ⟨0, .dead⟩, ⟨0, .box [.int .i64 0, .bool false]⟩] ++ List.replicate 45 ⟨0, .dead⟩⟩)
      (fun m => some (stepA rs up (find rs (-1) m))) (fun m => mu rs (-1) m) (fun m => -1 ≤ m ∧ m ≤ (rs.length : Int) + 2) ?_ (o + (-1)) (by omega)
    intro m hm ih
    by_cases hin : 1 ≤ m ∧ m ≤ (rs.length : Int)
    · have d1 : decide (m ≥ 1) = true := by simp; omega
      have d2 : decide (m ≤ (rs.length : Int)) = true := by simp; omega
      have w1 : IntKind.wrap .i64 (m - 1) = ((m - 1).toNat : Int) := by rw [wrap_i64 (by omega) (by omega)]; omega
      have w2 : IntKind.wrap .i64 (m + (-1)) = m + (-1) := wrap_i64 (by omega) (by omega)
      obtain ⟨i1, i2, i4, i5⟩ := idx (i := (m - 1).toNat) (n := rs.length) (by omega) (by omega)
      have i3 := map_get encR rs (m - 1).toNat (false, bs []) (by omega)
      simp only [encR] at i3
      have hih := ih (m + (-1)) (by omega) (by have := mu_step (b := (-1)) hb hin; omega)
      simp only [List.replicate, List.cons_append, List.nil_append] at hih
      rw [hf1 hb hin]
      unfold isDel
      cases hd : (rs.getD (m - 1).toNat (false, bs [])).1 with
      | true =>
        simp only [if_true]
        simp (config := {decide := true, contextual := true, maxSteps := 3000000}) only [d1, d2, w1, w2, i1, i2, i3, i4, hd, List.length_map, List.replicate, ↓simPre, simPost, Bool.not_not, Bool.not_false, Bool.not_true, Bool.false_eq_true, reduceCtorEq, ↓reduceIte, decide_true, decide_false, splice, results, resT, resTs, AV.key, Bool.and_true, Bool.true_and, and_true, true_and, and_self, List.flatMap_nil, List.flatMap_cons, List.append_nil, List.nil_append, List.cons_append, List.map_cons, List.map_nil, List.all_cons, List.all_nil, List.length_cons, List.length_nil, Nat.reduceAdd, Nat.reduceLT, Nat.reduceLeDiff, Nat.reduceEqDiff, Nat.reduceSub, Nat.zero_add, Nat.add_zero, List.drop_succ_cons, List.drop_zero, List.take_succ_cons, List.take_zero]
        exact hih
      | false =>
        have m0 : (m == 0) = false := by simp; omega
        simp only [Bool.false_eq_true, if_false, stepA, m0]
        simp (config := {decide := true, contextual := true, maxSteps := 3000000}) only [d1, d2, w1, w2, i1, i2, i3, i4, hd, List.length_map, List.replicate, ↓simPre, simPost, Bool.not_not, Bool.not_false, Bool.not_true, Bool.false_eq_true, reduceCtorEq, ↓reduceIte, decide_true, decide_false, splice, results, resT, resTs, AV.key, Bool.and_true, Bool.true_and, and_true, true_and, and_self, List.flatMap_nil, List.flatMap_cons, List.append_nil, List.nil_append, List.cons_append, List.map_cons, List.map_nil, List.all_cons, List.all_nil, List.length_cons, List.length_nil, Nat.reduceAdd, Nat.reduceLT, Nat.reduceLeDiff, Nat.reduceEqDiff, Nat.reduceSub, Nat.zero_add, Nat.add_zero, List.drop_succ_cons, List.drop_zero, List.take_succ_cons, List.take_zero]
    · rw [hf0 hin]
      have m0 : ((0 : Int) == 0) = true := rfl
      simp only [stepA, m0, if_true]
      by_cases d : m ≥ 1
      · have d1 : decide (m ≥ 1) = true := by simpa using d
        have d2 : decide (m ≤ (rs.length : Int)) = false := by simp; omega
        simp (config := {decide := true, contextual := true, maxSteps := 3000000}) only [d1, d2, List.length_map, List.replicate, ↓simPre, simPost, Bool.not_not, Bool.not_false, Bool.not_true, Bool.false_eq_true, reduceCtorEq, ↓reduceIte, decide_true, decide_false, splice, results, resT, resTs, AV.key, Bool.and_true, Bool.true_and, and_true, true_and, and_self, List.flatMap_nil, List.flatMap_cons, List.append_nil, List.nil_append, List.cons_append, List.map_cons, List.map_nil, List.all_cons, List.all_nil, List.length_cons, List.length_nil, Nat.reduceAdd, Nat.reduceLT, Nat.reduceLeDiff, Nat.reduceEqDiff, Nat.reduceSub, Nat.zero_add, Nat.add_zero, List.drop_succ_cons, List.drop_zero, List.take_succ_cons, List.take_zero]
      · have d1 : decide (m ≥ 1) = false := by simpa using d
        simp (config := {decide := true, contextual := true, maxSteps := 3000000}) only [d1, List.length_map, List.replicate, ↓simPre, simPost, Bool.not_not, Bool.not_false, Bool.not_true, Bool.false_eq_true, reduceCtorEq, ↓reduceIte, decide_true, decide_false, splice, results, resT, resTs, AV.key, Bool.and_true, Bool.true_and, and_true, true_and, and_self, List.flatMap_nil, List.flatMap_cons, List.append_nil, List.nil_append, List.cons_append, List.map_cons, List.map_nil, List.all_cons, List.all_nil, List.length_cons, List.length_nil, Nat.reduceAdd, Nat.reduceLT, Nat.reduceLeDiff, Nat.reduceEqDiff, Nat.reduceSub, Nat.zero_add, Nat.add_zero, List.drop_succ_cons, List.drop_zero, List.take_succ_cons, List.take_zero]
theorem run64 (back up : Bool) : run T S 64 [.agg (tabC fn n l ks u rs), .agg [.int .i64 o, .bool ou], .agg [.bool back, .bool up]] =
    some (if (openE (checkTable fn n l ks rs).2 rs o != 0) = true then .agg [.int .i64 0, .bool false, .str (bs []), .int .i64 (openE (checkTable fn n l ks rs).2 rs o)] else stepB rs up (find rs (byOf back) (o + byOf back))) := by
  have h45 := run45 (S := S) fn n l ks u rs h
  have hrs := h.qrs
  have w00 : IntKind.wrap .i64 ((rs.length : Int) + 1) = (rs.length : Int) + 1 := wrap_i64 (by omega) (by omega)
  have h62 := run62 (S := S) o 0 ((rs.length : Int) + 1)
  have h48 := run48 (S := S) back
  have h47 := fun m => run47 (S := S) fn n l ks u rs m (by omega)
  have h62m := fun m => run62 (S := S) m 1 (rs.length : Int)
  unfold openE
  simp only [tabC] at h45 h47 ⊢
  generalize (checkTable fn n l ks rs).2 = E at *
  by_cases hE : E = 0
  case neg =>
    have hE' : (E != 0) = true := by simpa using hE
    simp only [hE', if_true]
    (refine run_fn T64 ⟨rfl, by decide⟩ ?_; rw [start64])
    simp (config := {decide := true, contextual := true, maxSteps := 3000000}) only [F64, h45, hE', List.replicate, ↓simPre, simPost, Bool.not_not, Bool.not_false, Bool.not_true, Bool.false_eq_true, reduceCtorEq, ↓reduceIte, decide_true, decide_false, splice, results, resT, resTs, AV.key, Bool.and_true, Bool.true_and, and_true, true_and, and_self, List.flatMap_nil, List.flatMap_cons, List.append_nil, List.nil_append, List.cons_append, List.map_cons, List.map_nil, List.all_cons, List.all_nil, List.length_cons, List.length_nil, Nat.reduceAdd, Nat.reduceLT, Nat.reduceLeDiff, Nat.reduceEqDiff, Nat.reduceSub, Nat.zero_add, Nat.add_zero, List.drop_succ_cons, List.drop_zero, List.take_succ_cons, List.take_zero]
  have hE' : (E != 0) = false := by simpa using hE
  simp only [hE', Bool.false_eq_true, if_false]
  by_cases ho : 0 ≤ o ∧ o ≤ (rs.length : Int) + 1
  case neg =>
    have d6 : (decide (0 ≤ o) && decide (o ≤ (rs.length : Int) + 1)) = false := by rw [Bool.and_eq_false_iff]; simp; omega
    rw [d6] at h62 ⊢
    (refine run_fn T64 ⟨rfl, by decide⟩ ?_; rw [start64])
    simp (config := {decide := true, contextual := true, maxSteps := 3000000}) only [F64, h45, hE', w00, h62, List.length_map, List.replicate, ↓simPre, simPost, Bool.not_not, Bool.not_false, Bool.not_true, Bool.false_eq_true, reduceCtorEq, ↓reduceIte, decide_true, decide_false, splice, results, resT, resTs, AV.key, Bool.and_true, Bool.true_and, and_true, true_and, and_self, List.flatMap_nil, List.flatMap_cons, List.append_nil, List.nil_append, List.cons_append, List.map_cons, List.map_nil, List.all_cons, List.all_nil, List.length_cons, List.length_nil, Nat.reduceAdd, Nat.reduceLT, Nat.reduceLeDiff, Nat.reduceEqDiff, Nat.reduceSub, Nat.zero_add, Nat.add_zero, List.drop_succ_cons, List.drop_zero, List.take_succ_cons, List.take_zero]
  have d6 : (decide (0 ≤ o) && decide (o ≤ (rs.length : Int) + 1)) = true := by simp; omega
  rw [d6] at h62 ⊢
  simp only [Bool.not_true, Bool.false_eq_true, if_false, bne_self_eq_false]
  have hf1 : ∀ {b m : Int}, (b = 1 ∨ b = -1) → 1 ≤ m ∧ m ≤ (rs.length : Int) → find rs b m = if isDel rs m = true then find rs b (m + b) else m := fun hb hin => seek_in hb hin
  have hf0 : ∀ {b m : Int}, ¬ (1 ≤ m ∧ m ≤ (rs.length : Int)) → find rs b m = 0 := fun hin => seek_out hin
  cases back with
  | false =>
    have w0 : IntKind.wrap .i64 (o + 1) = o + 1 := wrap_i64 (by omega) (by omega)
    have w3 : IntKind.wrap .i64 (1 - IntKind.wrap .i64 (2 * 0)) = 1 := rfl
    have e : byOf false = 1 := rfl
    have hb : (1 : Int) = 1 ∨ (1 : Int) = -1 := by omega
    simp only [Bool.false_eq_true, if_false, if_true] at h48
    rw [e]
    (refine run_fn T64 ⟨rfl, by decide⟩ ?_; rw [start64])
    simp (config := {decide := true, contextual := true, maxSteps := 3000000}) only [F64, h45, hE', w00, h62, h48, w0, w3, List.length_map, List.replicate, ↓simPre, simPost, Bool.not_not, Bool.not_false, Bool.not_true, Bool.false_eq_true, reduceCtorEq, ↓reduceIte, decide_true, decide_false, splice, results, resT, resTs, AV.key, Bool.and_true, Bool.true_and, and_true, true_and, and_self, List.flatMap_nil, List.flatMap_cons, List.append_nil, List.nil_append, List.cons_append, List.map_cons, List.map_nil, List.all_cons, List.all_nil, List.length_cons, List.length_nil, Nat.reduceAdd, Nat.reduceLT, Nat.reduceLeDiff, Nat.reduceEqDiff, Nat.reduceSub, Nat.zero_add, Nat.add_zero, List.drop_succ_cons, List.drop_zero, List.take_succ_cons, List.take_zero]
    refine headC_ind (σ := Int) (fun m => ⟨[.unk, .unk, .unk, .ptr 3 0 0, .unk, .ptr 5 0 0, .ptr 6 0 0, .unk, .int .i64 1, .int .i64 m] ++ List.replicate 48 .unk,
        [⟨0, .dead⟩, ⟨0, .dead⟩, ⟨0, .dead⟩, ⟨0, .box [.str fn, .str n, .sl (l.map encF), .sl (ks.map encK), .bool u, .sl (rs.map encR)]⟩, ⟨0, .dead⟩, ⟨0, .box [.bool false, .bool up]⟩, ⟨0, .box [.int .i64 0, .bool false, .str (bs []), .int .i64 0]⟩] ++ List.replicate 51 ⟨0, .dead⟩⟩)
      (fun m => some (stepB rs up (find rs 1 m))) (fun m => mu rs 1 m) (fun m => -1 ≤ m ∧ m ≤ (rs.length : Int) + 2) ?_ (o + 1) (by omega)
    intro m hm ih
    have h47 := h47 m
    have h62m := h62m m
    by_cases hin : 1 ≤ m ∧ m ≤ (rs.length : Int)
    · have d1 : (decide (1 ≤ m) && decide (m ≤ (rs.length : Int))) = true := by simp; omega
      have w1 : IntKind.wrap .i64 (m - 1) = ((m - 1).toNat : Int) := by rw [wrap_i64 (by omega) (by omega)]; omega
      have w2 : IntKind.wrap .i64 (m + 1) = m + 1 := wrap_i64 (by omega) (by omega)
      obtain ⟨i1, i2, i4, i5⟩ := idx (i := (m - 1).toNat) (n := rs.length) (by omega) (by omega)
      have i3 := map_get encR rs (m - 1).toNat (false, bs []) (by omega)
      simp only [encR] at i3
      have hih := ih (m + 1) (by omega) (by have := mu_step (b := 1) hb hin; omega)
      simp only [List.replicate, List.cons_append, List.nil_append] at hih
      rw [hf1 hb hin]
      rw [d1] at h62m
      unfold isThere at h47
      rw [d1, Bool.true_and] at h47
      cases hd : isDel rs m with
      | true =>
        rw [hd] at h47
        simp only [if_true]
        simp (config := {decide := true, contextual := true, maxSteps := 3000000}) only [h62m, h47, w1, w2, i1, i2, i3, i4, List.length_map, List.replicate, ↓simPre, simPost, Bool.not_not, Bool.not_false, Bool.not_true, Bool.false_eq_true, reduceCtorEq, ↓reduceIte, decide_true, decide_false, splice, results, resT, resTs, AV.key, Bool.and_true, Bool.true_and, and_true, true_and, and_self, List.flatMap_nil, List.flatMap_cons, List.append_nil, List.nil_append, List.cons_append, List.map_cons, List.map_nil, List.all_cons, List.all_nil, List.length_cons, List.length_nil, Nat.reduceAdd, Nat.reduceLT, Nat.reduceLeDiff, Nat.reduceEqDiff, Nat.reduceSub, Nat.zero_add, Nat.add_zero, List.drop_succ_cons, List.drop_zero, List.take_succ_cons, List.take_zero]
        exact hih
      | false =>
        rw [hd] at h47
        have m0 : (m == 0) = false := by simp; omega
        simp only [Bool.false_eq_true, if_false, stepB, m0]
        simp (config := {decide := true, contextual := true, maxSteps := 3000000}) only [h62m, h47, w1, w2, i1, i2, i3, i4, List.length_map, List.replicate, ↓simPre, simPost, Bool.not_not, Bool.not_false, Bool.not_true, Bool.false_eq_true, reduceCtorEq, ↓reduceIte, decide_true, decide_false, splice, results, resT, resTs, AV.key, Bool.and_true, Bool.true_and, and_true, true_and, and_self, List.flatMap_nil, List.flatMap_cons, List.append_nil, List.nil_append, List.cons_append, List.map_cons, List.map_nil, List.all_cons, List.all_nil, List.length_cons, List.length_nil, Nat.reduceAdd, Nat.reduceLT, Nat.reduceLeDiff, Nat.reduceEqDiff, Nat.reduceSub, Nat.zero_add, Nat.add_zero, List.drop_succ_cons, List.drop_zero, List.take_succ_cons, List.take_zero]
    · rw [hf0 hin]
      have m0 : ((0 : Int) == 0) = true := rfl
      simp only [stepB, m0, if_true]
      have d1 : (decide (1 ≤ m) && decide (m ≤ (rs.length : Int))) = false := by rw [Bool.and_eq_false_iff]; simp; omega
      rw [d1] at h62m
      simp (config := {decide := true, contextual := true, maxSteps := 3000000}) only [h62m, List.length_map, List.replicate, ↓simPre, simPost, Bool.not_not, Bool.not_false, Bool.not_true, Bool.false_eq_true, reduceCtorEq, ↓reduceIte, decide_true, decide_false, splice, results, resT, resTs, AV.key, Bool.and_true, Bool.true_and, and_true, true_and, and_self, List.flatMap_nil, List.flatMap_cons, List.append_nil, List.nil_append, List.cons_append, List.map_cons, List.map_nil, List.all_cons, List.all_nil, List.length_cons, List.length_nil, Nat.reduceAdd, Nat.reduceLT, Nat.reduceLeDiff, Nat.reduceEqDiff, Nat.reduceSub, Nat.zero_add, Nat.add_zero, List.drop_succ_cons, List.drop_zero, List.take_succ_cons, List.take_zero]
  | true =>
    have w0 : IntKind.wrap .i64 (o + (-1)) = o + (-1) := wrap_i64 (by omega) (by omega)
    have w3 : IntKind.wrap .i64 (1 - IntKind.wrap .i64 (2 * 1)) = (-1) := rfl
    have e : byOf true = (-1) := rfl
    have hb : ((-1) : Int) = 1 ∨ ((-1) : Int) = -1 := by omega
    simp only [Bool.false_eq_true, if_false, if_true] at h48
    rw [e]
    (refine run_fn T64 ⟨rfl, by decide⟩ ?_; rw [start64])
    simp (config := {decide := true, contextual := true, maxSteps := 3000000}) only [F64, h45, hE', w00, h62, h48, w0, w3, List.length_map, List.replicate, ↓simPre, simPost, Bool.not_not, Bool.not_false, Bool.not_true, Bool.false_eq_true, reduceCtorEq, ↓reduceIte, decide_true, decide_false, splice, results, resT, resTs, AV.key, Bool.and_true, Bool.true_and, and_true, true_and, and_self, List.flatMap_nil, List.flatMap_cons, List.append_nil, List.nil_append, List.cons_append, List.map_cons, List.map_nil, List.all_cons, List.all_nil, List.length_cons, List.length_nil, Nat.reduceAdd, Nat.reduceLT, Nat.reduceLeDiff, Nat.reduceEqDiff, Nat.reduceSub, Nat.zero_add, Nat.add_zero, List.drop_succ_cons, List.drop_zero, List.take_succ_cons, List.take_zero]
    refine headC_ind (σ := Int) (fun m => ⟨[.unk, .unk, .unk, .ptr 3 0 0, .unk, .ptr 5 0 0, .ptr 6 0 0, .unk, .int .i64 (-1), .int .i64 m] ++ List.replicate 48 .unk,
        [⟨0, .dead⟩, ⟨0, .dead⟩, ⟨0, .dead⟩, ⟨0, .box [.str fn, .str n, .sl (l.map encF), .sl (ks.map encK), .bool u, .sl (rs.map encR)]⟩, ⟨0, .dead⟩, ⟨0, .box [.bool true, .bool up]⟩, ⟨0, .box [.int .i64 0, .bool false, .str (bs []), .int .i64 0]⟩] ++ List.replicate 51 ⟨0, .dead⟩⟩)
      (fun m => some (stepB rs up (find rs (-1) m))) (fun m => mu rs (-1) m) (fun m => -1 ≤ m ∧ m ≤ (rs.length : Int) + 2) ?_ (o + (-1)) (by omega)
    intro m hm ih
    have h47 := h47 m
    have h62m := h62m m
    by_cases hin : 1 ≤ m ∧ m ≤ (rs.length : Int)
    · have d1 : (decide (1 ≤ m) && decide (m ≤ (rs.length : Int))) = true := by simp; omega
      have w1 : IntKind.wrap .i64 (m - 1) = ((m - 1).toNat : Int) := by rw [wrap_i64 (by omega) (by omega)]; omega
      have w2 : IntKind.wrap .i64 (m + (-1)) = m + (-1) := wrap_i64 (by omega) (by omega)
      obtain ⟨i1, i2, i4, i5⟩ := idx (i := (m - 1).toNat) (n := rs.length) (by omega) (by omega)
      have i3 := map_get encR rs (m - 1).toNat (false, bs []) (by omega)
      simp only [encR] at i3
      have hih := ih (m + (-1)) (by omega) (by have := mu_step (b := (-1)) hb hin; omega)
      simp only [List.replicate, List.cons_append, List.nil_append] at hih
      rw [hf1 hb hin]
      rw [d1] at h62m
      unfold isThere at h47
      rw [d1, Bool.true_and] at h47
      cases hd : isDel rs m with
      | true =>
        rw [hd] at h47
        simp only [if_true]
        simp (config := {decide := true, contextual := true, maxSteps := 3000000}) only [h62m, h47, w1, w2, i1, i2, i3, i4, List.length_map, List.replicate, ↓simPre, simPost, Bool.not_not, Bool.not_false, Bool.not_true, Bool.false_eq_true, reduceCtorEq, ↓reduceIte, decide_true, decide_false, splice, results, resT, resTs, AV.key, Bool.and_true, Bool.true_and, and_true, true_and, and_self, List.flatMap_nil, List.flatMap_cons, List.append_nil, List.nil_append, List.cons_append, List.map_cons, List.map_nil, List.all_cons, List.all_nil, List.length_cons, List.length_nil, Nat.reduceAdd, Nat.reduceLT, Nat.reduceLeDiff, Nat.reduceEqDiff, Nat.reduceSub, Nat.zero_add, Nat.add_zero, List.drop_succ_cons, List.drop_zero, List.take_succ_cons, List.take_zero]
        exact hih
      | false =>
        rw [hd] at h47
        have m0 : (m == 0) = false := by simp; omega
        simp only [Bool.false_eq_true, if_false, stepB, m0]
        simp (config := {decide := true, contextual := true, maxSteps := 3000000}) only [h62m, h47, w1, w2, i1, i2, i3, i4, List.length_map, List.replicate, ↓simPre, simPost, Bool.not_not, Bool.not_false, Bool.not_true, Bool.false_eq_true, reduceCtorEq, ↓reduceIte, decide_true, decide_false, splice, results, resT, resTs, AV.key, Bool.and_true, Bool.true_and, and_true, true_and, and_self, List.flatMap_nil, List.flatMap_cons, List.append_nil, List.nil_append, List.cons_append, List.map_cons, List.map_nil, List.all_cons, List.all_nil, List.length_cons, List.length_nil, Nat.reduceAdd, Nat.reduceLT, Nat.reduceLeDiff, Nat.reduceEqDiff, Nat.reduceSub, Nat.zero_add, Nat.add_zero, List.drop_succ_cons, List.drop_zero, List.take_succ_cons, List.take_zero]
    · rw [hf0 hin]
      have m0 : ((0 : Int) == 0) = true := rfl
      simp only [stepB, m0, if_true]
      have d1 : (decide (1 ≤ m) && decide (m ≤ (rs.length : Int))) = false := by rw [Bool.and_eq_false_iff]; simp; omega
      rw [d1] at h62m
      simp (config := {decide := true, contextual := true, maxSteps := 3000000}) only [h62m, List.length_map, List.replicate, ↓simPre, simPost, Bool.not_not, Bool.not_false, Bool.not_true, Bool.false_eq_true, reduceCtorEq, ↓reduceIte, decide_true, decide_false, splice, results, resT, resTs, AV.key, Bool.and_true, Bool.true_and, and_true, true_and, and_self, List.flatMap_nil, List.flatMap_cons, List.append_nil, List.nil_append, List.cons_append, List.map_cons, List.map_nil, List.all_cons, List.all_nil, List.length_cons, List.length_nil, Nat.reduceAdd, Nat.reduceLT, Nat.reduceLeDiff, Nat.reduceEqDiff, Nat.reduceSub, Nat.zero_add, Nat.add_zero, List.drop_succ_cons, List.drop_zero, List.take_succ_cons, List.take_zero]
end
end Go.Bv
