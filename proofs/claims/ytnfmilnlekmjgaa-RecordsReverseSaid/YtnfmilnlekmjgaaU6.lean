/- BY VALUE, chapter 26: CheckChange, Changed. -/
import Derived.Test.YtnfmilnlekmjgaaU5
set_option linter.unusedSimpArgs false
set_option linter.unusedVariables false
namespace Go.Bv
variable {S : RT}
attribute [local congr] ite_congr congr_bindOps congr_bindC congr_andThen congr_orNone congr_onBool congr_onEff congr_headC
set_option maxRecDepth 100000
set_option maxHeartbeats 40000000
def formE (c : Ch) : Bool := (c.kind == 0 && !(c.before.toList == (bs []).toList)) || (c.kind == 2 && !(c.after.toList == (bs []).toList))
def headE (E : Int) (fn : ByteArray) (rs : List (Bool × ByteArray)) (c : Ch) : Int :=
  first [E, cond (!(c.file.toList == fn.toList)) 11, cond (decide (c.kind < 0) || decide (c.kind ≥ 3)) 4, cond (decide (c.rrn < 1) || decide (c.rrn > (if c.kind = 0 then (rs.length : Int) + 1 else rs.length))) 3, cond (formE c) 5]
def changeE (E : Int) (fn n : ByteArray) (l : List Fd) (rs : List (Bool × ByteArray)) (c : Ch) : Int :=
  if (headE E fn rs c != 0) = true then headE E fn rs c else if (placeErr rs c != 0 || c.kind == 2) = true then placeErr rs c else (bytesErr n l c.after).2
theorem first_zero' : ∀ (l : List Int), first l = 0 → ∀ x ∈ l, x = 0
  | [], _, x, hx => by simp at hx
  | a :: l, h, x, hx => by
    by_cases ha : a = 0
    · subst ha
      rcases List.mem_cons.1 hx with rfl | hx
      · rfl
      · exact first_zero' l (by simpa [first] using h) x hx
    · simp [first, ha] at h
theorem cond_zero' {b : Bool} {x : Int} (hx : x ≠ 0) (h : cond b x = 0) : b = false := by
  cases b with
  | false => rfl
  | true => exact absurd h hx
theorem head_place {E : Int} {fn : ByteArray} {rs : List (Bool × ByteArray)} {c : Ch} (h : headE E fn rs c = 0) : E = 0 ∧ 1 ≤ c.rrn ∧ c.rrn ≤ (rs.length : Int) + 1 ∧ (c.kind ≠ 0 → c.rrn ≤ (rs.length : Int)) := by
  have h1 := first_zero' _ h E (by simp)
  have h2 := first_zero' _ h (cond (decide (c.rrn < 1) || decide (c.rrn > (if c.kind = 0 then (rs.length : Int) + 1 else rs.length))) 3) (by simp)
  have h3 := cond_zero' (by decide) h2
  simp only [Bool.or_eq_false_iff, decide_eq_false_iff_not] at h3
  refine ⟨h1, by omega, ?_, ?_⟩
  · have := h3.2
    split at this <;> omega
  · intro hk
    have := h3.2
    rw [if_neg hk] at this
    omega
theorem run80_5 (a b c d e : Int) : run T S 80 [.sl [[.int .i64 a], [.int .i64 b], [.int .i64 c], [.int .i64 d], [.int .i64 e]]] = some (.int .i64 (first [a, b, c, d, e])) := run80 [a, b, c, d, e] (by simp)
theorem run60 (hS : Told28 S) (fn n : ByteArray) (l : List Fd) (ks : List (ByteArray × Bool)) (u : Bool) (rs : List (Bool × ByteArray)) (c : Ch) (h : Small fn n l ks rs) (ha : c.after.size ≤ 1000000) :
    run T S 60 [.agg (tabC fn n l ks u rs), .agg (encC c)] = some (.int .i64 (changeE (checkTable fn n l ks rs).2 fn n l rs c)) := by
  have h101 := run101 hS fn n l ks u rs h
  have h85 := run85 (S := S) n l c.after h.qsh ha
  have h114 := fun a b => run114 (S := S) fn n l ks u rs c (by have := h.qrs; omega) a b
  have hrs := h.qrs
  have w0 : IntKind.wrap .i64 ((rs.length : Int) + 1) = (rs.length : Int) + 1 := wrap_i64 (by omega) (by omega)
  have hp := @head_place (checkTable fn n l ks rs).2 fn rs c
  unfold changeE
  generalize hH : headE (checkTable fn n l ks rs).2 fn rs c = H at *
  unfold headE formE at hH
  generalize hP : placeErr rs c = P at *
  obtain ⟨cf, ck, cr, cb, ca⟩ := c
  simp only [tabC, encC] at h101 h114 hH hp h85 ⊢
  generalize (checkTable fn n l ks rs).2 = E at *
  generalize (bytesErr n l ca).2 = X at *
  obtain ⟨nb, hb⟩ : ∃ nb, (cb.toList == (bs []).toList) = !nb := ⟨!(cb.toList == (bs []).toList), by simp⟩
  obtain ⟨na, hc⟩ : ∃ na, (ca.toList == (bs []).toList) = !na := ⟨!(ca.toList == (bs []).toList), by simp⟩
  simp only [hb, hc, Bool.not_not] at hH
  by_cases k0 : ck = 0
  · have k1 : (ck == 0) = true := by simpa using k0
    have k2 : (ck == 2) = false := by simp; omega
    rw [if_pos k0] at hH
    simp only [k1, k2, Bool.true_and, Bool.false_and, Bool.or_false] at hH
    by_cases hz : H = 0
    · obtain ⟨_, p1, p2, _⟩ := hp hz
      have h114 := h114 p1 p2
      have hz' : (H != 0) = false := by simpa using hz
      simp only [hz', k2, Bool.or_false]
      (refine run_fn T60 ⟨rfl, by decide⟩ ?_; rw [start60])
      simp (config := {decide := true, contextual := true, maxSteps := 3000000}) only [F60, h101, h114, h85, hH, hb, hc, k1, k2, hz', w0, run81, run80_5, Bool.not_not, Bool.or_false, List.length_map, List.replicate, ↓simPre, simPost, Bool.not_not, Bool.not_false, Bool.not_true, Bool.false_eq_true, reduceCtorEq, ↓reduceIte, decide_true, decide_false, splice, results, resT, resTs, AV.key, Bool.and_true, Bool.true_and, and_true, true_and, and_self, List.flatMap_nil, List.flatMap_cons, List.append_nil, List.nil_append, List.cons_append, List.map_cons, List.map_nil, List.all_cons, List.all_nil, List.length_cons, List.length_nil, Nat.reduceAdd, Nat.reduceLT, Nat.reduceLeDiff, Nat.reduceEqDiff, Nat.reduceSub, Nat.zero_add, Nat.add_zero, List.drop_succ_cons, List.drop_zero, List.take_succ_cons, List.take_zero]
      split <;> rfl
    · have hz' : (H != 0) = true := by simpa using hz
      simp only [hz']
      (refine run_fn T60 ⟨rfl, by decide⟩ ?_; rw [start60])
      simp (config := {decide := true, contextual := true, maxSteps := 3000000}) only [F60, h101, h85, hH, hb, hc, k1, k2, hz', w0, run81, run80_5, Bool.not_not, Bool.or_false, List.length_map, List.replicate, ↓simPre, simPost, Bool.not_not, Bool.not_false, Bool.not_true, Bool.false_eq_true, reduceCtorEq, ↓reduceIte, decide_true, decide_false, splice, results, resT, resTs, AV.key, Bool.and_true, Bool.true_and, and_true, true_and, and_self, List.flatMap_nil, List.flatMap_cons, List.append_nil, List.nil_append, List.cons_append, List.map_cons, List.map_nil, List.all_cons, List.all_nil, List.length_cons, List.length_nil, Nat.reduceAdd, Nat.reduceLT, Nat.reduceLeDiff, Nat.reduceEqDiff, Nat.reduceSub, Nat.zero_add, Nat.add_zero, List.drop_succ_cons, List.drop_zero, List.take_succ_cons, List.take_zero]
  · have k1 : (ck == 0) = false := by simpa using k0
    rw [if_neg k0] at hH
    simp only [k1, Bool.false_and, Bool.false_or] at hH
    by_cases hz : H = 0
    · obtain ⟨_, p1, p2, _⟩ := hp hz
      have h114 := h114 p1 p2
      have hz' : (H != 0) = false := by simpa using hz
      simp only [hz']
      (refine run_fn T60 ⟨rfl, by decide⟩ ?_; rw [start60])
      simp (config := {decide := true, contextual := true, maxSteps := 3000000}) only [F60, h101, h114, h85, hH, hb, hc, k1, hz', w0, run81, run80_5, Bool.not_not, Bool.or_false, List.length_map, List.replicate, ↓simPre, simPost, Bool.not_not, Bool.not_false, Bool.not_true, Bool.false_eq_true, reduceCtorEq, ↓reduceIte, decide_true, decide_false, splice, results, resT, resTs, AV.key, Bool.and_true, Bool.true_and, and_true, true_and, and_self, List.flatMap_nil, List.flatMap_cons, List.append_nil, List.nil_append, List.cons_append, List.map_cons, List.map_nil, List.all_cons, List.all_nil, List.length_cons, List.length_nil, Nat.reduceAdd, Nat.reduceLT, Nat.reduceLeDiff, Nat.reduceEqDiff, Nat.reduceSub, Nat.zero_add, Nat.add_zero, List.drop_succ_cons, List.drop_zero, List.take_succ_cons, List.take_zero]
      split <;> rfl
    · have hz' : (H != 0) = true := by simpa using hz
      simp only [hz']
      (refine run_fn T60 ⟨rfl, by decide⟩ ?_; rw [start60])
      simp (config := {decide := true, contextual := true, maxSteps := 3000000}) only [F60, h101, h85, hH, hb, hc, k1, hz', w0, run81, run80_5, Bool.not_not, Bool.or_false, List.length_map, List.replicate, ↓simPre, simPost, Bool.not_not, Bool.not_false, Bool.not_true, Bool.false_eq_true, reduceCtorEq, ↓reduceIte, decide_true, decide_false, splice, results, resT, resTs, AV.key, Bool.and_true, Bool.true_and, and_true, true_and, and_self, List.flatMap_nil, List.flatMap_cons, List.append_nil, List.nil_append, List.cons_append, List.map_cons, List.map_nil, List.all_cons, List.all_nil, List.length_cons, List.length_nil, Nat.reduceAdd, Nat.reduceLT, Nat.reduceLeDiff, Nat.reduceEqDiff, Nat.reduceSub, Nat.zero_add, Nat.add_zero, List.drop_succ_cons, List.drop_zero, List.take_succ_cons, List.take_zero]
end Go.Bv
