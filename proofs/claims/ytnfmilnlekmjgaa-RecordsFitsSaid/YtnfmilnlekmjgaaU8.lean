/- BY VALUE, chapter 26: Changed, and RecordsApart's function. -/
import Derived.Test.YtnfmilnlekmjgaaU5
import Derived.Test.YtnfmilnlekmjgaaZ3
import Derived.Test.YtnfmilnlekmjgaaW5
import Derived.Test.YtnfmilnlekmjgaaU9a
set_option linter.unusedSimpArgs false
set_option linter.unusedVariables false
namespace Go.Bv
variable {S : RT}
attribute [local congr] ite_congr congr_bindOps congr_bindC congr_andThen congr_orNone congr_onBool congr_onEff congr_headC
set_option maxRecDepth 100000
set_option maxHeartbeats 40000000
def changedA (fn n : ByteArray) (l : List Fd) (ks : List (ByteArray × Bool)) (u : Bool) (rs : List (Bool × ByteArray)) (c : Ch) : AV :=
  if (changeE (checkTable fn n l ks rs).2 fn n l rs c != 0) = true then .tup [.agg noTab, .int .i64 (changeE (checkTable fn n l ks rs).2 fn n l rs c)] else .tup [.agg (tabC fn n l ks u (put rs c.rrn (recOf c))), .int .i64 0]
theorem run58 (h28 : Told28 S) (h138 : Told138 S) (fn n : ByteArray) (l : List Fd) (ks : List (ByteArray × Bool)) (u : Bool) (rs : List (Bool × ByteArray)) (c : Ch) (h : Small fn n l ks rs) (ha : c.after.size ≤ 1000000) :
    run T S 58 [.agg (tabC fn n l ks u rs), .agg (encC c)] = some (changedA fn n l ks u rs c) := by
  have h60 := run60 h28 fn n l ks u rs c h ha
  have h107 := fun h1 => run107 h138 fn n l ks u rs c.rrn (recOf c) (by have := h.qrs; omega) h1
  have hp : changeE (checkTable fn n l ks rs).2 fn n l rs c = 0 → 1 ≤ c.rrn := fun hh => (head_place (change_zero hh).1).2.1
  unfold changedA
  generalize changeE (checkTable fn n l ks rs).2 fn n l rs c = E at *
  obtain ⟨cf, ck, cr, cb, ca⟩ := c
  simp only [tabC, encC, recOf, encR] at h60 h107 hp ⊢
  by_cases hE : E = 0
  · have hE' : (E != 0) = false := by simpa using hE
    have h107 := h107 (hp hE)
    simp only [hE']
    rw [if_neg (by simp)]
    (refine run_fn T58 ⟨rfl, by decide⟩ ?_; rw [start58])
    simp (config := {decide := true, contextual := true, maxSteps := 3000000}) only [F58, h60, h107, hE', List.replicate, ↓simPre, simPost, Bool.not_not, Bool.not_false, Bool.not_true, Bool.false_eq_true, reduceCtorEq, ↓reduceIte, decide_true, decide_false, splice, results, resT, resTs, AV.key, Bool.and_true, Bool.true_and, and_true, true_and, and_self, List.flatMap_nil, List.flatMap_cons, List.append_nil, List.nil_append, List.cons_append, List.map_cons, List.map_nil, List.all_cons, List.all_nil, List.length_cons, List.length_nil, Nat.reduceAdd, Nat.reduceLT, Nat.reduceLeDiff, Nat.reduceEqDiff, Nat.reduceSub, Nat.zero_add, Nat.add_zero, List.drop_succ_cons, List.drop_zero, List.take_succ_cons, List.take_zero]
  · have hE' : (E != 0) = true := by simpa using hE
    simp only [hE', if_true]
    (refine run_fn T58 ⟨rfl, by decide⟩ ?_; rw [start58])
    simp (config := {decide := true, contextual := true, maxSteps := 3000000}) only [F58, h60, hE', List.replicate, ↓simPre, simPost, Bool.not_not, Bool.not_false, Bool.not_true, Bool.false_eq_true, reduceCtorEq, ↓reduceIte, decide_true, decide_false, splice, results, resT, resTs, AV.key, Bool.and_true, Bool.true_and, and_true, true_and, and_self, List.flatMap_nil, List.flatMap_cons, List.append_nil, List.nil_append, List.cons_append, List.map_cons, List.map_nil, List.all_cons, List.all_nil, List.length_cons, List.length_nil, Nat.reduceAdd, Nat.reduceLT, Nat.reduceLeDiff, Nat.reduceEqDiff, Nat.reduceSub, Nat.zero_add, Nat.add_zero, List.drop_succ_cons, List.drop_zero, List.take_succ_cons, List.take_zero]
end Go.Bv

/- BY VALUE, chapter 26: small changes. -/
set_option linter.unusedSimpArgs false
set_option linter.unusedVariables false
namespace Go.Bv
attribute [local congr] ite_congr congr_bindOps congr_bindC congr_andThen congr_orNone congr_onBool congr_onEff congr_headC
set_option maxRecDepth 100000
set_option maxHeartbeats 40000000
theorem small_put {fn n : ByteArray} {l : List Fd} {ks : List (ByteArray × Bool)} {rs : List (Bool × ByteArray)} {c : Ch} (h : fewTable fn n l ks rs = true) (hc : c.after.size ≤ 700) : Small fn n l ks (put rs c.rrn (recOf c)) := by
  obtain ⟨f1, f2, f3, f4, f5⟩ := few_table h
  refine ⟨by omega, f2, by omega, ?_, fun r hr => ?_⟩
  · unfold put; split <;> simp <;> omega
  · rcases put_mem hr with hr | rfl
    · have := f5 r hr; omega
    · simp only [recOf]; omega
theorem few_change {c : Ch} (h : fewChange c = true) : c.before.size ≤ 700 ∧ c.after.size ≤ 700 := by
  unfold fewChange at h
  simp only [Bool.and_eq_true, decide_eq_true_eq] at h
  omega
end Go.Bv

/- BY VALUE, chapter 26: arguments opened: changes. -/
set_option linter.unusedSimpArgs false
set_option linter.unusedVariables false
namespace Go.Bv
abbrev shCh : List Sh := [.str, .int .i64, .int .i64, .str, .str]
theorem fits_change {l : List AV} (h : l.length = 5 ∧ ∀ j, j < 5 → Fits (shCh.getD j .bool) (l.getD j .unk)) : ∃ c : Ch, l = encC c := by
  obtain ⟨h2, hf⟩ := h
  match l, h2, hf with
  | [a, b, c, d, e], _, hf =>
    obtain ⟨cf, rfl, _⟩ := fits_str (hf 0 (by omega))
    obtain ⟨ck, rfl⟩ := fits_i64 (hf 1 (by omega))
    obtain ⟨cr, rfl⟩ := fits_i64 (hf 2 (by omega))
    obtain ⟨cb, rfl, _⟩ := fits_str (hf 3 (by omega))
    obtain ⟨ca, rfl, _⟩ := fits_str (hf 4 (by omega))
    exact ⟨⟨cf, ck, cr, cb, ca⟩, rfl⟩
end Go.Bv
