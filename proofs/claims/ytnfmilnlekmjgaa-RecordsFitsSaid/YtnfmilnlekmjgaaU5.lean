/- BY VALUE, chapter 26: fewChange, placeErr, CheckChange, Changed. -/
import Derived.Test.YtnfmilnlekmjgaaU3
set_option linter.unusedSimpArgs false
set_option linter.unusedVariables false
namespace Go.Bv
variable {S : RT}
attribute [local congr] ite_congr congr_bindOps congr_bindC congr_andThen congr_orNone congr_onBool congr_onEff congr_headC
set_option maxRecDepth 100000
set_option maxHeartbeats 40000000
/-- A change. -/
structure Ch where
  file : ByteArray
  kind : Int
  rrn : Int
  before : ByteArray
  after : ByteArray
abbrev encC (c : Ch) : List AV := [.str c.file, .int .i64 c.kind, .int .i64 c.rrn, .str c.before, .str c.after]
def fewChange (c : Ch) : Bool := decide ((c.file.size : Int) ≤ 100) && (decide ((c.before.size : Int) ≤ 700) && decide ((c.after.size : Int) ≤ 700))
theorem run57 (c : Ch) : run T S 57 [.agg (encC c)] = some (.bool (fewChange c)) := by
  unfold fewChange
  simp only [encC]
  by_cases h1 : (c.file.size : Int) ≤ 100
  · by_cases h2 : (c.before.size : Int) ≤ 700
    · have d1 : decide ((c.file.size : Int) ≤ 100) = true := by simpa using h1
      have d2 : decide ((c.before.size : Int) ≤ 700) = true := by simpa using h2
      (refine run_fn T57 ⟨rfl, by decide⟩ ?_; rw [start57])
      simp (config := {decide := true, contextual := true, maxSteps := 3000000}) only [F57, d1, d2, List.replicate, ↓simPre, simPost, Bool.not_not, Bool.not_false, Bool.not_true, Bool.false_eq_true, reduceCtorEq, ↓reduceIte, decide_true, decide_false, splice, results, resT, resTs, AV.key, Bool.and_true, Bool.true_and, and_true, true_and, and_self, List.flatMap_nil, List.flatMap_cons, List.append_nil, List.nil_append, List.cons_append, List.map_cons, List.map_nil, List.all_cons, List.all_nil, List.length_cons, List.length_nil, Nat.reduceAdd, Nat.reduceLT, Nat.reduceLeDiff, Nat.reduceEqDiff, Nat.reduceSub, Nat.zero_add, Nat.add_zero, List.drop_succ_cons, List.drop_zero, List.take_succ_cons, List.take_zero]
    · have d1 : decide ((c.file.size : Int) ≤ 100) = true := by simpa using h1
      have d2 : decide ((c.before.size : Int) ≤ 700) = false := by simpa using h2
      (refine run_fn T57 ⟨rfl, by decide⟩ ?_; rw [start57])
      simp (config := {decide := true, contextual := true, maxSteps := 3000000}) only [F57, d1, d2, List.replicate, ↓simPre, simPost, Bool.not_not, Bool.not_false, Bool.not_true, Bool.false_eq_true, reduceCtorEq, ↓reduceIte, decide_true, decide_false, splice, results, resT, resTs, AV.key, Bool.and_true, Bool.true_and, and_true, true_and, and_self, List.flatMap_nil, List.flatMap_cons, List.append_nil, List.nil_append, List.cons_append, List.map_cons, List.map_nil, List.all_cons, List.all_nil, List.length_cons, List.length_nil, Nat.reduceAdd, Nat.reduceLT, Nat.reduceLeDiff, Nat.reduceEqDiff, Nat.reduceSub, Nat.zero_add, Nat.add_zero, List.drop_succ_cons, List.drop_zero, List.take_succ_cons, List.take_zero]
      rfl
  · have d1 : decide ((c.file.size : Int) ≤ 100) = false := by simpa using h1
    (refine run_fn T57 ⟨rfl, by decide⟩ ?_; rw [start57])
    simp (config := {decide := true, contextual := true, maxSteps := 3000000}) only [F57, d1, List.replicate, ↓simPre, simPost, Bool.not_not, Bool.not_false, Bool.not_true, Bool.false_eq_true, reduceCtorEq, ↓reduceIte, decide_true, decide_false, splice, results, resT, resTs, AV.key, Bool.and_true, Bool.true_and, and_true, true_and, and_self, List.flatMap_nil, List.flatMap_cons, List.append_nil, List.nil_append, List.cons_append, List.map_cons, List.map_nil, List.all_cons, List.all_nil, List.length_cons, List.length_nil, Nat.reduceAdd, Nat.reduceLT, Nat.reduceLeDiff, Nat.reduceEqDiff, Nat.reduceSub, Nat.zero_add, Nat.add_zero, List.drop_succ_cons, List.drop_zero, List.take_succ_cons, List.take_zero]
    rfl
def placeErr (rs : List (Bool × ByteArray)) (c : Ch) : Int :=
  let del : Bool := decide (c.rrn = (rs.length : Int) + 1) || isDel rs c.rrn
  if c.kind = 0 then first [cond (!del) 12, cond (decide (c.rrn > 60)) 30]
  else if del = true then 11 else cond (!((rs.getD (c.rrn - 1).toNat (false, bs [])).2.toList == c.before.toList)) 15
theorem run114 (fn n : ByteArray) (l : List Fd) (ks : List (ByteArray × Bool)) (u : Bool) (rs : List (Bool × ByteArray)) (c : Ch) (hr : rs.length ≤ 100000) (h1 : 1 ≤ c.rrn) (h2 : c.rrn ≤ (rs.length : Int) + 1) :
    run T S 114 [.agg (tabC fn n l ks u rs), .agg (encC c)] = some (.int .i64 (placeErr rs c)) := by
  obtain ⟨cf, ck, cr, cb, ca⟩ := c
  simp only at h1 h2
  unfold placeErr
  simp only [tabC, encC]
  have w0 : IntKind.wrap .i64 ((rs.length : Int) + 1) = (rs.length : Int) + 1 := wrap_i64 (by omega) (by omega)
  by_cases hb : cr = (rs.length : Int) + 1
  · have d0 : (cr == (rs.length : Int) + 1) = true := by simpa using hb
    have d00 : decide (cr = (rs.length : Int) + 1) = true := by simpa using hb
    simp only [d00, Bool.true_or]
    by_cases hk : ck = 0
    · have k1 : (ck == 0) = true := by simpa using hk
      (refine run_fn T114 ⟨rfl, by decide⟩ ?_; rw [start114])
      simp (config := {decide := true, contextual := true, maxSteps := 3000000}) only [F114, w0, d0, k1, run81, run80_2, List.length_map, List.replicate, ↓simPre, simPost, Bool.not_not, Bool.not_false, Bool.not_true, Bool.false_eq_true, reduceCtorEq, ↓reduceIte, decide_true, decide_false, splice, results, resT, resTs, AV.key, Bool.and_true, Bool.true_and, and_true, true_and, and_self, List.flatMap_nil, List.flatMap_cons, List.append_nil, List.nil_append, List.cons_append, List.map_cons, List.map_nil, List.all_cons, List.all_nil, List.length_cons, List.length_nil, Nat.reduceAdd, Nat.reduceLT, Nat.reduceLeDiff, Nat.reduceEqDiff, Nat.reduceSub, Nat.zero_add, Nat.add_zero, List.drop_succ_cons, List.drop_zero, List.take_succ_cons, List.take_zero]
      simp [hk]
    · have k1 : (ck == 0) = false := by simpa using hk
      (refine run_fn T114 ⟨rfl, by decide⟩ ?_; rw [start114])
      simp (config := {decide := true, contextual := true, maxSteps := 3000000}) only [F114, w0, d0, k1, run81, run80_2, List.length_map, List.replicate, ↓simPre, simPost, Bool.not_not, Bool.not_false, Bool.not_true, Bool.false_eq_true, reduceCtorEq, ↓reduceIte, decide_true, decide_false, splice, results, resT, resTs, AV.key, Bool.and_true, Bool.true_and, and_true, true_and, and_self, List.flatMap_nil, List.flatMap_cons, List.append_nil, List.nil_append, List.cons_append, List.map_cons, List.map_nil, List.all_cons, List.all_nil, List.length_cons, List.length_nil, Nat.reduceAdd, Nat.reduceLT, Nat.reduceLeDiff, Nat.reduceEqDiff, Nat.reduceSub, Nat.zero_add, Nat.add_zero, List.drop_succ_cons, List.drop_zero, List.take_succ_cons, List.take_zero]
      simp [hk]
  · have d0 : (cr == (rs.length : Int) + 1) = false := by simpa using hb
    have d00 : decide (cr = (rs.length : Int) + 1) = false := by simpa using hb
    have w1 : IntKind.wrap .i64 (cr - 1) = ((cr - 1).toNat : Int) := by rw [wrap_i64 (by omega) (by omega)]; omega
    obtain ⟨i1, i2, i4, i5⟩ := idx (i := (cr - 1).toNat) (n := rs.length) (by omega) (by omega)
    have i3 := map_get encR rs (cr - 1).toNat (false, bs []) (by omega)
    simp only [encR] at i3
    simp only [d00, Bool.false_or, isDel]
    by_cases hk : ck = 0
    · have k1 : (ck == 0) = true := by simpa using hk
      (refine run_fn T114 ⟨rfl, by decide⟩ ?_; rw [start114])
      simp (config := {decide := true, contextual := true, maxSteps := 3000000}) only [F114, w0, w1, d0, k1, i1, i2, i3, i4, run81, run80_2, List.length_map, List.replicate, ↓simPre, simPost, Bool.not_not, Bool.not_false, Bool.not_true, Bool.false_eq_true, reduceCtorEq, ↓reduceIte, decide_true, decide_false, splice, results, resT, resTs, AV.key, Bool.and_true, Bool.true_and, and_true, true_and, and_self, List.flatMap_nil, List.flatMap_cons, List.append_nil, List.nil_append, List.cons_append, List.map_cons, List.map_nil, List.all_cons, List.all_nil, List.length_cons, List.length_nil, Nat.reduceAdd, Nat.reduceLT, Nat.reduceLeDiff, Nat.reduceEqDiff, Nat.reduceSub, Nat.zero_add, Nat.add_zero, List.drop_succ_cons, List.drop_zero, List.take_succ_cons, List.take_zero]
      simp [hk]
    · have k1 : (ck == 0) = false := by simpa using hk
      rw [if_neg hk]
      by_cases hd : (rs.getD (cr - 1).toNat (false, bs [])).1 = true
      · (refine run_fn T114 ⟨rfl, by decide⟩ ?_; rw [start114])
        simp (config := {decide := true, contextual := true, maxSteps := 3000000}) only [F114, w0, w1, d0, k1, i1, i2, i3, i4, hd, run81, run80_2, List.length_map, List.replicate, ↓simPre, simPost, Bool.not_not, Bool.not_false, Bool.not_true, Bool.false_eq_true, reduceCtorEq, ↓reduceIte, decide_true, decide_false, splice, results, resT, resTs, AV.key, Bool.and_true, Bool.true_and, and_true, true_and, and_self, List.flatMap_nil, List.flatMap_cons, List.append_nil, List.nil_append, List.cons_append, List.map_cons, List.map_nil, List.all_cons, List.all_nil, List.length_cons, List.length_nil, Nat.reduceAdd, Nat.reduceLT, Nat.reduceLeDiff, Nat.reduceEqDiff, Nat.reduceSub, Nat.zero_add, Nat.add_zero, List.drop_succ_cons, List.drop_zero, List.take_succ_cons, List.take_zero]
      · have hd' : (rs.getD (cr - 1).toNat (false, bs [])).1 = false := by simpa using hd
        (refine run_fn T114 ⟨rfl, by decide⟩ ?_; rw [start114])
        simp (config := {decide := true, contextual := true, maxSteps := 3000000}) only [F114, w0, w1, d0, k1, i1, i2, i3, i4, hd', run81, run80_2, List.length_map, List.replicate, ↓simPre, simPost, Bool.not_not, Bool.not_false, Bool.not_true, Bool.false_eq_true, reduceCtorEq, ↓reduceIte, decide_true, decide_false, splice, results, resT, resTs, AV.key, Bool.and_true, Bool.true_and, and_true, true_and, and_self, List.flatMap_nil, List.flatMap_cons, List.append_nil, List.nil_append, List.cons_append, List.map_cons, List.map_nil, List.all_cons, List.all_nil, List.length_cons, List.length_nil, Nat.reduceAdd, Nat.reduceLT, Nat.reduceLeDiff, Nat.reduceEqDiff, Nat.reduceSub, Nat.zero_add, Nat.add_zero, List.drop_succ_cons, List.drop_zero, List.take_succ_cons, List.take_zero]
end Go.Bv

/- BY VALUE, chapter 26: CheckChange, Changed. -/
set_option linter.unusedSimpArgs false
set_option linter.unusedVariables false
namespace Go.Bv
variable {S : RT}
attribute [local congr] ite_congr congr_bindOps congr_bindC congr_andThen congr_orNone congr_onBool congr_onEff congr_headC
set_option maxRecDepth 100000
set_option maxHeartbeats 40000000
def formE (c : Ch) : Bool := (c.kind == 0 && !(c.before.toList == (bs []).toList)) || (c.kind == 2 && !(c.after.toList == (bs []).toList))
def headE (E : Int) (fn : ByteArray) (rs : List (Bool × ByteArray)) (c : Ch) : Int :=
  first [E, cond (!(c.file.toList == fn.toList)) 11, cond (decide (c.kind < 0) || decide (c.kind ≥ 3)) 4, cond (decide (c.rrn < 1) || decide (c.rrn > (if c.kind = 0 then (rs.length : Int) + 1 else rs.length))) 3, cond (formE c) 5]
def changeE (E : Int) (fn n : ByteArray) (l : List Fd) (rs : List (Bool × ByteArray)) (c : Ch) : Int :=
  if (headE E fn rs c != 0) = true then headE E fn rs c else if (placeErr rs c != 0 || c.kind == 2) = true then placeErr rs c else (bytesErr n l c.after).2
theorem first_zero' : ∀ (l : List Int), first l = 0 → ∀ x ∈ l, x = 0
  | [], _, x, hx => by simp at hx
  | a :: l, h, x, hx => by
    by_cases ha : a = 0
    · subst ha
      rcases List.mem_cons.1 hx with rfl | hx
      · rfl
      · exact first_zero' l (by simpa [first] using h) x hx
    · simp [first, ha] at h
theorem cond_zero' {b : Bool} {x : Int} (hx : x ≠ 0) (h : cond b x = 0) : b = false := by
  cases b with
  | false => rfl
  | true => exact absurd h hx
theorem head_place {E : Int} {fn : ByteArray} {rs : List (Bool × ByteArray)} {c : Ch} (h : headE E fn rs c = 0) : E = 0 ∧ 1 ≤ c.rrn ∧ c.rrn ≤ (rs.length : Int) + 1 ∧ (c.kind ≠ 0 → c.rrn ≤ (rs.length : Int)) := by
  have h1 := first_zero' _ h E (by simp)
  have h2 := first_zero' _ h (cond (decide (c.rrn < 1) || decide (c.rrn > (if c.kind = 0 then (rs.length : Int) + 1 else rs.length))) 3) (by simp)
  have h3 := cond_zero' (by decide) h2
  simp only [Bool.or_eq_false_iff, decide_eq_false_iff_not] at h3
  refine ⟨h1, by omega, ?_, ?_⟩
  · have := h3.2
    split at this <;> omega
  · intro hk
    have := h3.2
    rw [if_neg hk] at this
    omega
theorem run80_5 (a b c d e : Int) : run T S 80 [.sl [[.int .i64 a], [.int .i64 b], [.int .i64 c], [.int .i64 d], [.int .i64 e]]] = some (.int .i64 (first [a, b, c, d, e])) := run80 [a, b, c, d, e] (by simp)
theorem run60 (hS : Told28 S) (fn n : ByteArray) (l : List Fd) (ks : List (ByteArray × Bool)) (u : Bool) (rs : List (Bool × ByteArray)) (c : Ch) (h : Small fn n l ks rs) (ha : c.after.size ≤ 1000000) :
    run T S 60 [.agg (tabC fn n l ks u rs), .agg (encC c)] = some (.int .i64 (changeE (checkTable fn n l ks rs).2 fn n l rs c)) := by
  have h101 := run101 hS fn n l ks u rs h
  have h85 := run85 (S := S) n l c.after h.qsh ha
  have h114 := fun a b => run114 (S := S) fn n l ks u rs c (by have := h.qrs; omega) a b
  have hrs := h.qrs
  have w0 : IntKind.wrap .i64 ((rs.length : Int) + 1) = (rs.length : Int) + 1 := wrap_i64 (by omega) (by omega)
  have hp := @head_place (checkTable fn n l ks rs).2 fn rs c
  unfold changeE
  generalize hH : headE (checkTable fn n l ks rs).2 fn rs c = H at *
  unfold headE formE at hH
  generalize hP : placeErr rs c = P at *
  obtain ⟨cf, ck, cr, cb, ca⟩ := c
  simp only [tabC, encC] at h101 h114 hH hp h85 ⊢
  generalize (checkTable fn n l ks rs).2 = E at *
  generalize (bytesErr n l ca).2 = X at *
  obtain ⟨nb, hb⟩ : ∃ nb, (cb.toList == (bs []).toList) = !nb := ⟨!(cb.toList == (bs []).toList), by simp⟩
  obtain ⟨na, hc⟩ : ∃ na, (ca.toList == (bs []).toList) = !na := ⟨!(ca.toList == (bs []).toList), by simp⟩
  simp only [hb, hc, Bool.not_not] at hH
  by_cases k0 : ck = 0
  · have k1 : (ck == 0) = true := by simpa using k0
    have k2 : (ck == 2) = false := by simp; omega
    rw [if_pos k0] at hH
    simp only [k1, k2, Bool.true_and, Bool.false_and, Bool.or_false] at hH
    by_cases hz : H = 0
    · obtain ⟨_, p1, p2, _⟩ := hp hz
      have h114 := h114 p1 p2
      have hz' : (H != 0) = false := by simpa using hz
      simp only [hz', k2, Bool.or_false]
      (refine run_fn T60 ⟨rfl, by decide⟩ ?_; rw [start60])
      simp (config := {decide := true, contextual := true, maxSteps := 3000000}) only [F60, h101, h114, h85, hH, hb, hc, k1, k2, hz', w0, run81, run80_5, Bool.not_not, Bool.or_false, List.length_map, List.replicate, ↓simPre, simPost, Bool.not_not, Bool.not_false, Bool.not_true, Bool.false_eq_true, reduceCtorEq, ↓reduceIte, decide_true, decide_false, splice, results, resT, resTs, AV.key, Bool.and_true, Bool.true_and, and_true, true_and, and_self, List.flatMap_nil, List.flatMap_cons, List.append_nil, List.nil_append, List.cons_append, List.map_cons, List.map_nil, List.all_cons, List.all_nil, List.length_cons, List.length_nil, Nat.reduceAdd, Nat.reduceLT, Nat.reduceLeDiff, Nat.reduceEqDiff, Nat.reduceSub, Nat.zero_add, Nat.add_zero, List.drop_succ_cons, List.drop_zero, List.take_succ_cons, List.take_zero]
      split <;> rfl
    · have hz' : (H != 0) = true := by simpa using hz
      simp only [hz']
      (refine run_fn T60 ⟨rfl, by decide⟩ ?_; rw [start60])
      simp (config := {decide := true, contextual := true, maxSteps := 3000000}) only [F60, h101, h85, hH, hb, hc, k1, k2, hz', w0, run81, run80_5, Bool.not_not, Bool.or_false, List.length_map, List.replicate, ↓simPre, simPost, Bool.not_not, Bool.not_false, Bool.not_true, Bool.false_eq_true, reduceCtorEq, ↓reduceIte, decide_true, decide_false, splice, results, resT, resTs, AV.key, Bool.and_true, Bool.true_and, and_true, true_and, and_self, List.flatMap_nil, List.flatMap_cons, List.append_nil, List.nil_append, List.cons_append, List.map_cons, List.map_nil, List.all_cons, List.all_nil, List.length_cons, List.length_nil, Nat.reduceAdd, Nat.reduceLT, Nat.reduceLeDiff, Nat.reduceEqDiff, Nat.reduceSub, Nat.zero_add, Nat.add_zero, List.drop_succ_cons, List.drop_zero, List.take_succ_cons, List.take_zero]
  · have k1 : (ck == 0) = false := by simpa using k0
    rw [if_neg k0] at hH
    simp only [k1, Bool.false_and, Bool.false_or] at hH
    by_cases hz : H = 0
    · obtain ⟨_, p1, p2, _⟩ := hp hz
      have h114 := h114 p1 p2
      have hz' : (H != 0) = false := by simpa using hz
      simp only [hz']
      (refine run_fn T60 ⟨rfl, by decide⟩ ?_; rw [start60])
      simp (config := {decide := true, contextual := true, maxSteps := 3000000}) only [F60, h101, h114, h85, hH, hb, hc, k1, hz', w0, run81, run80_5, Bool.not_not, Bool.or_false, List.length_map, List.replicate, ↓simPre, simPost, Bool.not_not, Bool.not_false, Bool.not_true, Bool.false_eq_true, reduceCtorEq, ↓reduceIte, decide_true, decide_false, splice, results, resT, resTs, AV.key, Bool.and_true, Bool.true_and, and_true, true_and, and_self, List.flatMap_nil, List.flatMap_cons, List.append_nil, List.nil_append, List.cons_append, List.map_cons, List.map_nil, List.all_cons, List.all_nil, List.length_cons, List.length_nil, Nat.reduceAdd, Nat.reduceLT, Nat.reduceLeDiff, Nat.reduceEqDiff, Nat.reduceSub, Nat.zero_add, Nat.add_zero, List.drop_succ_cons, List.drop_zero, List.take_succ_cons, List.take_zero]
      split <;> rfl
    · have hz' : (H != 0) = true := by simpa using hz
      simp only [hz']
      (refine run_fn T60 ⟨rfl, by decide⟩ ?_; rw [start60])
      simp (config := {decide := true, contextual := true, maxSteps := 3000000}) only [F60, h101, h85, hH, hb, hc, k1, hz', w0, run81, run80_5, Bool.not_not, Bool.or_false, List.length_map, List.replicate, ↓simPre, simPost, Bool.not_not, Bool.not_false, Bool.not_true, Bool.false_eq_true, reduceCtorEq, ↓reduceIte, decide_true, decide_false, splice, results, resT, resTs, AV.key, Bool.and_true, Bool.true_and, and_true, true_and, and_self, List.flatMap_nil, List.flatMap_cons, List.append_nil, List.nil_append, List.cons_append, List.map_cons, List.map_nil, List.all_cons, List.all_nil, List.length_cons, List.length_nil, Nat.reduceAdd, Nat.reduceLT, Nat.reduceLeDiff, Nat.reduceEqDiff, Nat.reduceSub, Nat.zero_add, Nat.add_zero, List.drop_succ_cons, List.drop_zero, List.take_succ_cons, List.take_zero]
end Go.Bv

/- BY VALUE, chapter 26, the plain law: changes of different records may be made in either order. -/
set_option linter.unusedSimpArgs false
set_option linter.unusedVariables false
namespace Go.Bv
def recOf (c : Ch) : Bool × ByteArray := (c.kind == 2, c.after)
theorem recsGo_zero (n : ByteArray) (l : List Fd) : ∀ (rs : List (Bool × ByteArray)) (i : Int), (recsGo n l rs i).2 = 0 ↔ ∀ r ∈ rs, recErr n l r = 0
  | [], i => by simp [recsGo]
  | r :: rs, i => by
    simp only [recsGo]
    by_cases h : recErr n l r = 0
    · rw [if_neg (by simpa using h), recsGo_zero n l rs (i + 1)]
      simp [h]
    · rw [if_pos (by simpa using h)]
      simp [h]
theorem check_zero {fn n : ByteArray} {l : List Fd} {ks : List (ByteArray × Bool)} {rs : List (Bool × ByteArray)} : (checkTable fn n l ks rs).2 = 0 ↔ tabE fn n l ks rs = 0 ∧ ∀ r ∈ rs, recErr n l r = 0 := by
  unfold checkTable
  by_cases h : tabE fn n l ks rs = 0
  · rw [if_neg (by simpa using h), recsGo_zero]
    simp [h]
  · rw [if_pos (by simpa using h)]
    simp [h]
theorem tabE_len {fn n : ByteArray} {l : List Fd} {ks : List (ByteArray × Bool)} {rs rs' : List (Bool × ByteArray)} (h : rs'.length = rs.length) : tabE fn n l ks rs' = tabE fn n l ks rs := by
  unfold tabE; rw [h]
theorem headE_len {E : Int} {fn : ByteArray} {rs rs' : List (Bool × ByteArray)} {c : Ch} (h : rs'.length = rs.length) : headE E fn rs' c = headE E fn rs c := by
  unfold headE; rw [h]
theorem change_zero {E : Int} {fn n : ByteArray} {l : List Fd} {rs : List (Bool × ByteArray)} {c : Ch} (h : changeE E fn n l rs c = 0) : headE E fn rs c = 0 ∧ placeErr rs c = 0 ∧ (c.kind ≠ 2 → (bytesErr n l c.after).2 = 0) := by
  unfold changeE at h
  by_cases h1 : headE E fn rs c = 0
  · rw [if_neg (by simpa using h1)] at h
    by_cases h2 : (placeErr rs c != 0 || c.kind == 2) = true
    · rw [if_pos h2] at h
      simp only [h, bne_self_eq_false, Bool.false_or, beq_iff_eq] at h2
      exact ⟨h1, h, fun hk => absurd h2 hk⟩
    · rw [if_neg h2] at h
      simp only [Bool.or_eq_true, bne_iff_ne, ne_eq, beq_iff_eq, not_or, Decidable.not_not] at h2
      exact ⟨h1, h2.1, fun _ => h⟩
  · rw [if_pos (by simpa using h1)] at h
    exact absurd h h1
theorem change_of {E : Int} {fn n : ByteArray} {l : List Fd} {rs : List (Bool × ByteArray)} {c : Ch} (h1 : headE E fn rs c = 0) (h2 : placeErr rs c = 0) (h3 : c.kind ≠ 2 → (bytesErr n l c.after).2 = 0) : changeE E fn n l rs c = 0 := by
  unfold changeE
  rw [if_neg (by simpa using h1)]
  by_cases hk : c.kind = 2
  · rw [if_pos (by simp [hk])]; exact h2
  · rw [if_neg (by simp [hk, h2])]; exact h3 hk
theorem rec_zero {E : Int} {fn n : ByteArray} {l : List Fd} {rs : List (Bool × ByteArray)} {c : Ch} (h : changeE E fn n l rs c = 0) : recErr n l (recOf c) = 0 := by
  obtain ⟨h1, h2, h3⟩ := change_zero h
  have hf : formE c = false := cond_zero' (by decide) (first_zero' _ h1 (cond (formE c) 5) (by simp))
  unfold recErr recOf
  by_cases hk : c.kind = 2
  · have hb : (c.kind == 2) = true := by simpa using hk
    unfold formE at hf
    simp only [hb, Bool.true_and, Bool.or_eq_false_iff] at hf
    simp only [hb, Bool.not_true]
    rw [if_neg (by simp), hf.2]
    rfl
  · have hb : (c.kind == 2) = false := by simpa using hk
    simp only [hb, Bool.not_false, if_true]
    exact h3 hk
theorem put_len {rs : List (Bool × ByteArray)} {i : Int} {r : Bool × ByteArray} (h : i ≤ (rs.length : Int)) : (put rs i r).length = rs.length := by
  unfold put; rw [if_neg (by omega)]; simp
theorem putAt_get {rs : List (Bool × ByteArray)} {i j : Int} {r : Bool × ByteArray} (hi : i ≤ (rs.length : Int)) (h1 : 1 ≤ i) (h2 : 1 ≤ j) (hne : i ≠ j) : (put rs i r).getD (j - 1).toNat (false, bs []) = rs.getD (j - 1).toNat (false, bs []) := by
  unfold put; rw [if_neg (by omega)]
  rw [List.getD_eq_getElem?_getD, List.getElem?_set_ne (by omega), ← List.getD_eq_getElem?_getD]
theorem put_comm {rs : List (Bool × ByteArray)} {i j : Int} {r s : Bool × ByteArray} (hi : i ≤ (rs.length : Int)) (hj : j ≤ (rs.length : Int)) (h1 : 1 ≤ i) (h2 : 1 ≤ j) (hne : i ≠ j) : put (put rs i r) j s = put (put rs j s) i r := by
  have e1 : put rs i r = rs.set (i - 1).toNat r := by unfold put; rw [if_neg (by omega)]
  have e2 : put rs j s = rs.set (j - 1).toNat s := by unfold put; rw [if_neg (by omega)]
  rw [e1, e2]
  unfold put
  rw [if_neg (by simp; omega), if_neg (by simp; omega), List.set_comm _ _ (by omega)]
theorem put_mem {rs : List (Bool × ByteArray)} {i : Int} {r x : Bool × ByteArray} (h : x ∈ put rs i r) : x ∈ rs ∨ x = r := by
  unfold put at h
  split at h
  · rcases List.mem_append.1 h with h | h
    · exact .inl h
    · exact .inr (by simpa using h)
  · exact List.mem_or_eq_of_mem_set h
/-- What is right for a record is right for it where another one was changed. -/
theorem change_apart {fn n : ByteArray} {l : List Fd} {ks : List (ByteArray × Bool)} {rs : List (Bool × ByteArray)} {a b : Ch} (hne : a.rrn ≠ b.rrn) (ha : a.rrn ≤ (rs.length : Int)) (hb : b.rrn ≤ (rs.length : Int))
    (h1 : changeE (checkTable fn n l ks rs).2 fn n l rs a = 0) (h2 : changeE (checkTable fn n l ks rs).2 fn n l rs b = 0) :
    changeE (checkTable fn n l ks (put rs a.rrn (recOf a))).2 fn n l (put rs a.rrn (recOf a)) b = 0 := by
  have hl := put_len (r := recOf a) ha
  obtain ⟨a1, a2, a3⟩ := change_zero h1
  obtain ⟨b1, b2, b3⟩ := change_zero h2
  obtain ⟨e0, pa, _, _⟩ := head_place a1
  obtain ⟨_, pb, _, _⟩ := head_place b1
  have hc := check_zero.1 e0
  have hc' : (checkTable fn n l ks (put rs a.rrn (recOf a))).2 = 0 := by
    refine check_zero.2 ⟨by rw [tabE_len hl]; exact hc.1, fun r hr => ?_⟩
    rcases put_mem hr with hr | rfl
    · exact hc.2 r hr
    · exact rec_zero h1
  rw [hc']
  rw [e0] at b1
  refine change_of (by rw [headE_len hl]; exact b1) ?_ b3
  rw [← b2]
  unfold placeErr isDel
  rw [hl, putAt_get ha pa pb hne]
end Go.Bv
