/- BY VALUE, chapter 26: SameFormat, SameFile, SameRecords, SameTable; tableErr, TableErr. -/
import Derived.Test.YtnfmilnlekmjgaaU1
set_option linter.unusedSimpArgs false
set_option linter.unusedVariables false
namespace Go.Bv
variable {S : RT}
attribute [local congr] ite_congr congr_bindOps congr_bindC congr_andThen congr_orNone congr_onBool congr_onEff congr_headC
set_option maxRecDepth 100000
set_option maxHeartbeats 40000000
def zipEq {α : Type} (f : α → α → Bool) (d : α) : List α → List α → Bool
  | [], _ => true
  | a :: l, m => f a (m.getD 0 d) && zipEq f d l (m.drop 1)
theorem zipEq_refl {α : Type} (f : α → α → Bool) (d : α) (hf : ∀ a, f a a = true) (l : List α) : zipEq f d l l = true := by
  induction l with
  | nil => rfl
  | cons a l ih => simp [zipEq, hf, ih]
theorem drop_get0 {α : Type} (m : List α) (i : Nat) (d : α) : (m.drop i).getD 0 d = m.getD i d := by simp [List.getD_eq_getElem?_getD]
def fdEq (a b : Fd) : Bool := a.name.toList == b.name.toList && (a.t.k == b.t.k && (a.t.l == b.t.l && a.t.s == b.t.s))
def kEq (a b : ByteArray × Bool) : Bool := a.1.toList == b.1.toList && a.2 == b.2
def rEq (a b : Bool × ByteArray) : Bool := a.1 == b.1 && a.2.toList == b.2.toList
def sameFormat (n : ByteArray) (l : List Fd) (n' : ByteArray) (l' : List Fd) : Bool := if (!(n.toList == n'.toList) || ((l.length : Int) != (l'.length : Int))) = true then false else zipEq fdEq default l l'
theorem run137 (n n' : ByteArray) (l l' : List Fd) (hl : l.length ≤ 1000000) : run T S 137 [.agg [.str n, .sl (l.map encF)], .agg [.str n', .sl (l'.map encF)]] = some (.bool (sameFormat n l n' l')) := by
  unfold sameFormat
  cases hx : (n.toList == n'.toList) with
  | false =>
    simp only [Bool.not_false, Bool.true_or, if_true]
    (refine run_fn T137 ⟨rfl, by decide⟩ ?_; rw [start137])
    simp (config := {decide := true, contextual := true, maxSteps := 3000000}) only [F137, hx, List.length_map, List.replicate, ↓simPre, simPost, Bool.not_not, Bool.not_false, Bool.not_true, Bool.false_eq_true, reduceCtorEq, ↓reduceIte, decide_true, decide_false, splice, results, resT, resTs, AV.key, Bool.and_true, Bool.true_and, and_true, true_and, and_self, List.flatMap_nil, List.flatMap_cons, List.append_nil, List.nil_append, List.cons_append, List.map_cons, List.map_nil, List.all_cons, List.all_nil, List.length_cons, List.length_nil, Nat.reduceAdd, Nat.reduceLT, Nat.reduceLeDiff, Nat.reduceEqDiff, Nat.reduceSub, Nat.zero_add, Nat.add_zero, List.drop_succ_cons, List.drop_zero, List.take_succ_cons, List.take_zero]
  | true =>
  simp only [Bool.not_true, Bool.false_or]
  (refine run_fn T137 ⟨rfl, by decide⟩ ?_; rw [start137])
  simp (config := {decide := true, contextual := true, maxSteps := 3000000}) only [F137, hx, List.length_map, List.replicate, ↓simPre, simPost, Bool.not_not, Bool.not_false, Bool.not_true, Bool.false_eq_true, reduceCtorEq, ↓reduceIte, decide_true, decide_false, splice, results, resT, resTs, AV.key, Bool.and_true, Bool.true_and, and_true, true_and, and_self, List.flatMap_nil, List.flatMap_cons, List.append_nil, List.nil_append, List.cons_append, List.map_cons, List.map_nil, List.all_cons, List.all_nil, List.length_cons, List.length_nil, Nat.reduceAdd, Nat.reduceLT, Nat.reduceLeDiff, Nat.reduceEqDiff, Nat.reduceSub, Nat.zero_add, Nat.add_zero, List.drop_succ_cons, List.drop_zero, List.take_succ_cons, List.take_zero]
  split
  · rfl
  rename_i hh
  have hll : l.length = l'.length := by simp at hh; omega
  refine Eq.trans (headC_ind (σ := Nat) (fun i => ⟨[.unk, .unk, .ptr 2 0 0, .ptr 3 0 0, .unk, .int .i64 i] ++ List.replicate 32 .unk, [⟨0, .dead⟩, ⟨0, .dead⟩, ⟨0, .box [.str n, .sl (l.map encF)]⟩, ⟨0, .box [.str n', .sl (l'.map encF)]⟩] ++ List.replicate 34 ⟨0, .dead⟩⟩)
    (fun i => some (AV.bool (zipEq fdEq default (l.drop i) (l'.drop i)))) (fun i => l.length - i) (fun i => i ≤ l.length) ?_ 0 (Nat.zero_le _)) (by simp)
  intro i hi ih
  by_cases hlt : i < l.length
  · obtain ⟨h1, h2, h4, h5⟩ := idx hlt (by omega)
    have h2' : ((i : Int) < (l'.length : Int)) = True := by simp; omega
    have h3 := map_get encF l i default hlt
    have h3' := map_get encF l' i default (by omega)
    have hih := ih (i + 1) (by omega) (by omega)
    rw [drop_cons default hlt]
    simp only [encF] at h3 h3'
    simp only [zipEq, drop_get0, List.drop_drop]
    simp (config := {decide := true, contextual := true, maxSteps := 3000000}) only [h1, h2, h2', h3, h3', h4, h5, List.length_map, List.replicate, ↓simPre, simPost, Bool.not_not, Bool.not_false, Bool.not_true, Bool.false_eq_true, reduceCtorEq, ↓reduceIte, decide_true, decide_false, splice, results, resT, resTs, AV.key, Bool.and_true, Bool.true_and, and_true, true_and, and_self, List.flatMap_nil, List.flatMap_cons, List.append_nil, List.nil_append, List.cons_append, List.map_cons, List.map_nil, List.all_cons, List.all_nil, List.length_cons, List.length_nil, Nat.reduceAdd, Nat.reduceLT, Nat.reduceLeDiff, Nat.reduceEqDiff, Nat.reduceSub, Nat.zero_add, Nat.add_zero, List.drop_succ_cons, List.drop_zero, List.take_succ_cons, List.take_zero]
    by_cases hc : fdEq (l.getD i default) (l'.getD i default) = true
    · have h' : ((l.getD i default).name.toList == (l'.getD i default).name.toList && ((l.getD i default).t.k == (l'.getD i default).t.k && ((l.getD i default).t.l == (l'.getD i default).t.l && (l.getD i default).t.s == (l'.getD i default).t.s))) = true := hc
      rw [hc]
      refine (if_neg (by rw [h']; decide)).trans ?_
      exact hih
    · have hc' : fdEq (l.getD i default) (l'.getD i default) = false := by simpa using hc
      have h' : ((l.getD i default).name.toList == (l'.getD i default).name.toList && ((l.getD i default).t.k == (l'.getD i default).t.k && ((l.getD i default).t.l == (l'.getD i default).t.l && (l.getD i default).t.s == (l'.getD i default).t.s))) = false := hc'
      rw [hc']
      exact if_pos (by rw [h']; rfl)
  · have h2 := idxEnd (Nat.le_of_not_lt hlt)
    have h7 : l.drop i = [] := List.drop_eq_nil_of_le (by omega)
    simp (config := {decide := true, contextual := true, maxSteps := 3000000}) only [h2, h7, zipEq, List.length_map, List.replicate, ↓simPre, simPost, Bool.not_not, Bool.not_false, Bool.not_true, Bool.false_eq_true, reduceCtorEq, ↓reduceIte, decide_true, decide_false, splice, results, resT, resTs, AV.key, Bool.and_true, Bool.true_and, and_true, true_and, and_self, List.flatMap_nil, List.flatMap_cons, List.append_nil, List.nil_append, List.cons_append, List.map_cons, List.map_nil, List.all_cons, List.all_nil, List.length_cons, List.length_nil, Nat.reduceAdd, Nat.reduceLT, Nat.reduceLeDiff, Nat.reduceEqDiff, Nat.reduceSub, Nat.zero_add, Nat.add_zero, List.drop_succ_cons, List.drop_zero, List.take_succ_cons, List.take_zero]
def sameRecs (a b : List (Bool × ByteArray)) : Bool := if ((a.length : Int) != (b.length : Int)) = true then false else zipEq rEq (false, bs []) a b
theorem run103 (a b : List (Bool × ByteArray)) (ha : a.length ≤ 1000000) : run T S 103 [.sl (a.map encR), .sl (b.map encR)] = some (.bool (sameRecs a b)) := by
  unfold sameRecs
  (refine run_fn T103 ⟨rfl, by decide⟩ ?_; rw [start103])
  simp (config := {decide := true, contextual := true, maxSteps := 3000000}) only [F103, List.length_map, List.replicate, ↓simPre, simPost, Bool.not_not, Bool.not_false, Bool.not_true, Bool.false_eq_true, reduceCtorEq, ↓reduceIte, decide_true, decide_false, splice, results, resT, resTs, AV.key, Bool.and_true, Bool.true_and, and_true, true_and, and_self, List.flatMap_nil, List.flatMap_cons, List.append_nil, List.nil_append, List.cons_append, List.map_cons, List.map_nil, List.all_cons, List.all_nil, List.length_cons, List.length_nil, Nat.reduceAdd, Nat.reduceLT, Nat.reduceLeDiff, Nat.reduceEqDiff, Nat.reduceSub, Nat.zero_add, Nat.add_zero, List.drop_succ_cons, List.drop_zero, List.take_succ_cons, List.take_zero]
  split
  · rfl
  rename_i hab
  have hab : a.length = b.length := by simp at hab; omega
  refine Eq.trans (headC_ind (σ := Nat) (fun i => ⟨[.sl (a.map encR), .sl (b.map encR), .unk, .unk, .unk, .int .i64 i] ++ List.replicate 20 .unk, List.replicate 26 ⟨0, .dead⟩⟩)
    (fun i => some (AV.bool (zipEq rEq (false, bs []) (a.drop i) (b.drop i)))) (fun i => a.length - i) (fun i => i ≤ a.length) ?_ 0 (Nat.zero_le _)) (by simp only [List.drop_zero])
  intro i hi ih
  by_cases hlt : i < a.length
  · obtain ⟨h1, h2, h4, h5⟩ := idx hlt (by omega)
    have h2' : ((i : Int) < (b.length : Int)) = True := by simp; omega
    have h3 := map_get encR a i (false, bs []) hlt
    have h3' := map_get encR b i (false, bs []) (by omega)
    have hih := ih (i + 1) (by omega) (by omega)
    rw [drop_cons (false, bs []) hlt]
    simp only [encR] at h3 h3'
    simp only [zipEq, drop_get0, List.drop_drop]
    simp (config := {decide := true, contextual := true, maxSteps := 3000000}) only [h1, h2, h2', h3, h3', h4, h5, List.length_map, List.replicate, ↓simPre, simPost, Bool.not_not, Bool.not_false, Bool.not_true, Bool.false_eq_true, reduceCtorEq, ↓reduceIte, decide_true, decide_false, splice, results, resT, resTs, AV.key, Bool.and_true, Bool.true_and, and_true, true_and, and_self, List.flatMap_nil, List.flatMap_cons, List.append_nil, List.nil_append, List.cons_append, List.map_cons, List.map_nil, List.all_cons, List.all_nil, List.length_cons, List.length_nil, Nat.reduceAdd, Nat.reduceLT, Nat.reduceLeDiff, Nat.reduceEqDiff, Nat.reduceSub, Nat.zero_add, Nat.add_zero, List.drop_succ_cons, List.drop_zero, List.take_succ_cons, List.take_zero]
    by_cases hc : rEq (a.getD i (false, bs [])) (b.getD i (false, bs [])) = true
    · have h' : ((a.getD i (false, bs [])).1 == (b.getD i (false, bs [])).1 && (a.getD i (false, bs [])).2.toList == (b.getD i (false, bs [])).2.toList) = true := hc
      rw [hc]
      refine (if_neg (by rw [h']; decide)).trans ?_
      exact hih
    · have hc' : rEq (a.getD i (false, bs [])) (b.getD i (false, bs [])) = false := by simpa using hc
      have h' : ((a.getD i (false, bs [])).1 == (b.getD i (false, bs [])).1 && (a.getD i (false, bs [])).2.toList == (b.getD i (false, bs [])).2.toList) = false := hc'
      rw [hc']
      exact if_pos (by rw [h']; rfl)
  · have h2 := idxEnd (Nat.le_of_not_lt hlt)
    have h7 : a.drop i = [] := List.drop_eq_nil_of_le (by omega)
    simp (config := {decide := true, contextual := true, maxSteps := 3000000}) only [h2, h7, zipEq, List.length_map, List.replicate, ↓simPre, simPost, Bool.not_not, Bool.not_false, Bool.not_true, Bool.false_eq_true, reduceCtorEq, ↓reduceIte, decide_true, decide_false, splice, results, resT, resTs, AV.key, Bool.and_true, Bool.true_and, and_true, true_and, and_self, List.flatMap_nil, List.flatMap_cons, List.append_nil, List.nil_append, List.cons_append, List.map_cons, List.map_nil, List.all_cons, List.all_nil, List.length_cons, List.length_nil, Nat.reduceAdd, Nat.reduceLT, Nat.reduceLeDiff, Nat.reduceEqDiff, Nat.reduceSub, Nat.zero_add, Nat.add_zero, List.drop_succ_cons, List.drop_zero, List.take_succ_cons, List.take_zero]
def sameFile (fn n : ByteArray) (l : List Fd) (ks : List (ByteArray × Bool)) (u : Bool) (fn' n' : ByteArray) (l' : List Fd) (ks' : List (ByteArray × Bool)) (u' : Bool) : Bool :=
  if (((!(fn.toList == fn'.toList) || !(u == u')) || !sameFormat n l n' l') || ((ks.length : Int) != (ks'.length : Int))) = true then false else zipEq kEq (bs [], false) ks ks'
theorem run102 (fn n : ByteArray) (l : List Fd) (ks : List (ByteArray × Bool)) (u : Bool) (fn' n' : ByteArray) (l' : List Fd) (ks' : List (ByteArray × Bool)) (u' : Bool) (hl : l.length ≤ 1000000) (hk : ks.length ≤ 1000000) :
    run T S 102 [.agg (fileC fn n l ks u), .agg (fileC fn' n' l' ks' u')] = some (.bool (sameFile fn n l ks u fn' n' l' ks' u')) := by
  have h137 := run137 (S := S) n n' l l' hl
  unfold sameFile
  simp only [fileC]
  cases hx : (fn.toList == fn'.toList) with
  | false =>
    simp only [Bool.not_false, Bool.true_or, if_true]
    (refine run_fn T102 ⟨rfl, by decide⟩ ?_; rw [start102])
    simp (config := {decide := true, contextual := true, maxSteps := 3000000}) only [F102, hx, List.length_map, List.replicate, ↓simPre, simPost, Bool.not_not, Bool.not_false, Bool.not_true, Bool.false_eq_true, reduceCtorEq, ↓reduceIte, decide_true, decide_false, splice, results, resT, resTs, AV.key, Bool.and_true, Bool.true_and, and_true, true_and, and_self, List.flatMap_nil, List.flatMap_cons, List.append_nil, List.nil_append, List.cons_append, List.map_cons, List.map_nil, List.all_cons, List.all_nil, List.length_cons, List.length_nil, Nat.reduceAdd, Nat.reduceLT, Nat.reduceLeDiff, Nat.reduceEqDiff, Nat.reduceSub, Nat.zero_add, Nat.add_zero, List.drop_succ_cons, List.drop_zero, List.take_succ_cons, List.take_zero]
  | true =>
  cases hy : (u == u') with
  | false =>
    simp only [Bool.not_false, Bool.true_or, Bool.or_true, if_true]
    (refine run_fn T102 ⟨rfl, by decide⟩ ?_; rw [start102])
    simp (config := {decide := true, contextual := true, maxSteps := 3000000}) only [F102, hx, hy, List.length_map, List.replicate, ↓simPre, simPost, Bool.not_not, Bool.not_false, Bool.not_true, Bool.false_eq_true, reduceCtorEq, ↓reduceIte, decide_true, decide_false, splice, results, resT, resTs, AV.key, Bool.and_true, Bool.true_and, and_true, true_and, and_self, List.flatMap_nil, List.flatMap_cons, List.append_nil, List.nil_append, List.cons_append, List.map_cons, List.map_nil, List.all_cons, List.all_nil, List.length_cons, List.length_nil, Nat.reduceAdd, Nat.reduceLT, Nat.reduceLeDiff, Nat.reduceEqDiff, Nat.reduceSub, Nat.zero_add, Nat.add_zero, List.drop_succ_cons, List.drop_zero, List.take_succ_cons, List.take_zero]
  | true =>
  cases hz : sameFormat n l n' l' with
  | false =>
    simp only [Bool.not_false, Bool.true_or, Bool.or_true, if_true]
    (refine run_fn T102 ⟨rfl, by decide⟩ ?_; rw [start102])
    simp (config := {decide := true, contextual := true, maxSteps := 3000000}) only [F102, hx, hy, h137, hz, List.length_map, List.replicate, ↓simPre, simPost, Bool.not_not, Bool.not_false, Bool.not_true, Bool.false_eq_true, reduceCtorEq, ↓reduceIte, decide_true, decide_false, splice, results, resT, resTs, AV.key, Bool.and_true, Bool.true_and, and_true, true_and, and_self, List.flatMap_nil, List.flatMap_cons, List.append_nil, List.nil_append, List.cons_append, List.map_cons, List.map_nil, List.all_cons, List.all_nil, List.length_cons, List.length_nil, Nat.reduceAdd, Nat.reduceLT, Nat.reduceLeDiff, Nat.reduceEqDiff, Nat.reduceSub, Nat.zero_add, Nat.add_zero, List.drop_succ_cons, List.drop_zero, List.take_succ_cons, List.take_zero]
  | true =>
  simp only [Bool.not_true, Bool.false_or]
  (refine run_fn T102 ⟨rfl, by decide⟩ ?_; rw [start102])
  simp (config := {decide := true, contextual := true, maxSteps := 3000000}) only [F102, hx, hy, h137, hz, List.length_map, List.replicate, ↓simPre, simPost, Bool.not_not, Bool.not_false, Bool.not_true, Bool.false_eq_true, reduceCtorEq, ↓reduceIte, decide_true, decide_false, splice, results, resT, resTs, AV.key, Bool.and_true, Bool.true_and, and_true, true_and, and_self, List.flatMap_nil, List.flatMap_cons, List.append_nil, List.nil_append, List.cons_append, List.map_cons, List.map_nil, List.all_cons, List.all_nil, List.length_cons, List.length_nil, Nat.reduceAdd, Nat.reduceLT, Nat.reduceLeDiff, Nat.reduceEqDiff, Nat.reduceSub, Nat.zero_add, Nat.add_zero, List.drop_succ_cons, List.drop_zero, List.take_succ_cons, List.take_zero]
  split
  · rfl
  rename_i hh
  have hab : ks.length = ks'.length := by simp at hh; omega
  refine Eq.trans (headC_ind (σ := Nat) (fun i => ⟨[.unk, .unk, .ptr 2 0 0, .ptr 3 0 0, .unk, .int .i64 i] ++ List.replicate 47 .unk, [⟨0, .dead⟩, ⟨0, .dead⟩, ⟨0, .box [.str fn, .str n, .sl (l.map encF), .sl (ks.map encK), .bool u]⟩, ⟨0, .box [.str fn', .str n', .sl (l'.map encF), .sl (ks'.map encK), .bool u']⟩] ++ List.replicate 49 ⟨0, .dead⟩⟩)
    (fun i => some (AV.bool (zipEq kEq (bs [], false) (ks.drop i) (ks'.drop i)))) (fun i => ks.length - i) (fun i => i ≤ ks.length) ?_ 0 (Nat.zero_le _)) (by simp)
  intro i hi ih
  by_cases hlt : i < ks.length
  · obtain ⟨h1, h2, h4, h5⟩ := idx hlt (by omega)
    have h2' : ((i : Int) < (ks'.length : Int)) = True := by simp; omega
    have h3 := map_get encK ks i (bs [], false) hlt
    have h3' := map_get encK ks' i (bs [], false) (by omega)
    have hih := ih (i + 1) (by omega) (by omega)
    rw [drop_cons (bs [], false) hlt]
    simp only [encK] at h3 h3'
    simp only [zipEq, drop_get0, List.drop_drop]
    simp (config := {decide := true, contextual := true, maxSteps := 3000000}) only [h1, h2, h2', h3, h3', h4, h5, List.length_map, List.replicate, ↓simPre, simPost, Bool.not_not, Bool.not_false, Bool.not_true, Bool.false_eq_true, reduceCtorEq, ↓reduceIte, decide_true, decide_false, splice, results, resT, resTs, AV.key, Bool.and_true, Bool.true_and, and_true, true_and, and_self, List.flatMap_nil, List.flatMap_cons, List.append_nil, List.nil_append, List.cons_append, List.map_cons, List.map_nil, List.all_cons, List.all_nil, List.length_cons, List.length_nil, Nat.reduceAdd, Nat.reduceLT, Nat.reduceLeDiff, Nat.reduceEqDiff, Nat.reduceSub, Nat.zero_add, Nat.add_zero, List.drop_succ_cons, List.drop_zero, List.take_succ_cons, List.take_zero]
    by_cases hc : kEq (ks.getD i (bs [], false)) (ks'.getD i (bs [], false)) = true
    · have h' : ((ks.getD i (bs [], false)).1.toList == (ks'.getD i (bs [], false)).1.toList && (ks.getD i (bs [], false)).2 == (ks'.getD i (bs [], false)).2) = true := hc
      rw [hc]
      refine (if_neg (by rw [h']; decide)).trans ?_
      exact hih
    · have hc' : kEq (ks.getD i (bs [], false)) (ks'.getD i (bs [], false)) = false := by simpa using hc
      have h' : ((ks.getD i (bs [], false)).1.toList == (ks'.getD i (bs [], false)).1.toList && (ks.getD i (bs [], false)).2 == (ks'.getD i (bs [], false)).2) = false := hc'
      rw [hc']
      exact if_pos (by rw [h']; rfl)
  · have h2 := idxEnd (Nat.le_of_not_lt hlt)
    have h7 : ks.drop i = [] := List.drop_eq_nil_of_le (by omega)
    simp (config := {decide := true, contextual := true, maxSteps := 3000000}) only [h2, h7, zipEq, List.length_map, List.replicate, ↓simPre, simPost, Bool.not_not, Bool.not_false, Bool.not_true, Bool.false_eq_true, reduceCtorEq, ↓reduceIte, decide_true, decide_false, splice, results, resT, resTs, AV.key, Bool.and_true, Bool.true_and, and_true, true_and, and_self, List.flatMap_nil, List.flatMap_cons, List.append_nil, List.nil_append, List.cons_append, List.map_cons, List.map_nil, List.all_cons, List.all_nil, List.length_cons, List.length_nil, Nat.reduceAdd, Nat.reduceLT, Nat.reduceLeDiff, Nat.reduceEqDiff, Nat.reduceSub, Nat.zero_add, Nat.add_zero, List.drop_succ_cons, List.drop_zero, List.take_succ_cons, List.take_zero]
theorem run43 (fn n : ByteArray) (l : List Fd) (ks : List (ByteArray × Bool)) (u : Bool) (rs : List (Bool × ByteArray)) (fn' n' : ByteArray) (l' : List Fd) (ks' : List (ByteArray × Bool)) (u' : Bool) (rs' : List (Bool × ByteArray)) (hl : l.length ≤ 1000000) (hk : ks.length ≤ 1000000) (hr : rs.length ≤ 1000000) :
    run T S 43 [.agg (tabC fn n l ks u rs), .agg (tabC fn' n' l' ks' u' rs')] = some (.bool (sameFile fn n l ks u fn' n' l' ks' u' && sameRecs rs rs')) := by
  have h102 := run102 (S := S) fn n l ks u fn' n' l' ks' u' hl hk
  have h103 := run103 (S := S) rs rs' hr
  simp only [fileC] at h102
  simp only [tabC]
  (refine run_fn T43 ⟨rfl, by decide⟩ ?_; rw [start43])
  simp (config := {decide := true, contextual := true, maxSteps := 3000000}) only [F43, h102, h103, List.replicate, ↓simPre, simPost, Bool.not_not, Bool.not_false, Bool.not_true, Bool.false_eq_true, reduceCtorEq, ↓reduceIte, decide_true, decide_false, splice, results, resT, resTs, AV.key, Bool.and_true, Bool.true_and, and_true, true_and, and_self, List.flatMap_nil, List.flatMap_cons, List.append_nil, List.nil_append, List.cons_append, List.map_cons, List.map_nil, List.all_cons, List.all_nil, List.length_cons, List.length_nil, Nat.reduceAdd, Nat.reduceLT, Nat.reduceLeDiff, Nat.reduceEqDiff, Nat.reduceSub, Nat.zero_add, Nat.add_zero, List.drop_succ_cons, List.drop_zero, List.take_succ_cons, List.take_zero]
theorem sameFormat_refl (n : ByteArray) (l : List Fd) : sameFormat n l n l = true := by simp [sameFormat, zipEq_refl, fdEq]
theorem sameFile_refl (fn n : ByteArray) (l : List Fd) (ks : List (ByteArray × Bool)) (u : Bool) : sameFile fn n l ks u fn n l ks u = true := by simp [sameFile, sameFormat_refl, zipEq_refl, kEq]
theorem sameRecs_refl (a : List (Bool × ByteArray)) : sameRecs a a = true := by simp [sameRecs, zipEq_refl, rEq]
theorem run45 (fn n : ByteArray) (l : List Fd) (ks : List (ByteArray × Bool)) (u : Bool) (rs : List (Bool × ByteArray)) (h : Small fn n l ks rs) : run T S 45 [.agg (tabC fn n l ks u rs)] = some (.int .i64 (checkTable fn n l ks rs).2) := by
  have h39 := run39 (S := S) fn n l ks u rs h
  simp only [tabC] at h39 ⊢
  (refine run_fn T45 ⟨rfl, by decide⟩ ?_; rw [start45])
  simp (config := {decide := true, contextual := true, maxSteps := 3000000}) only [F45, h39, List.replicate, ↓simPre, simPost, Bool.not_not, Bool.not_false, Bool.not_true, Bool.false_eq_true, reduceCtorEq, ↓reduceIte, decide_true, decide_false, splice, results, resT, resTs, AV.key, Bool.and_true, Bool.true_and, and_true, true_and, and_self, List.flatMap_nil, List.flatMap_cons, List.append_nil, List.nil_append, List.cons_append, List.map_cons, List.map_nil, List.all_cons, List.all_nil, List.length_cons, List.length_nil, Nat.reduceAdd, Nat.reduceLT, Nat.reduceLeDiff, Nat.reduceEqDiff, Nat.reduceSub, Nat.zero_add, Nat.add_zero, List.drop_succ_cons, List.drop_zero, List.take_succ_cons, List.take_zero]
theorem run101 (hS : Told28 S) (fn n : ByteArray) (l : List Fd) (ks : List (ByteArray × Bool)) (u : Bool) (rs : List (Bool × ByteArray)) (h : Small fn n l ks rs) : run T S 101 [.agg (tabC fn n l ks u rs)] = some (.int .i64 (checkTable fn n l ks rs).2) := by
  have h37 := run37 hS fn n l ks u rs h
  simp only [tabC] at h37 ⊢
  (refine run_fn T101 ⟨rfl, by decide⟩ ?_; rw [start101])
  simp (config := {decide := true, contextual := true, maxSteps := 3000000}) only [F101, h37, List.replicate, ↓simPre, simPost, Bool.not_not, Bool.not_false, Bool.not_true, Bool.false_eq_true, reduceCtorEq, ↓reduceIte, decide_true, decide_false, splice, results, resT, resTs, AV.key, Bool.and_true, Bool.true_and, and_true, true_and, and_self, List.flatMap_nil, List.flatMap_cons, List.append_nil, List.nil_append, List.cons_append, List.map_cons, List.map_nil, List.all_cons, List.all_nil, List.length_cons, List.length_nil, Nat.reduceAdd, Nat.reduceLT, Nat.reduceLeDiff, Nat.reduceEqDiff, Nat.reduceSub, Nat.zero_add, Nat.add_zero, List.drop_succ_cons, List.drop_zero, List.take_succ_cons, List.take_zero]
end Go.Bv

/- BY VALUE, chapter 26: with, put; there, thereErr. -/
set_option linter.unusedSimpArgs false
set_option linter.unusedVariables false
namespace Go.Bv
variable {S : RT}
attribute [local congr] ite_congr congr_bindOps congr_bindC congr_andThen congr_orNone congr_onBool congr_onEff congr_headC
set_option maxRecDepth 100000
set_option maxHeartbeats 40000000
def Told138 (S : RT) : Prop := ∀ rs : List (Bool × ByteArray), rs.length ≤ 1000000 → run T S 138 [.sl (rs.map encR)] = some (.fr 87 2 (rs.map encR))
def put (rs : List (Bool × ByteArray)) (rrn : Int) (r : Bool × ByteArray) : List (Bool × ByteArray) := if rrn > (rs.length : Int) then rs ++ [r] else rs.set (rrn - 1).toNat r
theorem run107 (hS : Told138 S) (fn n : ByteArray) (l : List Fd) (ks : List (ByteArray × Bool)) (u : Bool) (rs : List (Bool × ByteArray)) (rrn : Int) (r : Bool × ByteArray) (hr : rs.length ≤ 100000) (h1 : 1 ≤ rrn) :
    run T S 107 [.agg (tabC fn n l ks u rs), .int .i64 rrn, .agg (encR r)] = some (.agg (tabC fn n l ks u (put rs rrn r))) := by
  have h138 := hS rs (by omega)
  unfold put
  by_cases hb : rrn > (rs.length : Int)
  · have d1 : decide (rrn > (rs.length : Int)) = true := by simpa using hb
    have g1 : ((rs.length + 1) * 24 ≤ 140737488355328) = True := by simp; omega
    have e1 : rs.map encR ++ [[.bool r.1, .str r.2]] = (rs ++ [r]).map encR := by simp [encR]
    rw [if_pos hb]
    simp only [tabC, encR]
    (refine run_fn T107 ⟨rfl, by decide⟩ ?_; rw [start107])
    simp (config := {decide := true, contextual := true, maxSteps := 3000000}) only [F107, h138, d1, g1, e1, List.length_map, List.replicate, ↓simPre, simPost, Bool.not_not, Bool.not_false, Bool.not_true, Bool.false_eq_true, reduceCtorEq, ↓reduceIte, decide_true, decide_false, splice, results, resT, resTs, AV.key, Bool.and_true, Bool.true_and, and_true, true_and, and_self, List.flatMap_nil, List.flatMap_cons, List.append_nil, List.nil_append, List.cons_append, List.map_cons, List.map_nil, List.all_cons, List.all_nil, List.length_cons, List.length_nil, Nat.reduceAdd, Nat.reduceLT, Nat.reduceLeDiff, Nat.reduceEqDiff, Nat.reduceSub, Nat.zero_add, Nat.add_zero, List.drop_succ_cons, List.drop_zero, List.take_succ_cons, List.take_zero]
  · have d1 : decide (rrn > (rs.length : Int)) = false := by simpa using hb
    have w1 : IntKind.wrap .i64 (rrn - 1) = ((rrn - 1).toNat : Int) := by rw [wrap_i64 (by omega) (by omega)]; omega
    obtain ⟨i1, i2, i4, i5⟩ := idx (i := (rrn - 1).toNat) (n := rs.length) (by omega) (by omega)
    have i3 := map_get encR rs (rrn - 1).toNat (false, bs []) (by omega)
    have e1 : (rs.map encR).set (rrn - 1).toNat [.bool r.1, .str r.2] = (rs.set (rrn - 1).toNat r).map encR := by rw [List.map_set]; rfl
    rw [if_neg hb]
    simp only [tabC, encR]
    simp only [encR] at i3
    have n2 : ((rrn - 1).toNat < rs.length) = True := by simp; omega
    have f0 : (0 ≤ (rrn - 1).toNat) = True := by simp
    (refine run_fn T107 ⟨rfl, by decide⟩ ?_; rw [start107])
    simp (config := {decide := true, contextual := true, maxSteps := 3000000}) only [F107, h138, d1, w1, i1, i2, i3, i4, e1, n2, f0, storeA, List.length_map, List.replicate, ↓simPre, simPost, Bool.not_not, Bool.not_false, Bool.not_true, Bool.false_eq_true, reduceCtorEq, ↓reduceIte, decide_true, decide_false, splice, results, resT, resTs, AV.key, Bool.and_true, Bool.true_and, and_true, true_and, and_self, List.flatMap_nil, List.flatMap_cons, List.append_nil, List.nil_append, List.cons_append, List.map_cons, List.map_nil, List.all_cons, List.all_nil, List.length_cons, List.length_nil, Nat.reduceAdd, Nat.reduceLT, Nat.reduceLeDiff, Nat.reduceEqDiff, Nat.reduceSub, Nat.zero_add, Nat.add_zero, List.drop_succ_cons, List.drop_zero, List.take_succ_cons, List.take_zero]
def isDel (rs : List (Bool × ByteArray)) (rrn : Int) : Bool := (rs.getD (rrn - 1).toNat (false, bs [])).1
def thereE (E : Int) (rs : List (Bool × ByteArray)) (rrn : Int) : Int := if (E != 0) = true then E else if (!(decide (1 ≤ rrn) && decide (rrn ≤ (rs.length : Int)))) = true then 3 else if isDel rs rrn = true then 11 else 0
theorem run110 (hS : Told28 S) (fn n : ByteArray) (l : List Fd) (ks : List (ByteArray × Bool)) (u : Bool) (rs : List (Bool × ByteArray)) (rrn : Int) (h : Small fn n l ks rs) :
    run T S 110 [.agg (tabC fn n l ks u rs), .int .i64 rrn] = some (.int .i64 (thereE (checkTable fn n l ks rs).2 rs rrn)) := by
  have h101 := run101 hS fn n l ks u rs h
  have hrs := h.qrs
  unfold thereE
  simp only [tabC] at h101 ⊢
  by_cases cE : (checkTable fn n l ks rs).2 = 0
  · rw [cE] at h101 ⊢
    by_cases hin : 1 ≤ rrn ∧ rrn ≤ (rs.length : Int)
    · have d1 : decide (rrn < 1) = false := by simp; omega
      have d2 : decide (rrn > (rs.length : Int)) = false := by simp; omega
      have d3 : decide (1 ≤ rrn) = true := by simp; omega
      have d4 : decide (rrn ≤ (rs.length : Int)) = true := by simp; omega
      have w1 : IntKind.wrap .i64 (rrn - 1) = ((rrn - 1).toNat : Int) := by rw [wrap_i64 (by omega) (by omega)]; omega
      obtain ⟨i1, i2, i4, i5⟩ := idx (i := (rrn - 1).toNat) (n := rs.length) (by omega) (by omega)
      have i3 := map_get encR rs (rrn - 1).toNat (false, bs []) (by omega)
      simp only [encR] at i3
      have f0 : first [0, cond false 3] = 0 := rfl
      simp only [isDel, d3, d4]
      (refine run_fn T110 ⟨rfl, by decide⟩ ?_; rw [start110])
      simp (config := {decide := true, contextual := true, maxSteps := 3000000}) only [F110, h101, run81, run80_2, d1, d2, w1, i1, i2, i3, i4, f0, List.length_map, List.replicate, ↓simPre, simPost, Bool.not_not, Bool.not_false, Bool.not_true, Bool.false_eq_true, reduceCtorEq, ↓reduceIte, decide_true, decide_false, splice, results, resT, resTs, AV.key, Bool.and_true, Bool.true_and, and_true, true_and, and_self, List.flatMap_nil, List.flatMap_cons, List.append_nil, List.nil_append, List.cons_append, List.map_cons, List.map_nil, List.all_cons, List.all_nil, List.length_cons, List.length_nil, Nat.reduceAdd, Nat.reduceLT, Nat.reduceLeDiff, Nat.reduceEqDiff, Nat.reduceSub, Nat.zero_add, Nat.add_zero, List.drop_succ_cons, List.drop_zero, List.take_succ_cons, List.take_zero]
      rfl
    · have d1 : (decide (rrn < 1) || decide (rrn > (rs.length : Int))) = true := by simp; omega
      have d3 : (!(decide (1 ≤ rrn) && decide (rrn ≤ (rs.length : Int)))) = true := by simp; omega
      have f0 : first [0, cond true 3] = 3 := rfl
      rw [if_pos d3]
      by_cases dd : rrn < 1
      · have d5 : decide (rrn < 1) = true := by simpa using dd
        (refine run_fn T110 ⟨rfl, by decide⟩ ?_; rw [start110])
        simp (config := {decide := true, contextual := true, maxSteps := 3000000}) only [F110, h101, run81, run80_2, d5, f0, List.length_map, List.replicate, ↓simPre, simPost, Bool.not_not, Bool.not_false, Bool.not_true, Bool.false_eq_true, reduceCtorEq, ↓reduceIte, decide_true, decide_false, splice, results, resT, resTs, AV.key, Bool.and_true, Bool.true_and, and_true, true_and, and_self, List.flatMap_nil, List.flatMap_cons, List.append_nil, List.nil_append, List.cons_append, List.map_cons, List.map_nil, List.all_cons, List.all_nil, List.length_cons, List.length_nil, Nat.reduceAdd, Nat.reduceLT, Nat.reduceLeDiff, Nat.reduceEqDiff, Nat.reduceSub, Nat.zero_add, Nat.add_zero, List.drop_succ_cons, List.drop_zero, List.take_succ_cons, List.take_zero]
      · have d5 : decide (rrn < 1) = false := by simpa using dd
        have d6 : decide (rrn > (rs.length : Int)) = true := by simp; omega
        (refine run_fn T110 ⟨rfl, by decide⟩ ?_; rw [start110])
        simp (config := {decide := true, contextual := true, maxSteps := 3000000}) only [F110, h101, run81, run80_2, d5, d6, f0, List.length_map, List.replicate, ↓simPre, simPost, Bool.not_not, Bool.not_false, Bool.not_true, Bool.false_eq_true, reduceCtorEq, ↓reduceIte, decide_true, decide_false, splice, results, resT, resTs, AV.key, Bool.and_true, Bool.true_and, and_true, true_and, and_self, List.flatMap_nil, List.flatMap_cons, List.append_nil, List.nil_append, List.cons_append, List.map_cons, List.map_nil, List.all_cons, List.all_nil, List.length_cons, List.length_nil, Nat.reduceAdd, Nat.reduceLT, Nat.reduceLeDiff, Nat.reduceEqDiff, Nat.reduceSub, Nat.zero_add, Nat.add_zero, List.drop_succ_cons, List.drop_zero, List.take_succ_cons, List.take_zero]
  · have cEb : ((checkTable fn n l ks rs).2 != 0) = true := by simpa using cE
    have f0 : ∀ x, first [(checkTable fn n l ks rs).2, x] = (checkTable fn n l ks rs).2 := fun x => by simp [first, cE]
    rw [if_pos cEb]
    by_cases dd : rrn < 1
    · have d5 : decide (rrn < 1) = true := by simpa using dd
      (refine run_fn T110 ⟨rfl, by decide⟩ ?_; rw [start110])
      simp (config := {decide := true, contextual := true, maxSteps := 3000000}) only [F110, h101, run81, run80_2, d5, f0, cEb, List.length_map, List.replicate, ↓simPre, simPost, Bool.not_not, Bool.not_false, Bool.not_true, Bool.false_eq_true, reduceCtorEq, ↓reduceIte, decide_true, decide_false, splice, results, resT, resTs, AV.key, Bool.and_true, Bool.true_and, and_true, true_and, and_self, List.flatMap_nil, List.flatMap_cons, List.append_nil, List.nil_append, List.cons_append, List.map_cons, List.map_nil, List.all_cons, List.all_nil, List.length_cons, List.length_nil, Nat.reduceAdd, Nat.reduceLT, Nat.reduceLeDiff, Nat.reduceEqDiff, Nat.reduceSub, Nat.zero_add, Nat.add_zero, List.drop_succ_cons, List.drop_zero, List.take_succ_cons, List.take_zero]
    · have d5 : decide (rrn < 1) = false := by simpa using dd
      (refine run_fn T110 ⟨rfl, by decide⟩ ?_; rw [start110])
      simp (config := {decide := true, contextual := true, maxSteps := 3000000}) only [F110, h101, run81, run80_2, d5, f0, cEb, List.length_map, List.replicate, ↓simPre, simPost, Bool.not_not, Bool.not_false, Bool.not_true, Bool.false_eq_true, reduceCtorEq, ↓reduceIte, decide_true, decide_false, splice, results, resT, resTs, AV.key, Bool.and_true, Bool.true_and, and_true, true_and, and_self, List.flatMap_nil, List.flatMap_cons, List.append_nil, List.nil_append, List.cons_append, List.map_cons, List.map_nil, List.all_cons, List.all_nil, List.length_cons, List.length_nil, Nat.reduceAdd, Nat.reduceLT, Nat.reduceLeDiff, Nat.reduceEqDiff, Nat.reduceSub, Nat.zero_add, Nat.add_zero, List.drop_succ_cons, List.drop_zero, List.take_succ_cons, List.take_zero]
/-- The zero value of a table. -/
abbrev noTab : List AV := [.str (bs []), .str (bs []), .sl [], .sl [], .bool false, .sl []]
end Go.Bv
