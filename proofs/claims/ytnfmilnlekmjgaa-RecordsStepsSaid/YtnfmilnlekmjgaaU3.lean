/- BY VALUE, chapter 26: SameFormat, SameFile, SameRecords, SameTable; tableErr, TableErr. -/
import Derived.Test.YtnfmilnlekmjgaaU2
set_option linter.unusedSimpArgs false
set_option linter.unusedVariables false
namespace Go.Bv
variable {S : RT}
attribute [local congr] ite_congr congr_bindOps congr_bindC congr_andThen congr_orNone congr_onBool congr_onEff congr_headC
set_option maxRecDepth 100000
set_option maxHeartbeats 40000000
def zipEq {α : Type} (f : α → α → Bool) (d : α) : List α → List α → Bool
  | [], _ => true
  | a :: l, m => f a (m.getD 0 d) && zipEq f d l (m.drop 1)
theorem zipEq_refl {α : Type} (f : α → α → Bool) (d : α) (hf : ∀ a, f a a = true) (l : List α) : zipEq f d l l = true := by
  induction l with
  | nil => rfl
  | cons a l ih => simp [zipEq, hf, ih]
theorem drop_get0 {α : Type} (m : List α) (i : Nat) (d : α) : (m.drop i).getD 0 d = m.getD i d := by simp [List.getD_eq_getElem?_getD]
def fdEq (a b : Fd) : Bool := a.name.toList == b.name.toList && (a.t.k == b.t.k && (a.t.l == b.t.l && a.t.s == b.t.s))
def kEq (a b : ByteArray × Bool) : Bool := a.1.toList == b.1.toList && a.2 == b.2
def rEq (a b : Bool × ByteArray) : Bool := a.1 == b.1 && a.2.toList == b.2.toList
def sameFormat (n : ByteArray) (l : List Fd) (n' : ByteArray) (l' : List Fd) : Bool := if (!(n.toList == n'.toList) || ((l.length : Int) != (l'.length : Int))) = true then false else zipEq fdEq default l l'
theorem run137 (n n' : ByteArray) (l l' : List Fd) (hl : l.length ≤ 1000000) : run T S 137 [.agg [.str n, .sl (l.map encF)], .agg [.str n', .sl (l'.map encF)]] = some (.bool (sameFormat n l n' l')) := by
  unfold sameFormat
  cases hx : (n.toList == n'.toList) with
  | false =>
    simp only [Bool.not_false, Bool.true_or, if_true]
    (refine run_fn T137 ⟨rfl, by decide⟩ ?_; rw [start137])
    simp (config := {decide := true, contextual := true, maxSteps := 3000000}) only [F137, hx, List.length_map, List.replicate, ↓simPre, simPost, Bool.not_not, Bool.not_false, Bool.not_true, Bool.false_eq_true, reduceCtorEq, ↓reduceIte, decide_true, decide_false, splice, results, resT, resTs, AV.key, Bool.and_true, Bool.true_and, and_true, true_and, and_self, List.flatMap_nil, List.flatMap_cons, List.append_nil, List.nil_append, List.cons_append, List.map_cons, List.map_nil, List.all_cons, List.all_nil, List.length_cons, List.length_nil, Nat.reduceAdd, Nat.reduceLT, Nat.reduceLeDiff, Nat.reduceEqDiff, Nat.reduceSub, Nat.zero_add, Nat.add_zero, List.drop_succ_cons, List.drop_zero, List.take_succ_cons, List.take_zero]
  | true =>
  simp only [Bool.not_true, Bool.false_or]
  (refine run_fn T137 ⟨rfl, by decide⟩ ?_; rw [start137])
  simp (config := {decide := true, contextual := true, maxSteps := 3000000}) only [F137, hx, List.length_map, List.replicate, ↓simPre, simPost, Bool.not_not, Bool.not_false, Bool.not_true, Bool.false_eq_true, reduceCtorEq, ↓reduceIte, decide_true, decide_false, splice, results, resT, resTs, AV.key, Bool.and_true, Bool.true_and, and_true, true_and, and_self, List.flatMap_nil, List.flatMap_cons, List.append_nil, List.nil_append, List.cons_append, List.map_cons, List.map_nil, List.all_cons, List.all_nil, List.length_cons, List.length_nil, Nat.reduceAdd, Nat.reduceLT, Nat.reduceLeDiff, Nat.reduceEqDiff, Nat.reduceSub, Nat.zero_add, Nat.add_zero, List.drop_succ_cons, List.drop_zero, List.take_succ_cons, List.take_zero]
  split
  · rfl
  rename_i hh
  have hll : l.length = l'.length := by simp at hh; omega
  refine Eq.trans (headC_ind (σ := Nat) (fun i => ⟨[.unk, .unk, .ptr 2 0 0, .ptr 3 0 0, .unk, .int .i64 i] ++ List.replicate 32 .unk, [⟨0, .dead⟩, ⟨0, .dead⟩, ⟨0, .box [.str n, .sl (l.map encF)]⟩, ⟨0, .box [.str n', .sl (l'.map encF)]⟩] ++ List.replicate 34 ⟨0, .dead⟩⟩)
    (fun i => some (AV.bool (zipEq fdEq default (l.drop i) (l'.drop i)))) (fun i => l.length - i) (fun i => i ≤ l.length) ?_ 0 (Nat.zero_le _)) (by simp)
  intro i hi ih
  by_cases hlt : i < l.length
  · obtain ⟨h1, h2, h4, h5⟩ := idx hlt (by omega)
    have h2' : ((i : Int) < (l'.length : Int)) = True := by simp; omega
    have h3 := map_get encF l i default hlt
    have h3' := map_get encF l' i default (by omega)
    have hih := ih (i + 1) (by omega) (by omega)
    rw [drop_cons default hlt]
    simp only [encF] at h3 h3'
    simp only [zipEq, drop_get0, List.drop_drop]
    simp (config := {decide := true, contextual := true, maxSteps := 3000000}) only [h1, h2, h2', h3, h3', h4, h5, List.length_map, List.replicate, ↓simPre, simPost, Bool.not_not, Bool.not_false, Bool.not_true, Bool.false_eq_true, reduceCtorEq, ↓reduceIte, decide_true, decide_false, splice, results, resT, resTs, AV.key, Bool.and_true, Bool.true_and, and_true, true_and, and_self, List.flatMap_nil, List.flatMap_cons, List.append_nil, List.nil_append, List.cons_append, List.map_cons, List.map_nil, List.all_cons, List.all_nil, List.length_cons, List.length_nil, Nat.reduceAdd, Nat.reduceLT, Nat.reduceLeDiff, Nat.reduceEqDiff, Nat.reduceSub, Nat.zero_add, Nat.add_zero, List.drop_succ_cons, List.drop_zero, List.take_succ_cons, List.take_zero]
    by_cases hc : fdEq (l.getD i default) (l'.getD i default) = true
    · have h' : ((l.getD i default).name.toList == (l'.getD i default).name.toList && ((l.getD i default).t.k == (l'.getD i default).t.k && ((l.getD i default).t.l == (l'.getD i default).t.l && (l.getD i default).t.s == (l'.getD i default).t.s))) = true := hc
      rw [hc]
      refine (if_neg (by rw [h']; decide)).trans ?_
      exact hih
    · have hc' : fdEq (l.getD i default) (l'.getD i default) = false := by simpa using hc
      have h' : ((l.getD i default).name.toList == (l'.getD i default).name.toList && ((l.getD i default).t.k == (l'.getD i default).t.k && ((l.getD i default).t.l == (l'.getD i default).t.l && (l.getD i default).t.s == (l'.getD i default).t.s))) = false := hc'
      rw [hc']
      exact if_pos (by rw [h']; rfl)
  · have h2 := idxEnd (Nat.le_of_not_lt hlt)
    have h7 : l.drop i = [] := List.drop_eq_nil_of_le (by omega)
    simp (config := {decide := true, contextual := true, maxSteps := 3000000}) only [h2, h7, zipEq, List.length_map, List.replicate, ↓simPre, simPost, Bool.not_not, Bool.not_false, Bool.not_true, Bool.false_eq_true, reduceCtorEq, ↓reduceIte, decide_true, decide_false, splice, results, resT, resTs, AV.key, Bool.and_true, Bool.true_and, and_true, true_and, and_self, List.flatMap_nil, List.flatMap_cons, List.append_nil, List.nil_append, List.cons_append, List.map_cons, List.map_nil, List.all_cons, List.all_nil, List.length_cons, List.length_nil, Nat.reduceAdd, Nat.reduceLT, Nat.reduceLeDiff, Nat.reduceEqDiff, Nat.reduceSub, Nat.zero_add, Nat.add_zero, List.drop_succ_cons, List.drop_zero, List.take_succ_cons, List.take_zero]
def sameRecs (a b : List (Bool × ByteArray)) : Bool := if ((a.length : Int) != (b.length : Int)) = true then false else zipEq rEq (false, bs []) a b
theorem run103 (a b : List (Bool × ByteArray)) (ha : a.length ≤ 1000000) : run T S 103 [.sl (a.map encR), .sl (b.map encR)] = some (.bool (sameRecs a b)) := by
  unfold sameRecs
  (refine run_fn T103 ⟨rfl, by decide⟩ ?_; rw [start103])
  simp (config := {decide := true, contextual := true, maxSteps := 3000000}) only [F103, List.length_map, List.replicate, ↓simPre, simPost, Bool.not_not, Bool.not_false, Bool.not_true, Bool.false_eq_true, reduceCtorEq, ↓reduceIte, decide_true, decide_false, splice, results, resT, resTs, AV.key, Bool.and_true, Bool.true_and, and_true, true_and, and_self, List.flatMap_nil, List.flatMap_cons, List.append_nil, List.nil_append, List.cons_append, List.map_cons, List.map_nil, List.all_cons, List.all_nil, List.length_cons, List.length_nil, Nat.reduceAdd, Nat.reduceLT, Nat.reduceLeDiff, Nat.reduceEqDiff, Nat.reduceSub, Nat.zero_add, Nat.add_zero, List.drop_succ_cons, List.drop_zero, List.take_succ_cons, List.take_zero]
  split
  · rfl
  rename_i hab
  have hab : a.length = b.length := by simp at hab; omega
  refine Eq.trans (headC_ind (σ := Nat) (fun i => ⟨[.sl (a.map encR), .sl (b.map encR), .unk, .unk, .unk, .int .i64 i] ++ List.replicate 20 .unk, List.replicate 26 ⟨0, .dead⟩⟩)
    (fun i => some (AV.bool (zipEq rEq (false, bs []) (a.drop i) (b.drop i)))) (fun i => a.length - i) (fun i => i ≤ a.length) ?_ 0 (Nat.zero_le _)) (by simp only [List.drop_zero])
  intro i hi ih
  by_cases hlt : i < a.length
  · obtain ⟨h1, h2, h4, h5⟩ := idx hlt (by omega)
    have h2' : ((i : Int) < (b.length : Int)) = True := by simp; omega
    have h3 := map_get encR a i (false, bs []) hlt
    have h3' := map_get encR b i (false, bs []) (by omega)
    have hih := ih (i + 1) (by omega) (by omega)
    rw [drop_cons (false, bs []) hlt]
    simp only [encR] at h3 h3'
    simp only [zipEq, drop_get0, List.drop_drop]
    simp (config := {decide := true, contextual := true, maxSteps := 3000000}) only [h1, h2, h2', h3, h3', h4, h5, List.length_map, List.replicate, ↓simPre, simPost, Bool.not_not, Bool.not_false, Bool.not_true, Bool.false_eq_true, reduceCtorEq, ↓reduceIte, decide_true, decide_false, splice, results, resT, resTs, AV.key, Bool.and_true, Bool.true_and, and_true, true_and, and_self, List.flatMap_nil, List.flatMap_cons, List.append_nil, List.nil_append, List.cons_append, List.map_cons, List.map_nil, List.all_cons, List.all_nil, List.length_cons, List.length_nil, Nat.reduceAdd, Nat.reduceLT, Nat.reduceLeDiff, Nat.reduceEqDiff, Nat.reduceSub, Nat.zero_add, Nat.add_zero, List.drop_succ_cons, List.drop_zero, List.take_succ_cons, List.take_zero]
    by_cases hc : rEq (a.getD i (false, bs [])) (b.getD i (false, bs [])) = true
    · have h' : ((a.getD i (false, bs [])).1 == (b.getD i (false, bs [])).1 && (a.getD i (false, bs [])).2.toList == (b.getD i (false, bs [])).2.toList) = true := hc
      rw [hc]
      refine (if_neg (by rw [h']; decide)).trans ?_
      exact hih
    · have hc' : rEq (a.getD i (false, bs [])) (b.getD i (false, bs [])) = false := by simpa using hc
      have h' : ((a.getD i (false, bs [])).1 == (b.getD i (false, bs [])).1 && (a.getD i (false, bs [])).2.toList == (b.getD i (false, bs [])).2.toList) = false := hc'
      rw [hc']
      exact if_pos (by rw [h']; rfl)
  · have h2 := idxEnd (Nat.le_of_not_lt hlt)
    have h7 : a.drop i = [] := List.drop_eq_nil_of_le (by omega)
    simp (config := {decide := true, contextual := true, maxSteps := 3000000}) only [h2, h7, zipEq, List.length_map, List.replicate, ↓simPre, simPost, Bool.not_not, Bool.not_false, Bool.not_true, Bool.false_eq_true, reduceCtorEq, ↓reduceIte, decide_true, decide_false, splice, results, resT, resTs, AV.key, Bool.and_true, Bool.true_and, and_true, true_and, and_self, List.flatMap_nil, List.flatMap_cons, List.append_nil, List.nil_append, List.cons_append, List.map_cons, List.map_nil, List.all_cons, List.all_nil, List.length_cons, List.length_nil, Nat.reduceAdd, Nat.reduceLT, Nat.reduceLeDiff, Nat.reduceEqDiff, Nat.reduceSub, Nat.zero_add, Nat.add_zero, List.drop_succ_cons, List.drop_zero, List.take_succ_cons, List.take_zero]
def sameFile (fn n : ByteArray) (l : List Fd) (ks : List (ByteArray × Bool)) (u : Bool) (fn' n' : ByteArray) (l' : List Fd) (ks' : List (ByteArray × Bool)) (u' : Bool) : Bool :=
  if (((!(fn.toList == fn'.toList) || !(u == u')) || !sameFormat n l n' l') || ((ks.length : Int) != (ks'.length : Int))) = true then false else zipEq kEq (bs [], false) ks ks'
theorem run102 (fn n : ByteArray) (l : List Fd) (ks : List (ByteArray × Bool)) (u : Bool) (fn' n' : ByteArray) (l' : List Fd) (ks' : List (ByteArray × Bool)) (u' : Bool) (hl : l.length ≤ 1000000) (hk : ks.length ≤ 1000000) :
    run T S 102 [.agg (fileC fn n l ks u), .agg (fileC fn' n' l' ks' u')] = some (.bool (sameFile fn n l ks u fn' n' l' ks' u')) := by
  have h137 := run137 (S := S) n n' l l' hl
  unfold sameFile
  simp only [fileC]
  cases hx : (fn.toList == fn'.toList) with
  | false =>
    simp only [Bool.not_false, Bool.true_or, if_true]
    (refine run_fn T102 ⟨rfl, by decide⟩ ?_; rw [start102])
    simp (config := {decide := true, contextual := true, maxSteps := 3000000}) only [F102, hx, List.length_map, List.replicate, ↓simPre, simPost, Bool.not_not, Bool.not_false, Bool.not_true, Bool.false_eq_true, reduceCtorEq, ↓reduceIte, decide_true, decide_false, splice, results, resT, resTs, AV.key, Bool.and_true, Bool.true_and, and_true, true_and, and_self, List.flatMap_nil, List.flatMap_cons, List.append_nil, List.nil_append, List.cons_append, List.map_cons, List.map_nil, List.all_cons, List.all_nil, List.length_cons, List.length_nil, Nat.reduceAdd, Nat.reduceLT, Nat.reduceLeDiff, Nat.reduceEqDiff, Nat.reduceSub, Nat.zero_add, Nat.add_zero, List.drop_succ_cons, List.drop_zero, List.take_succ_cons, List.take_zero]
  | true =>
  cases hy : (u == u') with
  | false =>
    simp only [Bool.not_false, Bool.true_or, Bool.or_true, if_true]
    (refine run_fn T102 ⟨rfl, by decide⟩ ?_; rw [start102])
    simp (config := {decide := true, contextual := true, maxSteps := 3000000}) only [F102, hx, hy, List.length_map, List.replicate, ↓simPre, simPost, Bool.not_not, Bool.not_false, Bool.not_true, Bool.false_eq_true, reduceCtorEq, ↓reduceIte, decide_true, decide_false, splice, results, resT, resTs, AV.key, Bool.and_true, Bool.true_and, and_true, true_and, and_self, List.flatMap_nil, List.flatMap_cons, List.append_nil, List.nil_append, List.cons_append, List.map_cons, List.map_nil, List.all_cons, List.all_nil, List.length_cons, List.length_nil, Nat.reduceAdd, Nat.reduceLT, Nat.reduceLeDiff, Nat.reduceEqDiff, Nat.reduceSub, Nat.zero_add, Nat.add_zero, List.drop_succ_cons, List.drop_zero, List.take_succ_cons, List.take_zero]
  | true =>
  cases hz : sameFormat n l n' l' with
  | false =>
    simp only [Bool.not_false, Bool.true_or, Bool.or_true, if_true]
    (refine run_fn T102 ⟨rfl, by decide⟩ ?_; rw [start102])
    simp (config := {decide := true, contextual := true, maxSteps := 3000000}) only [F102, hx, hy, h137, hz, List.length_map, List.replicate, ↓simPre, simPost, Bool.not_not, Bool.not_false, Bool.not_true, Bool.false_eq_true, reduceCtorEq, ↓reduceIte, decide_true, decide_false, splice, results, resT, resTs, AV.key, Bool.and_true, Bool.true_and, and_true, true_and, and_self, List.flatMap_nil, List.flatMap_cons, List.append_nil, List.nil_append, List.cons_append, List.map_cons, List.map_nil, List.all_cons, List.all_nil, List.length_cons, List.length_nil, Nat.reduceAdd, Nat.reduceLT, Nat.reduceLeDiff, Nat.reduceEqDiff, Nat.reduceSub, Nat.zero_add, Nat.add_zero, List.drop_succ_cons, List.drop_zero, List.take_succ_cons, List.take_zero]
  | true =>
  simp only [Bool.not_true, Bool.false_or]
  (refine run_fn T102 ⟨rfl, by decide⟩ ?_; rw [start102])
  simp (config := {decide := true, contextual := true, maxSteps := 3000000}) only [F102, hx, hy, h137, hz, List.length_map, List.replicate, ↓simPre, simPost, Bool.not_not, Bool.not_false, Bool.not_true, Bool.false_eq_true, reduceCtorEq, ↓reduceIte, decide_true, decide_false, splice, results, resT, resTs, AV.key, Bool.and_true, Bool.true_and, and_true, true_and, and_self, List.flatMap_nil, List.flatMap_cons, List.append_nil, List.nil_append, List.cons_append, List.map_cons, List.map_nil, List.all_cons, List.all_nil, List.length_cons, List.length_nil, Nat.reduceAdd, Nat.reduceLT, Nat.reduceLeDiff, Nat.reduceEqDiff, Nat.reduceSub, Nat.zero_add, Nat.add_zero, List.drop_succ_cons, List.drop_zero, List.take_succ_cons, List.take_zero]
  split
  · rfl
  rename_i hh
  have hab : ks.length = ks'.length := by simp at hh; omega
  refine Eq.trans (headC_ind (σ := Nat) (fun i => ⟨[.unk, .unk, .ptr 2 0 0, .ptr 3 0 0, .unk, .int .i64 i] ++ List.replicate 47 .unk, [⟨0, .dead⟩, ⟨0, .dead⟩, ⟨0, .box [.str fn, .str n, .sl (l.map encF), .sl (ks.map encK), .bool u]⟩, ⟨0, .box [.str fn', .str n', .sl (l'.map encF), .sl (ks'.map encK), .bool u']⟩] ++ List.replicate 49 ⟨0, .dead⟩⟩)
    (fun i => some (AV.bool (zipEq kEq (bs [], false) (ks.drop i) (ks'.drop i)))) (fun i => ks.length - i) (fun i => i ≤ ks.length) ?_ 0 (Nat.zero_le _)) (by simp)
  intro i hi ih
  by_cases hlt : i < ks.length
  · obtain ⟨h1, h2, h4, h5⟩ := idx hlt (by omega)
    have h2' : ((i : Int) < (ks'.length : Int)) = True := by simp; omega
    have h3 := map_get encK ks i (bs [], false) hlt
    have h3' := map_get encK ks' i (bs [], false) (by omega)
    have hih := ih (i + 1) (by omega) (by omega)
    rw [drop_cons (bs [], false) hlt]
    simp only [encK] at h3 h3'
    simp only [zipEq, drop_get0, List.drop_drop]
    simp (config := {decide := true, contextual := true, maxSteps := 3000000}) only [h1, h2, h2', h3, h3', h4, h5, List.length_map, List.replicate, ↓simPre, simPost, Bool.not_not, Bool.not_false, Bool.not_true, Bool.false_eq_true, reduceCtorEq, ↓reduceIte, decide_true, decide_false, splice, results, resT, resTs, AV.key, Bool.and_true, Bool.true_and, and_true, true_and, and_self, List.flatMap_nil, List.flatMap_cons, List.append_nil, List.nil_append, List.cons_append, List.map_cons, List.map_nil, List.all_cons, List.all_nil, List.length_cons, List.length_nil, Nat.reduceAdd, Nat.reduceLT, Nat.reduceLeDiff, Nat.reduceEqDiff, Nat.reduceSub, Nat.zero_add, Nat.add_zero, List.drop_succ_cons, List.drop_zero, List.take_succ_cons, List.take_zero]
    by_cases hc : kEq (ks.getD i (bs [], false)) (ks'.getD i (bs [], false)) = true
    · have h' : ((ks.getD i (bs [], false)).1.toList == (ks'.getD i (bs [], false)).1.toList && (ks.getD i (bs [], false)).2 == (ks'.getD i (bs [], false)).2) = true := hc
      rw [hc]
      refine (if_neg (by rw [h']; decide)).trans ?_
      exact hih
    · have hc' : kEq (ks.getD i (bs [], false)) (ks'.getD i (bs [], false)) = false := by simpa using hc
      have h' : ((ks.getD i (bs [], false)).1.toList == (ks'.getD i (bs [], false)).1.toList && (ks.getD i (bs [], false)).2 == (ks'.getD i (bs [], false)).2) = false := hc'
      rw [hc']
      exact if_pos (by rw [h']; rfl)
  · have h2 := idxEnd (Nat.le_of_not_lt hlt)
    have h7 : ks.drop i = [] := List.drop_eq_nil_of_le (by omega)
    simp (config := {decide := true, contextual := true, maxSteps := 3000000}) only [h2, h7, zipEq, List.length_map, List.replicate, ↓simPre, simPost, Bool.not_not, Bool.not_false, Bool.not_true, Bool.false_eq_true, reduceCtorEq, ↓reduceIte, decide_true, decide_false, splice, results, resT, resTs, AV.key, Bool.and_true, Bool.true_and, and_true, true_and, and_self, List.flatMap_nil, List.flatMap_cons, List.append_nil, List.nil_append, List.cons_append, List.map_cons, List.map_nil, List.all_cons, List.all_nil, List.length_cons, List.length_nil, Nat.reduceAdd, Nat.reduceLT, Nat.reduceLeDiff, Nat.reduceEqDiff, Nat.reduceSub, Nat.zero_add, Nat.add_zero, List.drop_succ_cons, List.drop_zero, List.take_succ_cons, List.take_zero]
theorem run43 (fn n : ByteArray) (l : List Fd) (ks : List (ByteArray × Bool)) (u : Bool) (rs : List (Bool × ByteArray)) (fn' n' : ByteArray) (l' : List Fd) (ks' : List (ByteArray × Bool)) (u' : Bool) (rs' : List (Bool × ByteArray)) (hl : l.length ≤ 1000000) (hk : ks.length ≤ 1000000) (hr : rs.length ≤ 1000000) :
    run T S 43 [.agg (tabC fn n l ks u rs), .agg (tabC fn' n' l' ks' u' rs')] = some (.bool (sameFile fn n l ks u fn' n' l' ks' u' && sameRecs rs rs')) := by
  have h102 := run102 (S := S) fn n l ks u fn' n' l' ks' u' hl hk
  have h103 := run103 (S := S) rs rs' hr
  simp only [fileC] at h102
  simp only [tabC]
  (refine run_fn T43 ⟨rfl, by decide⟩ ?_; rw [start43])
  simp (config := {decide := true, contextual := true, maxSteps := 3000000}) only [F43, h102, h103, List.replicate, ↓simPre, simPost, Bool.not_not, Bool.not_false, Bool.not_true, Bool.false_eq_true, reduceCtorEq, ↓reduceIte, decide_true, decide_false, splice, results, resT, resTs, AV.key, Bool.and_true, Bool.true_and, and_true, true_and, and_self, List.flatMap_nil, List.flatMap_cons, List.append_nil, List.nil_append, List.cons_append, List.map_cons, List.map_nil, List.all_cons, List.all_nil, List.length_cons, List.length_nil, Nat.reduceAdd, Nat.reduceLT, Nat.reduceLeDiff, Nat.reduceEqDiff, Nat.reduceSub, Nat.zero_add, Nat.add_zero, List.drop_succ_cons, List.drop_zero, List.take_succ_cons, List.take_zero]
theorem sameFormat_refl (n : ByteArray) (l : List Fd) : sameFormat n l n l = true := by simp [sameFormat, zipEq_refl, fdEq]
theorem sameFile_refl (fn n : ByteArray) (l : List Fd) (ks : List (ByteArray × Bool)) (u : Bool) : sameFile fn n l ks u fn n l ks u = true := by simp [sameFile, sameFormat_refl, zipEq_refl, kEq]
theorem sameRecs_refl (a : List (Bool × ByteArray)) : sameRecs a a = true := by simp [sameRecs, zipEq_refl, rEq]
theorem run45 (fn n : ByteArray) (l : List Fd) (ks : List (ByteArray × Bool)) (u : Bool) (rs : List (Bool × ByteArray)) (h : Small fn n l ks rs) : run T S 45 [.agg (tabC fn n l ks u rs)] = some (.int .i64 (checkTable fn n l ks rs).2) := by
  have h39 := run39 (S := S) fn n l ks u rs h
  simp only [tabC] at h39 ⊢
  (refine run_fn T45 ⟨rfl, by decide⟩ ?_; rw [start45])
  simp (config := {decide := true, contextual := true, maxSteps := 3000000}) only [F45, h39, List.replicate, ↓simPre, simPost, Bool.not_not, Bool.not_false, Bool.not_true, Bool.false_eq_true, reduceCtorEq, ↓reduceIte, decide_true, decide_false, splice, results, resT, resTs, AV.key, Bool.and_true, Bool.true_and, and_true, true_and, and_self, List.flatMap_nil, List.flatMap_cons, List.append_nil, List.nil_append, List.cons_append, List.map_cons, List.map_nil, List.all_cons, List.all_nil, List.length_cons, List.length_nil, Nat.reduceAdd, Nat.reduceLT, Nat.reduceLeDiff, Nat.reduceEqDiff, Nat.reduceSub, Nat.zero_add, Nat.add_zero, List.drop_succ_cons, List.drop_zero, List.take_succ_cons, List.take_zero]
theorem run101 (hS : Told28 S) (fn n : ByteArray) (l : List Fd) (ks : List (ByteArray × Bool)) (u : Bool) (rs : List (Bool × ByteArray)) (h : Small fn n l ks rs) : run T S 101 [.agg (tabC fn n l ks u rs)] = some (.int .i64 (checkTable fn n l ks rs).2) := by
  have h37 := run37 hS fn n l ks u rs h
  simp only [tabC] at h37 ⊢
  (refine run_fn T101 ⟨rfl, by decide⟩ ?_; rw [start101])
  simp (config := {decide := true, contextual := true, maxSteps := 3000000}) only [F101, h37, List.replicate, ↓simPre, simPost, Bool.not_not, Bool.not_false, Bool.not_true, Bool.false_eq_true, reduceCtorEq, ↓reduceIte, decide_true, decide_false, splice, results, resT, resTs, AV.key, Bool.and_true, Bool.true_and, and_true, true_and, and_self, List.flatMap_nil, List.flatMap_cons, List.append_nil, List.nil_append, List.cons_append, List.map_cons, List.map_nil, List.all_cons, List.all_nil, List.length_cons, List.length_nil, Nat.reduceAdd, Nat.reduceLT, Nat.reduceLeDiff, Nat.reduceEqDiff, Nat.reduceSub, Nat.zero_add, Nat.add_zero, List.drop_succ_cons, List.drop_zero, List.take_succ_cons, List.take_zero]
end Go.Bv
