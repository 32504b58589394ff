/- BY VALUE, chapter 26: Reorganized and its reference; RecordsTables' function gives true. -/
import Derived.Test.YtnfmilnlekmjgaaU8
set_option linter.unusedSimpArgs false
set_option linter.unusedVariables false
namespace Go.Bv
attribute [local congr] ite_congr congr_bindOps congr_bindC congr_andThen congr_orNone congr_onBool congr_onEff congr_headC
set_option maxRecDepth 100000
set_option maxHeartbeats 40000000
def keptL : List (Bool × ByteArray) → List (Bool × ByteArray)
  | [] => []
  | r :: l => if r.1 = true then keptL l else r :: keptL l
def oldsL : List (Bool × ByteArray) → Nat → List Int
  | [], _ => []
  | r :: l, i => if r.1 = true then oldsL l (i + 1) else ((i + 1 : Nat) : Int) :: oldsL l (i + 1)
section
variable {S : RT} (fn n : ByteArray) (l : List Fd) (ks : List (ByteArray × Bool)) (u : Bool) (rs : List (Bool × ByteArray))
abbrev tab0 (fn n : ByteArray) (l : List Fd) (ks : List (ByteArray × Bool)) (u : Bool) (rs : List (Bool × ByteArray)) : List AV := [.str fn, .str n, .sl (l.map encF), .sl (ks.map encK), .bool u, .sl (rs.map encR)]
abbrev zeroT : List AV := [.str (bs []), .str (bs []), .nil, .nil, .bool false, .nil]
def st40 (fn n : ByteArray) (l : List Fd) (ks : List (ByteArray × Bool)) (u : Bool) (rs : List (Bool × ByteArray)) (x : Nat × List (Bool × ByteArray) × List Int) : Env := match x.2.1 with
  | [] => ⟨[.unk, .ptr 1 0 0, .ptr 2 0 0, .unk, .unk, .unk, .nil, .nil] ++ List.replicate 9 .unk ++ [.sl (rs.map encR), .int .i64 rs.length, .int .i64 x.1] ++ List.replicate 21 .unk,
      [⟨0, .dead⟩, ⟨0, .box (tab0 fn n l ks u rs)⟩, ⟨0, .box zeroT⟩] ++ List.replicate 38 ⟨0, .dead⟩⟩
  | r :: L => ⟨[.unk, .ptr 1 0 0, .ptr 2 0 0, .unk, .unk, .unk, .own 30 0, .own 35 0] ++ List.replicate 9 .unk ++ [.sl (rs.map encR), .int .i64 rs.length, .int .i64 x.1] ++ List.replicate 21 .unk,
      [⟨0, .dead⟩, ⟨0, .box (tab0 fn n l ks u rs)⟩, ⟨0, .box zeroT⟩] ++ List.replicate 27 ⟨0, .dead⟩ ++ [⟨0, .row 87 2 0 ((r :: L).map encR)⟩] ++ List.replicate 4 ⟨0, .dead⟩ ++ [⟨0, .row 3 1 0 (ints x.2.2)⟩] ++ List.replicate 5 ⟨0, .dead⟩⟩
theorem run40 (hS : Told28 S) (h : Small fn n l ks rs) : run T S 40 [.agg (tabC fn n l ks u rs)] =
    some (if ((checkTable fn n l ks rs).2 != 0) = true then .tup [.agg noTab, .sl [], .int .i64 (checkTable fn n l ks rs).2] else .tup [.agg (tabC fn n l ks u (keptL rs)), .sl (ints (oldsL rs 0)), .int .i64 0]) := by
  have h101 := run101 hS fn n l ks u rs h
  have hrs := h.qrs
  simp only [tabC] at h101 ⊢
  generalize (checkTable fn n l ks rs).2 = E at *
  by_cases hE : E = 0
  case neg =>
    have hE' : (E != 0) = true := by simpa using hE
    simp only [hE', if_true]
    (refine run_fn T40 ⟨rfl, by decide⟩ ?_; rw [start40])
    simp (config := {decide := true, contextual := true, maxSteps := 3000000}) only [F40, h101, hE', List.replicate, ↓simPre, simPost, Bool.not_not, Bool.not_false, Bool.not_true, Bool.false_eq_true, reduceCtorEq, ↓reduceIte, decide_true, decide_false, splice, results, resT, resTs, AV.key, Bool.and_true, Bool.true_and, and_true, true_and, and_self, List.flatMap_nil, List.flatMap_cons, List.append_nil, List.nil_append, List.cons_append, List.map_cons, List.map_nil, List.all_cons, List.all_nil, List.length_cons, List.length_nil, Nat.reduceAdd, Nat.reduceLT, Nat.reduceLeDiff, Nat.reduceEqDiff, Nat.reduceSub, Nat.zero_add, Nat.add_zero, List.drop_succ_cons, List.drop_zero, List.take_succ_cons, List.take_zero]
  have hE' : (E != 0) = false := by simpa using hE
  simp only [hE', Bool.false_eq_true, if_false]
  (refine run_fn T40 ⟨rfl, by decide⟩ ?_; rw [start40])
  simp (config := {decide := true, contextual := true, maxSteps := 3000000}) only [F40, h101, hE', List.length_map, List.replicate, ↓simPre, simPost, Bool.not_not, Bool.not_false, Bool.not_true, Bool.false_eq_true, reduceCtorEq, ↓reduceIte, decide_true, decide_false, splice, results, resT, resTs, AV.key, Bool.and_true, Bool.true_and, and_true, true_and, and_self, List.flatMap_nil, List.flatMap_cons, List.append_nil, List.nil_append, List.cons_append, List.map_cons, List.map_nil, List.all_cons, List.all_nil, List.length_cons, List.length_nil, Nat.reduceAdd, Nat.reduceLT, Nat.reduceLeDiff, Nat.reduceEqDiff, Nat.reduceSub, Nat.zero_add, Nat.add_zero, List.drop_succ_cons, List.drop_zero, List.take_succ_cons, List.take_zero]
  refine Eq.trans (headC_ind (σ := Nat × List (Bool × ByteArray) × List Int) (st40 fn n l ks u rs)
    (fun x => some (.tup [.agg (tabC fn n l ks u (x.2.1 ++ keptL (rs.drop x.1))), .sl (ints (x.2.2 ++ oldsL (rs.drop x.1) x.1)), .int .i64 0])) (fun x => rs.length - x.1) (fun x => x.1 ≤ rs.length ∧ x.2.1.length ≤ x.1 ∧ x.2.2.length = x.2.1.length) ?_ (0, [], []) ⟨Nat.zero_le _, Nat.le_refl _, rfl⟩) (by simp only [List.drop_zero, List.nil_append])
  rintro ⟨i, L, O⟩ ⟨hi, hL, hO⟩ ih
  simp only at hi hL hO
  by_cases hlt : i < rs.length
  · obtain ⟨h1, h2, h4, h5⟩ := idx hlt (by omega)
    have h3 := map_get encR rs i (false, bs []) hlt
    rw [drop_cons (false, bs []) hlt]
    generalize rs.getD i (false, bs []) = r at h3 ⊢
    obtain ⟨rd, rb⟩ := r
    simp only [encR] at h3
    cases rd with
    | true =>
      have hih := ih (i + 1, L, O) ⟨by simp only; omega, by simp only; omega, hO⟩ (by simp only; omega)
      simp only [keptL, oldsL, if_true]
      cases L with
      | nil =>
        simp only [st40, List.replicate] at hih ⊢
        simp (config := {decide := true, contextual := true, maxSteps := 3000000}) only [h1, h2, h3, h4, h5, List.length_map, List.replicate, ↓simPre, simPost, Bool.not_not, Bool.not_false, Bool.not_true, Bool.false_eq_true, reduceCtorEq, ↓reduceIte, decide_true, decide_false, splice, results, resT, resTs, AV.key, Bool.and_true, Bool.true_and, and_true, true_and, and_self, List.flatMap_nil, List.flatMap_cons, List.append_nil, List.nil_append, List.cons_append, List.map_cons, List.map_nil, List.all_cons, List.all_nil, List.length_cons, List.length_nil, Nat.reduceAdd, Nat.reduceLT, Nat.reduceLeDiff, Nat.reduceEqDiff, Nat.reduceSub, Nat.zero_add, Nat.add_zero, List.drop_succ_cons, List.drop_zero, List.take_succ_cons, List.take_zero]
        exact hih
      | cons r0 L =>
        simp only [st40, List.replicate] at hih ⊢
        simp (config := {decide := true, contextual := true, maxSteps := 3000000}) only [h1, h2, h3, h4, h5, List.length_map, List.replicate, ↓simPre, simPost, Bool.not_not, Bool.not_false, Bool.not_true, Bool.false_eq_true, reduceCtorEq, ↓reduceIte, decide_true, decide_false, splice, results, resT, resTs, AV.key, Bool.and_true, Bool.true_and, and_true, true_and, and_self, List.flatMap_nil, List.flatMap_cons, List.append_nil, List.nil_append, List.cons_append, List.map_cons, List.map_nil, List.all_cons, List.all_nil, List.length_cons, List.length_nil, Nat.reduceAdd, Nat.reduceLT, Nat.reduceLeDiff, Nat.reduceEqDiff, Nat.reduceSub, Nat.zero_add, Nat.add_zero, List.drop_succ_cons, List.drop_zero, List.take_succ_cons, List.take_zero]
        exact hih
    | false =>
      have hih := ih (i + 1, L ++ [(false, rb)], O ++ [((i + 1 : Nat) : Int)]) ⟨by simp only; omega, by simp; omega, by simp [hO]⟩ (by simp only; omega)
      simp only [keptL, oldsL, Bool.false_eq_true, if_false]
      simp only [List.append_assoc, List.cons_append, List.nil_append] at hih
      have e1 : (L.map encR) ++ [[.bool false, .str rb]] = (L ++ [(false, rb)]).map encR := by simp [encR]
      cases L with
      | nil =>
        obtain rfl : O = [] := List.eq_nil_of_length_eq_zero (by simpa using hO)
        simp only [st40, List.replicate, List.nil_append, encR, List.map_cons, List.map_nil, ints] at hih ⊢
        simp (config := {decide := true, contextual := true, maxSteps := 3000000}) only [h1, h2, h3, h4, h5, List.length_map, List.replicate, ↓simPre, simPost, Bool.not_not, Bool.not_false, Bool.not_true, Bool.false_eq_true, reduceCtorEq, ↓reduceIte, decide_true, decide_false, splice, results, resT, resTs, AV.key, Bool.and_true, Bool.true_and, and_true, true_and, and_self, List.flatMap_nil, List.flatMap_cons, List.append_nil, List.nil_append, List.cons_append, List.map_cons, List.map_nil, List.all_cons, List.all_nil, List.length_cons, List.length_nil, Nat.reduceAdd, Nat.reduceLT, Nat.reduceLeDiff, Nat.reduceEqDiff, Nat.reduceSub, Nat.zero_add, Nat.add_zero, List.drop_succ_cons, List.drop_zero, List.take_succ_cons, List.take_zero]
        exact hih
      | cons r0 L =>
        have g1 : ((L.length + 1 + 1) * 24 ≤ 140737488355328) = True := by simp at hL ⊢; omega
        have g2 : ((O.length + 1) * 8 ≤ 140737488355328) = True := by simp at hL hO ⊢; omega
        have e2 : (L.map encR) ++ [[.bool false, .str rb]] = (L ++ [(false, rb)]).map encR := by simp [encR]
        have e3 : ints O ++ [[.int .i64 ((i + 1 : Nat) : Int)]] = ints (O ++ [((i + 1 : Nat) : Int)]) := by simp [ints]
        have e4 := ints_len O
        simp only [st40, List.replicate, List.cons_append] at hih ⊢
        simp (config := {decide := true, contextual := true, maxSteps := 3000000}) only [h1, h2, h3, h4, h5, g1, g2, e2, e3, e4, List.length_map, List.replicate, ↓simPre, simPost, Bool.not_not, Bool.not_false, Bool.not_true, Bool.false_eq_true, reduceCtorEq, ↓reduceIte, decide_true, decide_false, splice, results, resT, resTs, AV.key, Bool.and_true, Bool.true_and, and_true, true_and, and_self, List.flatMap_nil, List.flatMap_cons, List.append_nil, List.nil_append, List.cons_append, List.map_cons, List.map_nil, List.all_cons, List.all_nil, List.length_cons, List.length_nil, Nat.reduceAdd, Nat.reduceLT, Nat.reduceLeDiff, Nat.reduceEqDiff, Nat.reduceSub, Nat.zero_add, Nat.add_zero, List.drop_succ_cons, List.drop_zero, List.take_succ_cons, List.take_zero]
        exact hih
  · have h2 := idxEnd (Nat.le_of_not_lt hlt)
    have h7 : rs.drop i = [] := List.drop_eq_nil_of_le (by omega)
    rw [h7]
    simp only [keptL, oldsL, List.append_nil]
    cases L with
    | nil =>
      obtain rfl : O = [] := List.eq_nil_of_length_eq_zero (by simpa using hO)
      simp only [st40, List.replicate]
      simp (config := {decide := true, contextual := true, maxSteps := 3000000}) only [h2, List.length_map, List.replicate, ↓simPre, simPost, Bool.not_not, Bool.not_false, Bool.not_true, Bool.false_eq_true, reduceCtorEq, ↓reduceIte, decide_true, decide_false, splice, results, resT, resTs, AV.key, Bool.and_true, Bool.true_and, and_true, true_and, and_self, List.flatMap_nil, List.flatMap_cons, List.append_nil, List.nil_append, List.cons_append, List.map_cons, List.map_nil, List.all_cons, List.all_nil, List.length_cons, List.length_nil, Nat.reduceAdd, Nat.reduceLT, Nat.reduceLeDiff, Nat.reduceEqDiff, Nat.reduceSub, Nat.zero_add, Nat.add_zero, List.drop_succ_cons, List.drop_zero, List.take_succ_cons, List.take_zero]
      rfl
    | cons r0 L =>
      simp only [st40, List.replicate]
      simp (config := {decide := true, contextual := true, maxSteps := 3000000}) only [h2, List.length_map, List.replicate, ↓simPre, simPost, Bool.not_not, Bool.not_false, Bool.not_true, Bool.false_eq_true, reduceCtorEq, ↓reduceIte, decide_true, decide_false, splice, results, resT, resTs, AV.key, Bool.and_true, Bool.true_and, and_true, true_and, and_self, List.flatMap_nil, List.flatMap_cons, List.append_nil, List.nil_append, List.cons_append, List.map_cons, List.map_nil, List.all_cons, List.all_nil, List.length_cons, List.length_nil, Nat.reduceAdd, Nat.reduceLT, Nat.reduceLeDiff, Nat.reduceEqDiff, Nat.reduceSub, Nat.zero_add, Nat.add_zero, List.drop_succ_cons, List.drop_zero, List.take_succ_cons, List.take_zero]
      rfl
def st42 (fn n : ByteArray) (l : List Fd) (ks : List (ByteArray × Bool)) (u : Bool) (rs : List (Bool × ByteArray)) (x : Nat × List (Bool × ByteArray) × List Int) : Env := match x.2.1 with
  | [] => ⟨[.unk, .ptr 1 0 0, .ptr 2 0 0, .unk, .ptr 4 0 0, .nil, .int .i64 x.1] ++ List.replicate 35 .unk,
      [⟨0, .dead⟩, ⟨0, .box (tab0 fn n l ks u rs)⟩, ⟨0, .box zeroT⟩, ⟨0, .dead⟩, ⟨0, .box [.str fn, .str n, .sl (l.map encF), .sl (ks.map encK), .bool u, .nil]⟩] ++ List.replicate 37 ⟨0, .dead⟩⟩
  | r :: L => ⟨[.unk, .ptr 1 0 0, .ptr 2 0 0, .unk, .ptr 4 0 0, .own 38 0, .int .i64 x.1] ++ List.replicate 35 .unk,
      [⟨0, .dead⟩, ⟨0, .box (tab0 fn n l ks u rs)⟩, ⟨0, .box zeroT⟩, ⟨0, .dead⟩, ⟨0, .box [.str fn, .str n, .sl (l.map encF), .sl (ks.map encK), .bool u, .own 33 0]⟩] ++ List.replicate 28 ⟨0, .dead⟩ ++ [⟨0, .row 87 2 0 ((r :: L).map encR)⟩] ++ List.replicate 4 ⟨0, .dead⟩ ++ [⟨0, .row 3 1 0 (ints x.2.2)⟩] ++ List.replicate 3 ⟨0, .dead⟩⟩
theorem run42 (h : Small fn n l ks rs) : run T S 42 [.agg (tabC fn n l ks u rs)] = some (.tup [.agg (tabC fn n l ks u (keptL rs)), .sl (ints (oldsL rs 0))]) := by
  have h98 := run98 (S := S) fn n l ks u (by have := h.qsh.2.1; omega) (by have := h.qks; omega)
  have hrs := h.qrs
  simp only [tabC, fileC] at h98 ⊢
  (refine run_fn T42 ⟨rfl, by decide⟩ ?_; rw [start42])
  simp (config := {decide := true, contextual := true, maxSteps := 3000000}) only [F42, h98, List.length_map, List.replicate, ↓simPre, simPost, Bool.not_not, Bool.not_false, Bool.not_true, Bool.false_eq_true, reduceCtorEq, ↓reduceIte, decide_true, decide_false, splice, results, resT, resTs, AV.key, Bool.and_true, Bool.true_and, and_true, true_and, and_self, List.flatMap_nil, List.flatMap_cons, List.append_nil, List.nil_append, List.cons_append, List.map_cons, List.map_nil, List.all_cons, List.all_nil, List.length_cons, List.length_nil, Nat.reduceAdd, Nat.reduceLT, Nat.reduceLeDiff, Nat.reduceEqDiff, Nat.reduceSub, Nat.zero_add, Nat.add_zero, List.drop_succ_cons, List.drop_zero, List.take_succ_cons, List.take_zero]
  refine Eq.trans (headC_ind (σ := Nat × List (Bool × ByteArray) × List Int) (st42 fn n l ks u rs)
    (fun x => some (.tup [.agg (tabC fn n l ks u (x.2.1 ++ keptL (rs.drop x.1))), .sl (ints (x.2.2 ++ oldsL (rs.drop x.1) x.1))])) (fun x => rs.length - x.1) (fun x => x.1 ≤ rs.length ∧ x.2.1.length ≤ x.1 ∧ x.2.2.length = x.2.1.length) ?_ (0, [], []) ⟨Nat.zero_le _, Nat.le_refl _, rfl⟩) (by simp only [List.drop_zero, List.nil_append])
  rintro ⟨i, L, O⟩ ⟨hi, hL, hO⟩ ih
  simp only at hi hL hO
  by_cases hlt : i < rs.length
  · obtain ⟨h1, h2, h4, h5⟩ := idx hlt (by omega)
    have h3 := map_get encR rs i (false, bs []) hlt
    rw [drop_cons (false, bs []) hlt]
    generalize rs.getD i (false, bs []) = r at h3 ⊢
    obtain ⟨rd, rb⟩ := r
    simp only [encR] at h3
    cases rd with
    | true =>
      have hih := ih (i + 1, L, O) ⟨by simp only; omega, by simp only; omega, hO⟩ (by simp only; omega)
      simp only [keptL, oldsL, if_true]
      cases L with
      | nil =>
        simp only [st42, List.replicate] at hih ⊢
        simp (config := {decide := true, contextual := true, maxSteps := 3000000}) only [h1, h2, h3, h4, h5, List.length_map, List.replicate, ↓simPre, simPost, Bool.not_not, Bool.not_false, Bool.not_true, Bool.false_eq_true, reduceCtorEq, ↓reduceIte, decide_true, decide_false, splice, results, resT, resTs, AV.key, Bool.and_true, Bool.true_and, and_true, true_and, and_self, List.flatMap_nil, List.flatMap_cons, List.append_nil, List.nil_append, List.cons_append, List.map_cons, List.map_nil, List.all_cons, List.all_nil, List.length_cons, List.length_nil, Nat.reduceAdd, Nat.reduceLT, Nat.reduceLeDiff, Nat.reduceEqDiff, Nat.reduceSub, Nat.zero_add, Nat.add_zero, List.drop_succ_cons, List.drop_zero, List.take_succ_cons, List.take_zero]
        exact hih
      | cons r0 L =>
        simp only [st42, List.replicate] at hih ⊢
        simp (config := {decide := true, contextual := true, maxSteps := 3000000}) only [h1, h2, h3, h4, h5, List.length_map, List.replicate, ↓simPre, simPost, Bool.not_not, Bool.not_false, Bool.not_true, Bool.false_eq_true, reduceCtorEq, ↓reduceIte, decide_true, decide_false, splice, results, resT, resTs, AV.key, Bool.and_true, Bool.true_and, and_true, true_and, and_self, List.flatMap_nil, List.flatMap_cons, List.append_nil, List.nil_append, List.cons_append, List.map_cons, List.map_nil, List.all_cons, List.all_nil, List.length_cons, List.length_nil, Nat.reduceAdd, Nat.reduceLT, Nat.reduceLeDiff, Nat.reduceEqDiff, Nat.reduceSub, Nat.zero_add, Nat.add_zero, List.drop_succ_cons, List.drop_zero, List.take_succ_cons, List.take_zero]
        exact hih
    | false =>
      have hih := ih (i + 1, L ++ [(false, rb)], O ++ [((i + 1 : Nat) : Int)]) ⟨by simp only; omega, by simp; omega, by simp [hO]⟩ (by simp only; omega)
      simp only [keptL, oldsL, Bool.false_eq_true, if_false]
      simp only [List.append_assoc, List.cons_append, List.nil_append] at hih
      cases L with
      | nil =>
        obtain rfl : O = [] := List.eq_nil_of_length_eq_zero (by simpa using hO)
        simp only [st42, List.replicate, List.nil_append, encR, List.map_cons, List.map_nil, ints] at hih ⊢
        simp (config := {decide := true, contextual := true, maxSteps := 3000000}) only [h1, h2, h3, h4, h5, List.length_map, List.replicate, ↓simPre, simPost, Bool.not_not, Bool.not_false, Bool.not_true, Bool.false_eq_true, reduceCtorEq, ↓reduceIte, decide_true, decide_false, splice, results, resT, resTs, AV.key, Bool.and_true, Bool.true_and, and_true, true_and, and_self, List.flatMap_nil, List.flatMap_cons, List.append_nil, List.nil_append, List.cons_append, List.map_cons, List.map_nil, List.all_cons, List.all_nil, List.length_cons, List.length_nil, Nat.reduceAdd, Nat.reduceLT, Nat.reduceLeDiff, Nat.reduceEqDiff, Nat.reduceSub, Nat.zero_add, Nat.add_zero, List.drop_succ_cons, List.drop_zero, List.take_succ_cons, List.take_zero]
        exact hih
      | cons r0 L =>
        have g1 : ((L.length + 1 + 1) * 24 ≤ 140737488355328) = True := by simp at hL ⊢; omega
        have g2 : ((O.length + 1) * 8 ≤ 140737488355328) = True := by simp at hL hO ⊢; omega
        have e2 : (L.map encR) ++ [[.bool false, .str rb]] = (L ++ [(false, rb)]).map encR := by simp [encR]
        have e3 : ints O ++ [[.int .i64 ((i + 1 : Nat) : Int)]] = ints (O ++ [((i + 1 : Nat) : Int)]) := by simp [ints]
        have e4 := ints_len O
        simp only [st42, List.replicate, List.cons_append] at hih ⊢
        simp (config := {decide := true, contextual := true, maxSteps := 3000000}) only [h1, h2, h3, h4, h5, g1, g2, e2, e3, e4, List.length_map, List.replicate, ↓simPre, simPost, Bool.not_not, Bool.not_false, Bool.not_true, Bool.false_eq_true, reduceCtorEq, ↓reduceIte, decide_true, decide_false, splice, results, resT, resTs, AV.key, Bool.and_true, Bool.true_and, and_true, true_and, and_self, List.flatMap_nil, List.flatMap_cons, List.append_nil, List.nil_append, List.cons_append, List.map_cons, List.map_nil, List.all_cons, List.all_nil, List.length_cons, List.length_nil, Nat.reduceAdd, Nat.reduceLT, Nat.reduceLeDiff, Nat.reduceEqDiff, Nat.reduceSub, Nat.zero_add, Nat.add_zero, List.drop_succ_cons, List.drop_zero, List.take_succ_cons, List.take_zero]
        exact hih
  · have h2 := idxEnd (Nat.le_of_not_lt hlt)
    have h7 : rs.drop i = [] := List.drop_eq_nil_of_le (by omega)
    rw [h7]
    simp only [keptL, oldsL, List.append_nil]
    cases L with
    | nil =>
      obtain rfl : O = [] := List.eq_nil_of_length_eq_zero (by simpa using hO)
      simp only [st42, List.replicate]
      simp (config := {decide := true, contextual := true, maxSteps := 3000000}) only [h2, List.length_map, List.replicate, ↓simPre, simPost, Bool.not_not, Bool.not_false, Bool.not_true, Bool.false_eq_true, reduceCtorEq, ↓reduceIte, decide_true, decide_false, splice, results, resT, resTs, AV.key, Bool.and_true, Bool.true_and, and_true, true_and, and_self, List.flatMap_nil, List.flatMap_cons, List.append_nil, List.nil_append, List.cons_append, List.map_cons, List.map_nil, List.all_cons, List.all_nil, List.length_cons, List.length_nil, Nat.reduceAdd, Nat.reduceLT, Nat.reduceLeDiff, Nat.reduceEqDiff, Nat.reduceSub, Nat.zero_add, Nat.add_zero, List.drop_succ_cons, List.drop_zero, List.take_succ_cons, List.take_zero]
      rfl
    | cons r0 L =>
      simp only [st42, List.replicate]
      simp (config := {decide := true, contextual := true, maxSteps := 3000000}) only [h2, List.length_map, List.replicate, ↓simPre, simPost, Bool.not_not, Bool.not_false, Bool.not_true, Bool.false_eq_true, reduceCtorEq, ↓reduceIte, decide_true, decide_false, splice, results, resT, resTs, AV.key, Bool.and_true, Bool.true_and, and_true, true_and, and_self, List.flatMap_nil, List.flatMap_cons, List.append_nil, List.nil_append, List.cons_append, List.map_cons, List.map_nil, List.all_cons, List.all_nil, List.length_cons, List.length_nil, Nat.reduceAdd, Nat.reduceLT, Nat.reduceLeDiff, Nat.reduceEqDiff, Nat.reduceSub, Nat.zero_add, Nat.add_zero, List.drop_succ_cons, List.drop_zero, List.take_succ_cons, List.take_zero]
      rfl
end
theorem run44 {S : RT} (a : List Int) (ha : a.length ≤ 1000000) : run T S 44 [.sl (ints a), .sl (ints a)] = some (.bool true) := by
  have e4 := ints_len a
  have n0 : ((a.length : Int) != (a.length : Int)) = false := by simp
  (refine run_fn T44 ⟨rfl, by decide⟩ ?_; rw [start44])
  simp (config := {decide := true, contextual := true, maxSteps := 3000000}) only [F44, e4, n0, List.replicate, ↓simPre, simPost, Bool.not_not, Bool.not_false, Bool.not_true, Bool.false_eq_true, reduceCtorEq, ↓reduceIte, decide_true, decide_false, splice, results, resT, resTs, AV.key, Bool.and_true, Bool.true_and, and_true, true_and, and_self, List.flatMap_nil, List.flatMap_cons, List.append_nil, List.nil_append, List.cons_append, List.map_cons, List.map_nil, List.all_cons, List.all_nil, List.length_cons, List.length_nil, Nat.reduceAdd, Nat.reduceLT, Nat.reduceLeDiff, Nat.reduceEqDiff, Nat.reduceSub, Nat.zero_add, Nat.add_zero, List.drop_succ_cons, List.drop_zero, List.take_succ_cons, List.take_zero]
  refine headC_ind (σ := Nat) (fun i => ⟨[.sl (ints a), .sl (ints a), .unk, .unk, .unk, .int .i64 i] ++ List.replicate 20 .unk, List.replicate 26 ⟨0, .dead⟩⟩)
    (fun i => some (AV.bool true)) (fun i => a.length - i) (fun i => i ≤ a.length) ?_ 0 (Nat.zero_le _)
  intro i hi ih
  by_cases hlt : i < a.length
  · obtain ⟨h1, h2, h4, h5⟩ := idx hlt (by omega)
    have h3 := ints_get a i hlt
    have hih := ih (i + 1) (by omega) (by omega)
    simp only [List.replicate, List.cons_append, List.nil_append] at hih
    have n1 : (a.getD i 0 != a.getD i 0) = false := by simp
    simp (config := {decide := true, contextual := true, maxSteps := 3000000}) only [h1, h2, h3, h4, h5, e4, n1, List.replicate, ↓simPre, simPost, Bool.not_not, Bool.not_false, Bool.not_true, Bool.false_eq_true, reduceCtorEq, ↓reduceIte, decide_true, decide_false, splice, results, resT, resTs, AV.key, Bool.and_true, Bool.true_and, and_true, true_and, and_self, List.flatMap_nil, List.flatMap_cons, List.append_nil, List.nil_append, List.cons_append, List.map_cons, List.map_nil, List.all_cons, List.all_nil, List.length_cons, List.length_nil, Nat.reduceAdd, Nat.reduceLT, Nat.reduceLeDiff, Nat.reduceEqDiff, Nat.reduceSub, Nat.zero_add, Nat.add_zero, List.drop_succ_cons, List.drop_zero, List.take_succ_cons, List.take_zero]
    exact hih
  · have h2 := idxEnd (Nat.le_of_not_lt hlt)
    simp (config := {decide := true, contextual := true, maxSteps := 3000000}) only [h2, e4, List.replicate, ↓simPre, simPost, Bool.not_not, Bool.not_false, Bool.not_true, Bool.false_eq_true, reduceCtorEq, ↓reduceIte, decide_true, decide_false, splice, results, resT, resTs, AV.key, Bool.and_true, Bool.true_and, and_true, true_and, and_self, List.flatMap_nil, List.flatMap_cons, List.append_nil, List.nil_append, List.cons_append, List.map_cons, List.map_nil, List.all_cons, List.all_nil, List.length_cons, List.length_nil, Nat.reduceAdd, Nat.reduceLT, Nat.reduceLeDiff, Nat.reduceEqDiff, Nat.reduceSub, Nat.zero_add, Nat.add_zero, List.drop_succ_cons, List.drop_zero, List.take_succ_cons, List.take_zero]
theorem keptL_len (rs : List (Bool × ByteArray)) : (keptL rs).length ≤ rs.length := by
  induction rs with
  | nil => exact Nat.le_refl _
  | cons r l ih => simp only [keptL]; split <;> simp <;> omega
theorem oldsL_len (rs : List (Bool × ByteArray)) : ∀ i, (oldsL rs i).length ≤ rs.length := by
  induction rs with
  | nil => intro i; exact Nat.le_refl _
  | cons r l ih => intro i; have := ih (i + 1); simp only [oldsL]; split <;> simp <;> omega
theorem run6 (fn n : ByteArray) (l : List Fd) (ks : List (ByteArray × Bool)) (u : Bool) (rs : List (Bool × ByteArray)) : run T S40 6 [.agg (tabC fn n l ks u rs)] = some (.bool true) := by
  have h15 := awake40
  have h36 := run36 (S := S40) fn n l ks u rs
  cases g1 : fewTable fn n l ks rs with
  | false =>
    rw [g1] at h36
    simp only [tabC] at h36 ⊢
    (refine run_fn T6 ⟨rfl, by decide⟩ ?_; rw [start6])
    simp (config := {decide := true, contextual := true, maxSteps := 3000000}) only [F6, h15, h36, List.replicate, ↓simPre, simPost, Bool.not_not, Bool.not_false, Bool.not_true, Bool.false_eq_true, reduceCtorEq, ↓reduceIte, decide_true, decide_false, splice, results, resT, resTs, AV.key, Bool.and_true, Bool.true_and, and_true, true_and, and_self, List.flatMap_nil, List.flatMap_cons, List.append_nil, List.nil_append, List.cons_append, List.map_cons, List.map_nil, List.all_cons, List.all_nil, List.length_cons, List.length_nil, Nat.reduceAdd, Nat.reduceLT, Nat.reduceLeDiff, Nat.reduceEqDiff, Nat.reduceSub, Nat.zero_add, Nat.add_zero, List.drop_succ_cons, List.drop_zero, List.take_succ_cons, List.take_zero]
  | true =>
  rw [g1] at h36
  have hsm := small_few g1
  obtain ⟨t1, t2, t3, t4, t5⟩ := few_table g1
  have h38 := run38 (S := S40) fn n l ks u rs (by have := t2.2.1; omega) (by omega) (by omega)
  have h37 := run37 told28 fn n l ks u rs hsm
  have h39 := run39 (S := S40) fn n l ks u rs hsm
  have h40 := run40 fn n l ks u rs told28 hsm
  have h42 := run42 (S := S40) fn n l ks u rs hsm
  have h41n := run41n (S := S40)
  have h43 := run43s (S := S40) fn n l ks u (keptL rs) (by have := t2.2.1; omega) (by omega) (by have := keptL_len rs; omega)
  have h44 := run44 (S := S40) (oldsL rs 0) (by have := oldsL_len rs 0; omega)
  generalize keptL rs = K at *
  generalize ints (oldsL rs 0) = O at *
  generalize (checkTable fn n l ks rs).1 = I at *
  generalize (checkTable fn n l ks rs).2 = E at *
  have a1 : (I == I) = true := by simp
  have a2 : (E == E) = true := by simp
  have a3 : (I != I) = false := by simp
  have a4 : (E != E) = false := by simp
  by_cases hE : E = 0
  · subst hE
    simp only [bne_self_eq_false, Bool.false_eq_true, if_false] at h40
    simp only [tabC, tabN] at h36 h38 h37 h39 h40 h42 h43 ⊢
    (refine run_fn T6 ⟨rfl, by decide⟩ ?_; rw [start6])
    simp (config := {decide := true, contextual := true, maxSteps := 3000000}) only [F6, h15, h36, h38, h37, h39, h40, h42, h43, h44, a1, a2, a3, a4, List.length_map, List.replicate, ↓simPre, simPost, Bool.not_not, Bool.not_false, Bool.not_true, Bool.false_eq_true, reduceCtorEq, ↓reduceIte, decide_true, decide_false, splice, results, resT, resTs, AV.key, Bool.and_true, Bool.true_and, and_true, true_and, and_self, List.flatMap_nil, List.flatMap_cons, List.append_nil, List.nil_append, List.cons_append, List.map_cons, List.map_nil, List.all_cons, List.all_nil, List.length_cons, List.length_nil, Nat.reduceAdd, Nat.reduceLT, Nat.reduceLeDiff, Nat.reduceEqDiff, Nat.reduceSub, Nat.zero_add, Nat.add_zero, List.drop_succ_cons, List.drop_zero, List.take_succ_cons, List.take_zero]
  · have hE' : (E != 0) = true := by simpa using hE
    simp only [hE', if_true] at h40
    simp only [tabC, tabN] at h36 h38 h37 h39 h40 h41n ⊢
    (refine run_fn T6 ⟨rfl, by decide⟩ ?_; rw [start6])
    simp (config := {decide := true, contextual := true, maxSteps := 3000000}) only [F6, h15, h36, h38, h37, h39, h40, h41n, hE', a1, a2, a3, a4, List.length_map, List.replicate, ↓simPre, simPost, Bool.not_not, Bool.not_false, Bool.not_true, Bool.false_eq_true, reduceCtorEq, ↓reduceIte, decide_true, decide_false, splice, results, resT, resTs, AV.key, Bool.and_true, Bool.true_and, and_true, true_and, and_self, List.flatMap_nil, List.flatMap_cons, List.append_nil, List.nil_append, List.cons_append, List.map_cons, List.map_nil, List.all_cons, List.all_nil, List.length_cons, List.length_nil, Nat.reduceAdd, Nat.reduceLT, Nat.reduceLeDiff, Nat.reduceEqDiff, Nat.reduceSub, Nat.zero_add, Nat.add_zero, List.drop_succ_cons, List.drop_zero, List.take_succ_cons, List.take_zero]
    rfl
end Go.Bv

/- BY VALUE, chapter 26: RecordsTables, for all arguments. -/
set_option linter.unusedSimpArgs false
set_option linter.unusedVariables false
namespace Go.Bv
theorem walk6 (t : List AV) (ht : t.length = 6 ∧ ∀ j, j < 6 → Fits (shTab.getD j .bool) (t.getD j .unk)) :
    VSpec Go.Proofs.Try.prog 6 [.agg t] (.bool true) := by
  obtain ⟨fn, n, fs, ks, u, rs, rfl⟩ := fits_table ht
  exact (run_sound mixed T_ok S40_sound 6 _ _ (run6 fn n fs ks u rs)).1
end Go.Bv
