/- BY VALUE, chapter 26: the program's functions, one by one (3). -/
import Derived.Test.YtnfmilnlekmjgaaC26A
set_option linter.unusedSimpArgs false
set_option linter.unusedVariables false
namespace Go.Bv
variable {S : RT}
attribute [local congr] ite_congr congr_bindOps congr_bindC congr_andThen congr_orNone congr_onBool congr_onEff congr_headC
set_option maxRecDepth 100000
set_option maxHeartbeats 40000000
def fieldErr (pre : List Fd) (f : Fd) : Int := first [cond (!isName f.name) 7, cond (atFrom pre f.name 0 0).2.2 13, checkType f.t, cond (f.t.k == 4) 17]
def ckFrom (pre : List Fd) : List Fd → Int → Int → Int × Int
  | [], _, size => (0, cond (decide (size > 200)) 18)
  | f :: l, i, size => if (fieldErr pre f != 0) = true then (i, fieldErr pre f) else ckFrom (pre ++ [f]) l (i + 1) (size + width f)
def formErr (name : ByteArray) (l : List Fd) : Int := first [cond (!isName name) 7, cond ((l.length : Int) == 0) 1, cond (decide ((l.length : Int) > 20)) 2]
def checkFormat (name : ByteArray) (l : List Fd) : Int × Int := if (formErr name l != 0) = true then (0, formErr name l) else ckFrom [] l 0 0
theorem take_succ' (l : List Fd) (i : Nat) (h : i < l.length) : l.take (i + 1) = l.take i ++ [l.getD i default] := by
  rw [List.take_succ_eq_append_getElem h]
  simp [List.getD_eq_getElem?_getD, List.getElem?_eq_getElem h]
theorem run26 (name : ByteArray) (l : List Fd) (hn : name.size ≤ 1000) (hl : l.length ≤ 1000) (hf : ∀ f ∈ l, f.name.size ≤ 1000) :
    run T S 26 [.agg [.str name, .sl (l.map encF)]] = some (.tup [.int .i64 (checkFormat name l).1, .int .i64 (checkFormat name l).2]) := by
  have h87 := run87 (S := S) (T := T) T87 name (by omega)
  have hlen : ((l.map encF).length : Int) = (l.length : Int) := by simp
  (refine run_fn T26 ⟨rfl, by decide⟩ ?_; rw [start26])
  simp (config := {decide := true, contextual := true, maxSteps := 3000000}) only [F26, h87, run81, run80_3, hlen, List.replicate, ↓simPre, simPost, Bool.not_not, Bool.not_false, Bool.not_true, Bool.false_eq_true, reduceCtorEq, ↓reduceIte, decide_true, decide_false, splice, results, resT, resTs, AV.key, Bool.and_true, Bool.true_and, and_true, true_and, and_self, List.flatMap_nil, List.flatMap_cons, List.append_nil, List.nil_append, List.cons_append, List.map_cons, List.map_nil, List.all_cons, List.all_nil, List.length_cons, List.length_nil, Nat.reduceAdd, Nat.reduceLT, Nat.reduceLeDiff, Nat.reduceEqDiff, Nat.reduceSub, Nat.zero_add, Nat.add_zero, List.drop_succ_cons, List.drop_zero, List.take_succ_cons, List.take_zero]
  unfold checkFormat formErr
  split
  · rfl
  · refine Eq.trans (headC_ind (σ := Nat × Int) (fun x => ⟨[.unk, .ptr 1 0 0, .unk, .unk, .unk, .int .i64 x.2] ++ List.replicate 27 .unk ++ [.sl (l.map encF), .int .i64 l.length, .int .i64 x.1] ++ List.replicate 45 .unk, ⟨0, .dead⟩ :: ⟨0, .box [.str name, .sl (l.map encF)]⟩ :: List.replicate 79 ⟨0, .dead⟩⟩)
      (fun x => some (AV.tup [.int .i64 (ckFrom (l.take x.1) (l.drop x.1) x.1 x.2).1, .int .i64 (ckFrom (l.take x.1) (l.drop x.1) x.1 x.2).2])) (fun x => l.length - x.1) (fun x => x.1 ≤ l.length ∧ 0 ≤ x.2 ∧ x.2 ≤ 256 * x.1) ?_ (0, 0) ⟨Nat.zero_le _, Int.le_refl _, by simp⟩) (by simp)
    rintro ⟨i, acc⟩ ⟨hi, ha1, ha2⟩ ih
    simp only at hi ha1 ha2
    have h4 : (i : Int).toNat = i := by omega
    by_cases hlt : i < l.length
    · have h1 : (0 ≤ (i : Int)) = True := by simp
      have h2 : ((i : Int) < (l.length : Int)) = True := by simp; omega
      have h2' : ((i : Int) ≤ (l.length : Int)) = True := by simp; omega
      have h3 := map_get encF l i default hlt
      have h5 : IntKind.wrap .i64 ((i : Int) + 1) = ((i + 1 : Nat) : Int) := by rw [wrap_i64 (by omega) (by omega)]; omega
      have hw := width_range (l.getD i default)
      have h6 : IntKind.wrap .i64 (acc + width (l.getD i default)) = acc + width (l.getD i default) := wrap_i64 (by omega) (by omega)
      have h90 := run90 (S := S) (l.getD i default)
      have hmem : l.getD i default ∈ l := by rw [List.getD_eq_getElem?_getD, List.getElem?_eq_getElem hlt]; simp
      have h87f := run87 (S := S) (T := T) T87 (l.getD i default).name (by have := hf _ hmem; omega)
      have h88 := run88 (S := S) (bs []) (l.getD i default).name (l.take i) (by simp; omega)
      have h89 := run89 (S := S) (l.getD i default).t
      have ht : (l.map encF).take i = (l.take i).map encF := by simp
      have hall : (l.map encF).all (fun y => y.length == 4) = true := by simp [encF]
      have h0 : ((0 : Nat) : Int).toNat = 0 := rfl
      have h0' : (0 ≤ ((0 : Nat) : Int)) = True := by simp
      have h0i : (((0 : Nat) : Int) ≤ (i : Int)) = True := by simp
      rw [drop_cons default hlt]
      simp only [encF, encT] at h3 h90 h89
      simp (config := {decide := true, contextual := true, maxSteps := 3000000}) only [h1, h2, h2', h3, h4, h5, h6, h90, h87f, h88, h89, hlen, ht, hall, h0, h0', h0i, run81, run80_4, List.replicate, ↓simPre, simPost, Bool.not_not, Bool.not_false, Bool.not_true, Bool.false_eq_true, reduceCtorEq, ↓reduceIte, decide_true, decide_false, splice, results, resT, resTs, AV.key, Bool.and_true, Bool.true_and, and_true, true_and, and_self, List.flatMap_nil, List.flatMap_cons, List.append_nil, List.nil_append, List.cons_append, List.map_cons, List.map_nil, List.all_cons, List.all_nil, List.length_cons, List.length_nil, Nat.reduceAdd, Nat.reduceLT, Nat.reduceLeDiff, Nat.reduceEqDiff, Nat.reduceSub, Nat.zero_add, Nat.add_zero, List.drop_succ_cons, List.drop_zero, List.take_succ_cons, List.take_zero]
      by_cases hc : (fieldErr (l.take i) (l.getD i default) != 0) = true
      · have hr : ckFrom (l.take i) (l.getD i default :: l.drop (i + 1)) i acc = ((i : Int), fieldErr (l.take i) (l.getD i default)) := by simp only [ckFrom, if_pos hc]
        rw [hr]
        exact if_pos hc
      · have hr : ckFrom (l.take i) (l.getD i default :: l.drop (i + 1)) i acc = ckFrom (l.take (i + 1)) (l.drop (i + 1)) ((i : Int) + 1) (acc + width (l.getD i default)) := by simp only [ckFrom, if_neg hc, take_succ' l i hlt]
        rw [hr]
        refine Eq.trans (if_neg hc) ?_
        exact ih (i + 1, acc + width (l.getD i default)) ⟨by omega, by omega, by push_cast; omega⟩ (by simp only; omega)
    · have h2 : ((i : Int) < (l.length : Int)) = False := by simp; omega
      have h7 : l.drop i = [] := List.drop_eq_nil_of_le (by omega)
      simp (config := {decide := true, contextual := true, maxSteps := 3000000}) only [h2, h7, ckFrom, hlen, run81, List.replicate, ↓simPre, simPost, Bool.not_not, Bool.not_false, Bool.not_true, Bool.false_eq_true, reduceCtorEq, ↓reduceIte, decide_true, decide_false, splice, results, resT, resTs, AV.key, Bool.and_true, Bool.true_and, and_true, true_and, and_self, List.flatMap_nil, List.flatMap_cons, List.append_nil, List.nil_append, List.cons_append, List.map_cons, List.map_nil, List.all_cons, List.all_nil, List.length_cons, List.length_nil, Nat.reduceAdd, Nat.reduceLT, Nat.reduceLeDiff, Nat.reduceEqDiff, Nat.reduceSub, Nat.zero_add, Nat.add_zero, List.drop_succ_cons, List.drop_zero, List.take_succ_cons, List.take_zero]
end Go.Bv

/- BY VALUE, chapter 26: the program's functions, one by one (4). -/
set_option linter.unusedSimpArgs false
set_option linter.unusedVariables false
namespace Go.Bv
variable {S : RT}
attribute [local congr] ite_congr congr_bindOps congr_bindC congr_andThen congr_orNone congr_onBool congr_onEff congr_headC
set_option maxRecDepth 100000
set_option maxHeartbeats 40000000
/-- The names are short. -/
def Short (name : ByteArray) (l : List Fd) : Prop := name.size ≤ 1000 ∧ l.length ≤ 1000 ∧ ∀ f ∈ l, f.name.size ≤ 1000
theorem run76 (name : ByteArray) (l : List Fd) (h : Short name l) : run T S 76 [.agg [.str name, .sl (l.map encF)]] = some (.int .i64 (checkFormat name l).2) := by
  have h26 := run26 (S := S) name l h.1 h.2.1 h.2.2
  (refine run_fn T76 ⟨rfl, by decide⟩ ?_; rw [start76])
  simp (config := {decide := true, contextual := true, maxSteps := 3000000}) only [F76, h26, List.replicate, ↓simPre, simPost, Bool.not_not, Bool.not_false, Bool.not_true, Bool.false_eq_true, reduceCtorEq, ↓reduceIte, decide_true, decide_false, splice, results, resT, resTs, AV.key, Bool.and_true, Bool.true_and, and_true, true_and, and_self, List.flatMap_nil, List.flatMap_cons, List.append_nil, List.nil_append, List.cons_append, List.map_cons, List.map_nil, List.all_cons, List.all_nil, List.length_cons, List.length_nil, Nat.reduceAdd, Nat.reduceLT, Nat.reduceLeDiff, Nat.reduceEqDiff, Nat.reduceSub, Nat.zero_add, Nat.add_zero, List.drop_succ_cons, List.drop_zero, List.take_succ_cons, List.take_zero]
theorem run18 (name : ByteArray) (l : List Fd) (h : l.length ≤ 1000000) : run T S 18 [.agg [.str name, .sl (l.map encF)]] = some (.agg [.str name, .sl (l.map encF)]) := by
  have h1 : (l.map encF).all (fun y => y.length == 4) = true := by simp [encF]
  have h2 : ((l.map encF).length * 40 ≤ 140737488355328) = True := by simp; omega
  (refine run_fn T18 ⟨rfl, by decide⟩ ?_; rw [start18])
  simp (config := {decide := true, contextual := true, maxSteps := 3000000}) only [F18, h1, h2, List.replicate, ↓simPre, simPost, Bool.not_not, Bool.not_false, Bool.not_true, Bool.false_eq_true, reduceCtorEq, ↓reduceIte, decide_true, decide_false, splice, results, resT, resTs, AV.key, Bool.and_true, Bool.true_and, and_true, true_and, and_self, List.flatMap_nil, List.flatMap_cons, List.append_nil, List.nil_append, List.cons_append, List.map_cons, List.map_nil, List.all_cons, List.all_nil, List.length_cons, List.length_nil, Nat.reduceAdd, Nat.reduceLT, Nat.reduceLeDiff, Nat.reduceEqDiff, Nat.reduceSub, Nat.zero_add, Nat.add_zero, List.drop_succ_cons, List.drop_zero, List.take_succ_cons, List.take_zero]
def keyShort : List (ByteArray × Bool) → Bool
  | [] => true
  | k :: l => if (decide ((k.1.size : Int) > 100)) = true then false else keyShort l
def encK (k : ByteArray × Bool) : List AV := [.str k.1, .bool k.2]
theorem run86 (l : List (ByteArray × Bool)) (hl : l.length ≤ 1000000) : run T S 86 [.sl (l.map encK)] = some (.bool (keyShort l)) := by
  (refine run_fn T86 ⟨rfl, by decide⟩ ?_; rw [start86])
  simp (config := {decide := true, contextual := true, maxSteps := 3000000}) only [F86, List.replicate, ↓simPre, simPost, Bool.not_not, Bool.not_false, Bool.not_true, Bool.false_eq_true, reduceCtorEq, ↓reduceIte, decide_true, decide_false, splice, results, resT, resTs, AV.key, Bool.and_true, Bool.true_and, and_true, true_and, and_self, List.flatMap_nil, List.flatMap_cons, List.append_nil, List.nil_append, List.cons_append, List.map_cons, List.map_nil, List.all_cons, List.all_nil, List.length_cons, List.length_nil, Nat.reduceAdd, Nat.reduceLT, Nat.reduceLeDiff, Nat.reduceEqDiff, Nat.reduceSub, Nat.zero_add, Nat.add_zero, List.drop_succ_cons, List.drop_zero, List.take_succ_cons, List.take_zero]
  refine Eq.trans (headC_ind (σ := Nat) (fun i => ⟨[.sl (l.map encK), .unk, .unk, .int .i64 i] ++ List.replicate 13 .unk, List.replicate 17 ⟨0, .dead⟩⟩)
    (fun i => some (AV.bool (keyShort (l.drop i)))) (fun i => l.length - i) (fun i => i ≤ l.length) ?_ 0 (Nat.zero_le _)) (by simp)
  intro i hi ih
  have h4 : (i : Int).toNat = i := by omega
  by_cases hlt : i < l.length
  · have h1 : (0 ≤ (i : Int)) = True := by simp
    have h2 : ((i : Int) < ((l.map encK).length : Int)) = True := by simp; omega
    have h3 := map_get encK l i (bs [], false) hlt
    have h5 : IntKind.wrap .i64 ((i : Int) + 1) = ((i + 1 : Nat) : Int) := by rw [wrap_i64 (by omega) (by omega)]; omega
    rw [drop_cons (bs [], false) hlt]
    simp only [encK] at h3
    simp (config := {decide := true, contextual := true, maxSteps := 3000000}) only [h1, h2, h3, h4, h5, List.replicate, ↓simPre, simPost, Bool.not_not, Bool.not_false, Bool.not_true, Bool.false_eq_true, reduceCtorEq, ↓reduceIte, decide_true, decide_false, splice, results, resT, resTs, AV.key, Bool.and_true, Bool.true_and, and_true, true_and, and_self, List.flatMap_nil, List.flatMap_cons, List.append_nil, List.nil_append, List.cons_append, List.map_cons, List.map_nil, List.all_cons, List.all_nil, List.length_cons, List.length_nil, Nat.reduceAdd, Nat.reduceLT, Nat.reduceLeDiff, Nat.reduceEqDiff, Nat.reduceSub, Nat.zero_add, Nat.add_zero, List.drop_succ_cons, List.drop_zero, List.take_succ_cons, List.take_zero]
    simp only [keyShort]
    split
    · rfl
    · exact ih (i + 1) (by omega) (by omega)
  · have h2 : ((i : Int) < ((l.map encK).length : Int)) = False := by simp; omega
    have h7 : l.drop i = [] := List.drop_eq_nil_of_le (by omega)
    simp (config := {decide := true, contextual := true, maxSteps := 3000000}) only [h2, h7, keyShort, List.replicate, ↓simPre, simPost, Bool.not_not, Bool.not_false, Bool.not_true, Bool.false_eq_true, reduceCtorEq, ↓reduceIte, decide_true, decide_false, splice, results, resT, resTs, AV.key, Bool.and_true, Bool.true_and, and_true, true_and, and_self, List.flatMap_nil, List.flatMap_cons, List.append_nil, List.nil_append, List.cons_append, List.map_cons, List.map_nil, List.all_cons, List.all_nil, List.length_cons, List.length_nil, Nat.reduceAdd, Nat.reduceLT, Nat.reduceLeDiff, Nat.reduceEqDiff, Nat.reduceSub, Nat.zero_add, Nat.add_zero, List.drop_succ_cons, List.drop_zero, List.take_succ_cons, List.take_zero]
theorem run48 (b : Bool) : run T S 48 [.bool b] = some (.int .i64 (if b = true then 1 else 0)) := by
  (refine run_fn T48 ⟨rfl, by decide⟩ ?_; rw [start48])
  simp (config := {decide := true, contextual := true, maxSteps := 3000000}) only [F48, List.replicate, ↓simPre, simPost, Bool.not_not, Bool.not_false, Bool.not_true, Bool.false_eq_true, reduceCtorEq, ↓reduceIte, decide_true, decide_false, splice, results, resT, resTs, AV.key, Bool.and_true, Bool.true_and, and_true, true_and, and_self, List.flatMap_nil, List.flatMap_cons, List.append_nil, List.nil_append, List.cons_append, List.map_cons, List.map_nil, List.all_cons, List.all_nil, List.length_cons, List.length_nil, Nat.reduceAdd, Nat.reduceLT, Nat.reduceLeDiff, Nat.reduceEqDiff, Nat.reduceSub, Nat.zero_add, Nat.add_zero, List.drop_succ_cons, List.drop_zero, List.take_succ_cons, List.take_zero]
  split <;> rfl
theorem run62 (n lo hi : Int) : run T S 62 [.int .i64 n, .int .i64 lo, .int .i64 hi] = some (.bool (decide (lo ≤ n) && decide (n ≤ hi))) := by
  (refine run_fn T62 ⟨rfl, by decide⟩ ?_; rw [start62])
  simp (config := {decide := true, contextual := true, maxSteps := 3000000}) only [F62, List.replicate, ↓simPre, simPost, Bool.not_not, Bool.not_false, Bool.not_true, Bool.false_eq_true, reduceCtorEq, ↓reduceIte, decide_true, decide_false, splice, results, resT, resTs, AV.key, Bool.and_true, Bool.true_and, and_true, true_and, and_self, List.flatMap_nil, List.flatMap_cons, List.append_nil, List.nil_append, List.cons_append, List.map_cons, List.map_nil, List.all_cons, List.all_nil, List.length_cons, List.length_nil, Nat.reduceAdd, Nat.reduceLT, Nat.reduceLeDiff, Nat.reduceEqDiff, Nat.reduceSub, Nat.zero_add, Nat.add_zero, List.drop_succ_cons, List.drop_zero, List.take_succ_cons, List.take_zero]
theorem run133 (c : Int) : run T S 133 [.int .u8 c] = some (.bool (decide (65 ≤ c) && decide (c ≤ 90))) := by
  (refine run_fn T133 ⟨rfl, by decide⟩ ?_; rw [start133])
  simp (config := {decide := true, contextual := true, maxSteps := 3000000}) only [F133, List.replicate, ↓simPre, simPost, Bool.not_not, Bool.not_false, Bool.not_true, Bool.false_eq_true, reduceCtorEq, ↓reduceIte, decide_true, decide_false, splice, results, resT, resTs, AV.key, Bool.and_true, Bool.true_and, and_true, true_and, and_self, List.flatMap_nil, List.flatMap_cons, List.append_nil, List.nil_append, List.cons_append, List.map_cons, List.map_nil, List.all_cons, List.all_nil, List.length_cons, List.length_nil, Nat.reduceAdd, Nat.reduceLT, Nat.reduceLeDiff, Nat.reduceEqDiff, Nat.reduceSub, Nat.zero_add, Nat.add_zero, List.drop_succ_cons, List.drop_zero, List.take_succ_cons, List.take_zero]
theorem run134 (c : Int) : run T S 134 [.int .u8 c] = some (.bool (decide (48 ≤ c) && decide (c ≤ 57))) := by
  (refine run_fn T134 ⟨rfl, by decide⟩ ?_; rw [start134])
  simp (config := {decide := true, contextual := true, maxSteps := 3000000}) only [F134, List.replicate, ↓simPre, simPost, Bool.not_not, Bool.not_false, Bool.not_true, Bool.false_eq_true, reduceCtorEq, ↓reduceIte, decide_true, decide_false, splice, results, resT, resTs, AV.key, Bool.and_true, Bool.true_and, and_true, true_and, and_self, List.flatMap_nil, List.flatMap_cons, List.append_nil, List.nil_append, List.cons_append, List.map_cons, List.map_nil, List.all_cons, List.all_nil, List.length_cons, List.length_nil, Nat.reduceAdd, Nat.reduceLT, Nat.reduceLeDiff, Nat.reduceEqDiff, Nat.reduceSub, Nat.zero_add, Nat.add_zero, List.drop_succ_cons, List.drop_zero, List.take_succ_cons, List.take_zero]
theorem run147 (k : Int) : run T S 147 [.int .i64 k] = some (.bool (decide (1 ≤ k) && decide (k ≤ 3))) := by
  (refine run_fn T147 ⟨rfl, by decide⟩ ?_; rw [start147])
  simp (config := {decide := true, contextual := true, maxSteps := 3000000}) only [F147, run62, List.replicate, ↓simPre, simPost, Bool.not_not, Bool.not_false, Bool.not_true, Bool.false_eq_true, reduceCtorEq, ↓reduceIte, decide_true, decide_false, splice, results, resT, resTs, AV.key, Bool.and_true, Bool.true_and, and_true, true_and, and_self, List.flatMap_nil, List.flatMap_cons, List.append_nil, List.nil_append, List.cons_append, List.map_cons, List.map_nil, List.all_cons, List.all_nil, List.length_cons, List.length_nil, Nat.reduceAdd, Nat.reduceLT, Nat.reduceLeDiff, Nat.reduceEqDiff, Nat.reduceSub, Nat.zero_add, Nat.add_zero, List.drop_succ_cons, List.drop_zero, List.take_succ_cons, List.take_zero]
/-- ten to the power of n, up to 18 -/
def pow10 : Nat → Int
  | 0 => 1
  | n + 1 => 10 * pow10 n
end Go.Bv
