/- BY VALUE, chapter 26, the reference: Offset, Part, Value, Values, BytesErr. -/
import Derived.Test.YtnfmilnlekmjgaaR6
import Derived.Test.YtnfmilnlekmjgaaR1
import Derived.Test.YtnfmilnlekmjgaaG7
set_option linter.unusedSimpArgs false
set_option linter.unusedVariables false
namespace Go.Bv
variable {S : RT}
attribute [local congr] ite_congr congr_bindOps congr_bindC congr_andThen congr_orNone congr_onBool congr_onEff congr_headC
set_option maxRecDepth 100000
set_option maxHeartbeats 40000000
theorem sizes_take_le (l : List Fd) (i : Nat) : sizes (l.take i) ≤ sizes l := by
  induction l generalizing i with
  | nil => simp
  | cons f l ih =>
    cases i with
    | zero => have := (sizes_range (f :: l)).1; simpa [sizes] using this
    | succ i => have := ih i; simp [sizes]; omega
theorem run35 (name : ByteArray) (l : List Fd) (n : Nat) (hl : l.length ≤ 1000000) (hr : Right l) (hn : n ≤ l.length) : run T S 35 [.agg [.str name, .sl (l.map encF)], .int .i64 n] = some (.int .i64 (sizes (l.take n))) := by
  (refine run_fn T35 ⟨rfl, by decide⟩ ?_; rw [start35])
  simp (config := {decide := true, contextual := true, maxSteps := 3000000}) only [F35, List.replicate, ↓simPre, simPost, Bool.not_not, Bool.not_false, Bool.not_true, Bool.false_eq_true, reduceCtorEq, ↓reduceIte, decide_true, decide_false, splice, results, resT, resTs, AV.key, Bool.and_true, Bool.true_and, and_true, true_and, and_self, List.flatMap_nil, List.flatMap_cons, List.append_nil, List.nil_append, List.cons_append, List.map_cons, List.map_nil, List.all_cons, List.all_nil, List.length_cons, List.length_nil, Nat.reduceAdd, Nat.reduceLT, Nat.reduceLeDiff, Nat.reduceEqDiff, Nat.reduceSub, Nat.zero_add, Nat.add_zero, List.drop_succ_cons, List.drop_zero, List.take_succ_cons, List.take_zero]
  refine Eq.trans (headC_ind (σ := Nat) (fun x => ⟨[.unk, .int .i64 n, .ptr 2 0 0, .unk, .unk, .int .i64 (sizes (l.take x)), .int .i64 x] ++ List.replicate 15 .unk, ⟨0, .dead⟩ :: ⟨0, .dead⟩ :: ⟨0, .box [.str name, .sl (l.map encF)]⟩ :: List.replicate 19 ⟨0, .dead⟩⟩)
    (fun x => some (AV.int .i64 (sizes (l.take n)))) (fun x => n - x) (fun x => x ≤ n) ?_ 0 (Nat.zero_le _)) rfl
  intro i hi ih
  by_cases hlt : i < n
  · obtain ⟨h1, h2, h4, h5⟩ := idx hlt (by omega)
    have h2' : ((i : Int) < (l.length : Int)) = True := by simp; omega
    have h3 := map_get encF l i default (by omega)
    have hc := hr _ (fd_mem l i (by omega))
    have hs1 := sizes_range (l.take i)
    have hw := width_range (l.getD i default)
    rw [width_right hc] at hw
    have hlen : (l.take i).length ≤ 1000000 := by simp; omega
    have h6 : IntKind.wrap .i64 (sizes (l.take i) + sizeT (l.getD i default).t) = sizes (l.take (i + 1)) := by
      rw [wrap_i64 (by omega) (by omega), take_succ' l i (by omega), sizes_snoc, width_right hc]
    have h96 := run96 (S := S) (l.getD i default).t hc
    simp only [encF, encT] at h3 h96
    simp (config := {decide := true, contextual := true, maxSteps := 3000000}) only [h1, h2, h2', h3, h4, h5, h6, h96, List.length_map, List.replicate, ↓simPre, simPost, Bool.not_not, Bool.not_false, Bool.not_true, Bool.false_eq_true, reduceCtorEq, ↓reduceIte, decide_true, decide_false, splice, results, resT, resTs, AV.key, Bool.and_true, Bool.true_and, and_true, true_and, and_self, List.flatMap_nil, List.flatMap_cons, List.append_nil, List.nil_append, List.cons_append, List.map_cons, List.map_nil, List.all_cons, List.all_nil, List.length_cons, List.length_nil, Nat.reduceAdd, Nat.reduceLT, Nat.reduceLeDiff, Nat.reduceEqDiff, Nat.reduceSub, Nat.zero_add, Nat.add_zero, List.drop_succ_cons, List.drop_zero, List.take_succ_cons, List.take_zero]
    exact ih (i + 1) (by omega) (by omega)
  · have h2 := idxEnd (Nat.le_of_not_lt hlt)
    obtain rfl : i = n := by omega
    simp (config := {decide := true, contextual := true, maxSteps := 3000000}) only [h2, List.replicate, ↓simPre, simPost, Bool.not_not, Bool.not_false, Bool.not_true, Bool.false_eq_true, reduceCtorEq, ↓reduceIte, decide_true, decide_false, splice, results, resT, resTs, AV.key, Bool.and_true, Bool.true_and, and_true, true_and, and_self, List.flatMap_nil, List.flatMap_cons, List.append_nil, List.nil_append, List.cons_append, List.map_cons, List.map_nil, List.all_cons, List.all_nil, List.length_cons, List.length_nil, Nat.reduceAdd, Nat.reduceLT, Nat.reduceLeDiff, Nat.reduceEqDiff, Nat.reduceSub, Nat.zero_add, Nat.add_zero, List.drop_succ_cons, List.drop_zero, List.take_succ_cons, List.take_zero]
/-- The bytes of a field. -/
def part (l : List Fd) (s : ByteArray) (i : Nat) : ByteArray := s.extract (sizes (l.take i)).toNat (sizes (l.take (i + 1))).toNat
theorem run75 (name : ByteArray) (l : List Fd) (s : ByteArray) (i : Nat) (hl : l.length ≤ 1000000) (hr : Right l) (hi : i < l.length) (hs : (s.size : Int) = sizes l) :
    run T S 75 [.agg [.str name, .sl (l.map encF)], .str s, .int .i64 i] = some (.str (part l s i)) := by
  have h35 := run35 (S := S) name l i hl hr (by omega)
  have hc := hr _ (fd_mem l i hi)
  have h96 := run96 (S := S) (l.getD i default).t hc
  obtain ⟨h1, h2, h4, h5⟩ := idx hi (by omega)
  have h3 := map_get encF l i default hi
  have hs1 := sizes_range (l.take i)
  have hw := width_range (l.getD i default)
  rw [width_right hc] at hw
  have hlen : (l.take i).length ≤ 1000000 := by simp; omega
  have h6 : IntKind.wrap .i64 (sizes (l.take i) + sizeT (l.getD i default).t) = sizes (l.take (i + 1)) := by
    rw [wrap_i64 (by omega) (by omega), take_succ' l i (by omega), sizes_snoc, width_right hc]
  have g1 : (0 ≤ sizes (l.take i)) = True := by simp; omega
  have g2 : (sizes (l.take i) ≤ sizes (l.take (i + 1))) = True := by
    have : sizes (l.take (i + 1)) = sizes (l.take i) + sizeT (l.getD i default).t := by rw [take_succ' l i (by omega), sizes_snoc, width_right hc]
    exact eq_true (by rw [this]; omega)
  have g3 : (sizes (l.take (i + 1)) ≤ (s.size : Int)) = True := by rw [hs]; simp; exact sizes_take_le l (i + 1)
  simp only [encF, encT] at h3 h96
  (refine run_fn T75 ⟨rfl, by decide⟩ ?_; rw [start75])
  simp (config := {decide := true, contextual := true, maxSteps := 3000000}) only [F75, h35, h1, h2, h3, h4, h6, h96, g1, g2, g3, List.length_map, List.replicate, ↓simPre, simPost, Bool.not_not, Bool.not_false, Bool.not_true, Bool.false_eq_true, reduceCtorEq, ↓reduceIte, decide_true, decide_false, splice, results, resT, resTs, AV.key, Bool.and_true, Bool.true_and, and_true, true_and, and_self, List.flatMap_nil, List.flatMap_cons, List.append_nil, List.nil_append, List.cons_append, List.map_cons, List.map_nil, List.all_cons, List.all_nil, List.length_cons, List.length_nil, Nat.reduceAdd, Nat.reduceLT, Nat.reduceLeDiff, Nat.reduceEqDiff, Nat.reduceSub, Nat.zero_add, Nat.add_zero, List.drop_succ_cons, List.drop_zero, List.take_succ_cons, List.take_zero]
  rfl
def valAt (l : List Fd) (s : ByteArray) (i : Nat) : Val × Int × Int := decode (l.getD i default).t (part l s i)
theorem run79 (name : ByteArray) (l : List Fd) (s : ByteArray) (i : Nat) (hl : l.length ≤ 1000000) (hr : Right l) (hi : i < l.length) (hs : (s.size : Int) = sizes l) (hsm : s.size ≤ 1000000) :
    run T S 79 [.agg [.str name, .sl (l.map encF)], .str s, .int .i64 i] = some (.agg (encV (valAt l s i).1)) := by
  have h75 := run75 (S := S) name l s i hl hr hi hs
  have h74 := run74 (S := S) (l.getD i default).t (part l s i) (by unfold part; simp; omega)
  have h3 := map_get encF l i default hi
  obtain ⟨h1, h2, h4, h5⟩ := idx hi (by omega)
  unfold valAt
  simp only [encF, encT, encD, encV] at h3 h74 ⊢
  (refine run_fn T79 ⟨rfl, by decide⟩ ?_; rw [start79])
  simp (config := {decide := true, contextual := true, maxSteps := 3000000}) only [F79, h75, h74, h1, h2, h3, h4, List.length_map, List.replicate, ↓simPre, simPost, Bool.not_not, Bool.not_false, Bool.not_true, Bool.false_eq_true, reduceCtorEq, ↓reduceIte, decide_true, decide_false, splice, results, resT, resTs, AV.key, Bool.and_true, Bool.true_and, and_true, true_and, and_self, List.flatMap_nil, List.flatMap_cons, List.append_nil, List.nil_append, List.cons_append, List.map_cons, List.map_nil, List.all_cons, List.all_nil, List.length_cons, List.length_nil, Nat.reduceAdd, Nat.reduceLT, Nat.reduceLeDiff, Nat.reduceEqDiff, Nat.reduceSub, Nat.zero_add, Nat.add_zero, List.drop_succ_cons, List.drop_zero, List.take_succ_cons, List.take_zero]
theorem run22 (name : ByteArray) (l : List Fd) (s : ByteArray) (hl : l.length ≤ 1000000) (hr : Right l) (hs : (s.size : Int) = sizes l) (hsm : s.size ≤ 1000000) (hne : 1 ≤ l.length) :
    run T S 22 [.agg [.str name, .sl (l.map encF)], .str s] = some (.fr 40 2 ((List.range l.length).map fun i => encV (valAt l s i).1)) := by
  (refine run_fn T22 ⟨rfl, by decide⟩ ?_; rw [start22])
  simp (config := {decide := true, contextual := true, maxSteps := 3000000}) only [F22, List.replicate, ↓simPre, simPost, Bool.not_not, Bool.not_false, Bool.not_true, Bool.false_eq_true, reduceCtorEq, ↓reduceIte, decide_true, decide_false, splice, results, resT, resTs, AV.key, Bool.and_true, Bool.true_and, and_true, true_and, and_self, List.flatMap_nil, List.flatMap_cons, List.append_nil, List.nil_append, List.cons_append, List.map_cons, List.map_nil, List.all_cons, List.all_nil, List.length_cons, List.length_nil, Nat.reduceAdd, Nat.reduceLT, Nat.reduceLeDiff, Nat.reduceEqDiff, Nat.reduceSub, Nat.zero_add, Nat.add_zero, List.drop_succ_cons, List.drop_zero, List.take_succ_cons, List.take_zero]
  refine Eq.trans (headC_ind (σ := Nat) (fun x => match x with
      | 0 => ⟨[.unk, .str s, .ptr 2 0 0, .unk, .unk, .nil, .int .i64 0] ++ List.replicate 15 .unk, ⟨0, .dead⟩ :: ⟨0, .dead⟩ :: ⟨0, .box [.str name, .sl (l.map encF)]⟩ :: List.replicate 19 ⟨0, .dead⟩⟩
      | i + 1 => ⟨[.unk, .str s, .ptr 2 0 0, .unk, .unk, .own 20 0, .int .i64 (i + 1 : Nat)] ++ List.replicate 15 .unk, ⟨0, .dead⟩ :: ⟨0, .dead⟩ :: ⟨0, .box [.str name, .sl (l.map encF)]⟩ :: (List.replicate 17 ⟨0, .dead⟩ ++ [⟨0, .row 40 2 0 ((List.range (i + 1)).map fun i => encV (valAt l s i).1)⟩, ⟨0, .dead⟩])⟩)
    (fun x => some (.fr 40 2 ((List.range l.length).map fun i => encV (valAt l s i).1))) (fun x => l.length - x) (fun x => x ≤ l.length) ?_ 0 (Nat.zero_le _)) rfl
  intro i hi ih
  by_cases hlt : i < l.length
  · obtain ⟨h1, h2, h4, h5⟩ := idx hlt (by omega)
    have h79 := run79 (S := S) name l s i hl hr hlt hs hsm
    have hih := ih (i + 1) (by omega) (by omega)
    have e1 : ((List.range i).map fun i => encV (valAt l s i).1) ++ [[.int .i64 (valAt l s i).1.n, .str (valAt l s i).1.s]] = (List.range (i + 1)).map fun i => encV (valAt l s i).1 := by
      rw [List.range_succ]; simp [encV]
    simp only [encV] at h79
    cases i with
    | zero =>
      simp only [Int.ofNat_eq_natCast, Int.cast_ofNat_Int, Int.natCast_zero] at h1 h2 h4 h5 h79
      simp (config := {decide := true, contextual := true, maxSteps := 3000000}) only [h1, h2, h4, h5, h79, List.length_map, List.replicate, ↓simPre, simPost, Bool.not_not, Bool.not_false, Bool.not_true, Bool.false_eq_true, reduceCtorEq, ↓reduceIte, decide_true, decide_false, splice, results, resT, resTs, AV.key, Bool.and_true, Bool.true_and, and_true, true_and, and_self, List.flatMap_nil, List.flatMap_cons, List.append_nil, List.nil_append, List.cons_append, List.map_cons, List.map_nil, List.all_cons, List.all_nil, List.length_cons, List.length_nil, Nat.reduceAdd, Nat.reduceLT, Nat.reduceLeDiff, Nat.reduceEqDiff, Nat.reduceSub, Nat.zero_add, Nat.add_zero, List.drop_succ_cons, List.drop_zero, List.take_succ_cons, List.take_zero]
      exact hih
    | succ i =>
      have g6 : (((List.range (i + 1)).length + 1) * 24 ≤ 140737488355328) = True := by simp; omega
      have g5 : ((i + 1 + 1) * 24 ≤ 140737488355328) = True := by simp; omega
      simp (config := {decide := true, contextual := true, maxSteps := 3000000}) only [h1, h2, h4, h5, h79, e1, g5, g6, List.length_range, List.length_map, List.replicate, ↓simPre, simPost, Bool.not_not, Bool.not_false, Bool.not_true, Bool.false_eq_true, reduceCtorEq, ↓reduceIte, decide_true, decide_false, splice, results, resT, resTs, AV.key, Bool.and_true, Bool.true_and, and_true, true_and, and_self, List.flatMap_nil, List.flatMap_cons, List.append_nil, List.nil_append, List.cons_append, List.map_cons, List.map_nil, List.all_cons, List.all_nil, List.length_cons, List.length_nil, Nat.reduceAdd, Nat.reduceLT, Nat.reduceLeDiff, Nat.reduceEqDiff, Nat.reduceSub, Nat.zero_add, Nat.add_zero, List.drop_succ_cons, List.drop_zero, List.take_succ_cons, List.take_zero]
      exact hih
  · have h2 := idxEnd (Nat.le_of_not_lt hlt)
    obtain rfl : i = l.length := by omega
    cases hll : l.length with
    | zero => omega
    | succ k =>
      rw [hll] at h2
      simp (config := {decide := true, contextual := true, maxSteps := 3000000}) only [h2, hll, List.length_map, List.replicate, ↓simPre, simPost, Bool.not_not, Bool.not_false, Bool.not_true, Bool.false_eq_true, reduceCtorEq, ↓reduceIte, decide_true, decide_false, splice, results, resT, resTs, AV.key, Bool.and_true, Bool.true_and, and_true, true_and, and_self, List.flatMap_nil, List.flatMap_cons, List.append_nil, List.nil_append, List.cons_append, List.map_cons, List.map_nil, List.all_cons, List.all_nil, List.length_cons, List.length_nil, Nat.reduceAdd, Nat.reduceLT, Nat.reduceLeDiff, Nat.reduceEqDiff, Nat.reduceSub, Nat.zero_add, Nat.add_zero, List.drop_succ_cons, List.drop_zero, List.take_succ_cons, List.take_zero]
end Go.Bv

/- BY VALUE, chapter 26, the reference: BytesErr; and the values are the program's. -/
set_option linter.unusedSimpArgs false
set_option linter.unusedVariables false
namespace Go.Bv
variable {S : RT}
attribute [local congr] ite_congr congr_bindOps congr_bindC congr_andThen congr_orNone congr_onBool congr_onEff congr_headC
set_option maxRecDepth 100000
set_option maxHeartbeats 40000000
def bytesGo (l : List Fd) (s : ByteArray) : Nat → Nat → Int × Int
  | 0, _ => (0, 0)
  | k + 1, i => if ((valAt l s i).2.2 != 0) = true then ((i : Int), (valAt l s i).2.2) else bytesGo l s k (i + 1)
def vals (l : List Fd) (s : ByteArray) (n : Nat) : List Val := (List.range n).map fun i => (valAt l s i).1
theorem sizes_step (l : List Fd) (i : Nat) (hi : i < l.length) : sizes (l.take (i + 1)) = sizes (l.take i) + width (l.getD i default) := by
  rw [take_succ' l i hi, sizes_snoc]
theorem decodedGo_eq (l : List Fd) (s : ByteArray) (hs : (s.size : Int) = sizes l) : ∀ (k i : Nat), i + k = l.length →
    decodedGo (l.drop i) (s.extract (sizes (l.take i)).toNat s.size) i (vals l s i) = if ((bytesGo l s k i).2 != 0) = true then ([], bytesGo l s k i) else (vals l s l.length, 0, 0) := by
  intro k
  induction k with
  | zero =>
    intro i hi
    obtain rfl : i = l.length := by omega
    simp [decodedGo, bytesGo]
  | succ k ih =>
    intro i hi
    have hlt : i < l.length := by omega
    have hst := sizes_step l i hlt
    have hw := width_range (l.getD i default)
    have hs0 := sizes_range (l.take i)
    have hle := sizes_take_le l (i + 1)
    rw [drop_cons default hlt]
    have e1 : (s.extract (sizes (l.take i)).toNat s.size).extract 0 (width (l.getD i default)).toNat = part l s i := by
      unfold part
      rw [ByteArray.extract_extract]
      congr 1
      omega
    have e2 : (s.extract (sizes (l.take i)).toNat s.size).extract (width (l.getD i default)).toNat (s.extract (sizes (l.take i)).toNat s.size).size = s.extract (sizes (l.take (i + 1))).toNat s.size := by
      rw [ByteArray.extract_extract]
      congr 1
      · omega
      · simp; omega
    have e3 : vals l s i ++ [(valAt l s i).1] = vals l s (i + 1) := by unfold vals; rw [List.range_succ]; simp
    have e4 : decode (l.getD i default).t (part l s i) = valAt l s i := rfl
    simp only [decodedGo, e1, e2, e3, e4]
    simp only [bytesGo]
    split
    · rfl
    · exact ih (i + 1) (by omega)
/-- An index and the error of bytes. -/
def bytesErr (name : ByteArray) (l : List Fd) (s : ByteArray) : Int × Int :=
  if ((checkFormat name l).2 != 0) = true then (0, (checkFormat name l).2)
  else if ((s.size : Int) != sizes l) = true then (0, 18)
  else bytesGo l s l.length 0
theorem valuesOf_eq (name : ByteArray) (l : List Fd) (s : ByteArray) : valuesOf name l s = if ((bytesErr name l s).2 != 0) = true then ([], bytesErr name l s) else (vals l s l.length, 0, 0) := by
  unfold valuesOf bytesErr
  split
  · rename_i h; simp only [h, if_true]
  split
  · rfl
  · rename_i h
    have hs : (s.size : Int) = sizes l := by simpa using h
    have := decodedGo_eq l s hs l.length 0 (by omega)
    simp only [List.drop_zero, List.take_zero, sizes] at this
    have e : s.extract (Int.toNat 0) s.size = s := by simp
    rw [e] at this
    exact this
theorem ckFrom_right (l : List Fd) : ∀ (pre : List Fd) (i sz : Int), Right pre → (ckFrom pre l i sz).2 = 0 → Right (pre ++ l) := by
  induction l with
  | nil => intro pre i sz hp _; simpa using hp
  | cons f l ih =>
    intro pre i sz hp h
    simp only [ckFrom] at h
    split at h
    · rename_i hh
      simp only at h
      rw [h] at hh; simp at hh
    · rename_i hh
      have hf : fieldErr pre f = 0 := by simpa using hh
      have hc : checkType f.t = 0 := first_zero hf _ (by simp)
      have := ih (pre ++ [f]) _ _ (by
        intro g hg
        rcases List.mem_append.1 hg with hg | hg
        · exact hp g hg
        · simp only [List.mem_singleton] at hg; subst hg; exact hc) h
      simpa using this
theorem check_right (name : ByteArray) (l : List Fd) (h : (checkFormat name l).2 = 0) : Right l ∧ 1 ≤ l.length ∧ l.length ≤ 20 := by
  unfold checkFormat at h
  split at h
  · rename_i hh; simp only at h; rw [h] at hh; simp at hh
  · rename_i hh
    have hf : formErr name l = 0 := by simpa using hh
    have h1 := cond_zero (by omega) (first_zero hf (cond ((l.length : Int) == 0) 1) (by simp))
    have h2 := cond_zero (by omega) (first_zero hf (cond (decide ((l.length : Int) > 20)) 2) (by simp))
    have := ckFrom_right l [] 0 0 (by intro g hg; simp at hg) h
    refine ⟨by simpa using this, ?_, ?_⟩
    · have h1' : ¬ ((l.length : Int) = 0) := by simpa using h1
      omega
    · have h2' : ¬ ((l.length : Int) > 20) := by simpa using h2
      omega
theorem run19 (name : ByteArray) (l : List Fd) (s : ByteArray) (h : Short name l) (hsm : s.size ≤ 1000000) :
    run T S 19 [.agg [.str name, .sl (l.map encF)], .str s] = some (.tup [.int .i64 (bytesErr name l s).1, .int .i64 (bytesErr name l s).2]) := by
  have h73 := run73 (S := S) name l h
  unfold bytesErr
  by_cases hc : (checkFormat name l).2 = 0
  · obtain ⟨hr, hl1, hl20⟩ := check_right name l hc
    have h33 := run33 (S := S) name l (by omega) hr
    have hcb : ((checkFormat name l).2 != 0) = false := by simpa using hc
    rw [hc] at h73
    simp only [hcb, Bool.false_eq_true, if_false]
    by_cases hs : (s.size : Int) = sizes l
    · have hsb : ((s.size : Int) != sizes l) = false := by simpa using hs
      simp only [hsb, Bool.false_eq_true, if_false]
      (refine run_fn T19 ⟨rfl, by decide⟩ ?_; rw [start19])
      simp (config := {decide := true, contextual := true, maxSteps := 3000000}) only [F19, h73, h33, hsb, List.replicate, ↓simPre, simPost, Bool.not_not, Bool.not_false, Bool.not_true, Bool.false_eq_true, reduceCtorEq, ↓reduceIte, decide_true, decide_false, splice, results, resT, resTs, AV.key, Bool.and_true, Bool.true_and, and_true, true_and, and_self, List.flatMap_nil, List.flatMap_cons, List.append_nil, List.nil_append, List.cons_append, List.map_cons, List.map_nil, List.all_cons, List.all_nil, List.length_cons, List.length_nil, Nat.reduceAdd, Nat.reduceLT, Nat.reduceLeDiff, Nat.reduceEqDiff, Nat.reduceSub, Nat.zero_add, Nat.add_zero, List.drop_succ_cons, List.drop_zero, List.take_succ_cons, List.take_zero]
      refine Eq.trans (headC_ind (σ := Nat) (fun x => ⟨[.unk, .str s, .ptr 2 0 0, .unk, .unk, .unk, .unk, .int .i64 x] ++ List.replicate 39 .unk, ⟨0, .dead⟩ :: ⟨0, .dead⟩ :: ⟨0, .box [.str name, .sl (l.map encF)]⟩ :: List.replicate 44 ⟨0, .dead⟩⟩)
        (fun x => some (AV.tup [.int .i64 (bytesGo l s (l.length - x) x).1, .int .i64 (bytesGo l s (l.length - x) x).2])) (fun x => l.length - x) (fun x => x ≤ l.length) ?_ 0 (Nat.zero_le _)) (by simp)
      intro i hi ih
      by_cases hlt : i < l.length
      · obtain ⟨h1, h2, h4, h5⟩ := idx hlt (by omega)
        have h75 := run75 (S := S) name l s i (by omega) hr hlt hs
        have h74 := run74 (S := S) (l.getD i default).t (part l s i) (by unfold part; simp; omega)
        have h3 := map_get encF l i default hlt
        have hk : l.length - i = (l.length - (i + 1)) + 1 := by omega
        have e4 : decode (l.getD i default).t (part l s i) = valAt l s i := rfl
        rw [e4] at h74
        simp only [encF, encT, encD, encV] at h3 h74
        simp (config := {decide := true, contextual := true, maxSteps := 3000000}) only [h75, h74, h1, h2, h3, h4, h5, List.length_map, List.replicate, ↓simPre, simPost, Bool.not_not, Bool.not_false, Bool.not_true, Bool.false_eq_true, reduceCtorEq, ↓reduceIte, decide_true, decide_false, splice, results, resT, resTs, AV.key, Bool.and_true, Bool.true_and, and_true, true_and, and_self, List.flatMap_nil, List.flatMap_cons, List.append_nil, List.nil_append, List.cons_append, List.map_cons, List.map_nil, List.all_cons, List.all_nil, List.length_cons, List.length_nil, Nat.reduceAdd, Nat.reduceLT, Nat.reduceLeDiff, Nat.reduceEqDiff, Nat.reduceSub, Nat.zero_add, Nat.add_zero, List.drop_succ_cons, List.drop_zero, List.take_succ_cons, List.take_zero]
        rw [hk]
        simp only [bytesGo]
        split
        · rfl
        · exact ih (i + 1) (by omega) (by omega)
      · have h2 := idxEnd (Nat.le_of_not_lt hlt)
        have hk : l.length - i = 0 := by omega
        simp (config := {decide := true, contextual := true, maxSteps := 3000000}) only [h2, hk, bytesGo, List.length_map, List.replicate, ↓simPre, simPost, Bool.not_not, Bool.not_false, Bool.not_true, Bool.false_eq_true, reduceCtorEq, ↓reduceIte, decide_true, decide_false, splice, results, resT, resTs, AV.key, Bool.and_true, Bool.true_and, and_true, true_and, and_self, List.flatMap_nil, List.flatMap_cons, List.append_nil, List.nil_append, List.cons_append, List.map_cons, List.map_nil, List.all_cons, List.all_nil, List.length_cons, List.length_nil, Nat.reduceAdd, Nat.reduceLT, Nat.reduceLeDiff, Nat.reduceEqDiff, Nat.reduceSub, Nat.zero_add, Nat.add_zero, List.drop_succ_cons, List.drop_zero, List.take_succ_cons, List.take_zero]
    · have hsb : ((s.size : Int) != sizes l) = true := by simpa using hs
      simp only [hsb, if_true]
      (refine run_fn T19 ⟨rfl, by decide⟩ ?_; rw [start19])
      simp (config := {decide := true, contextual := true, maxSteps := 3000000}) only [F19, h73, h33, hsb, List.replicate, ↓simPre, simPost, Bool.not_not, Bool.not_false, Bool.not_true, Bool.false_eq_true, reduceCtorEq, ↓reduceIte, decide_true, decide_false, splice, results, resT, resTs, AV.key, Bool.and_true, Bool.true_and, and_true, true_and, and_self, List.flatMap_nil, List.flatMap_cons, List.append_nil, List.nil_append, List.cons_append, List.map_cons, List.map_nil, List.all_cons, List.all_nil, List.length_cons, List.length_nil, Nat.reduceAdd, Nat.reduceLT, Nat.reduceLeDiff, Nat.reduceEqDiff, Nat.reduceSub, Nat.zero_add, Nat.add_zero, List.drop_succ_cons, List.drop_zero, List.take_succ_cons, List.take_zero]
  · have hcb : ((checkFormat name l).2 != 0) = true := by simpa using hc
    simp only [hcb, if_true]
    (refine run_fn T19 ⟨rfl, by decide⟩ ?_; rw [start19])
    simp (config := {decide := true, contextual := true, maxSteps := 3000000}) only [F19, h73, hcb, List.replicate, ↓simPre, simPost, Bool.not_not, Bool.not_false, Bool.not_true, Bool.false_eq_true, reduceCtorEq, ↓reduceIte, decide_true, decide_false, splice, results, resT, resTs, AV.key, Bool.and_true, Bool.true_and, and_true, true_and, and_self, List.flatMap_nil, List.flatMap_cons, List.append_nil, List.nil_append, List.cons_append, List.map_cons, List.map_nil, List.all_cons, List.all_nil, List.length_cons, List.length_nil, Nat.reduceAdd, Nat.reduceLT, Nat.reduceLeDiff, Nat.reduceEqDiff, Nat.reduceSub, Nat.zero_add, Nat.add_zero, List.drop_succ_cons, List.drop_zero, List.take_succ_cons, List.take_zero]
end Go.Bv
