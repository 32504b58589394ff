/- BY VALUE, chapter 26: ownFile, SizeOf, OffsetOf; the reference's FieldAt. -/
import Derived.Test.YtnfmilnlekmjgaaW4d
import Derived.Test.YtnfmilnlekmjgaaR1
set_option linter.unusedSimpArgs false
set_option linter.unusedVariables false
namespace Go.Bv
variable {S : RT}
attribute [local congr] ite_congr congr_bindOps congr_bindC congr_andThen congr_orNone congr_onBool congr_onEff congr_headC
set_option maxRecDepth 100000
set_option maxHeartbeats 40000000
theorem run29 (fn n : ByteArray) (l : List Fd) (ks : List (ByteArray × Bool)) (u : Bool) (hl : l.length ≤ 1000000) (hk : ks.length ≤ 1000000) : run T S 29 [.agg (fileC fn n l ks u)] = some (.agg (fileC fn n l ks u)) := by
  have h18 := run18 (S := S) n l hl
  have h1 : (ks.map encK).all (fun y => y.length == 2) = true := by simp [encK]
  have h2 : ((ks.map encK).length * 24 ≤ 140737488355328) = True := by simp; omega
  have h3 : (ks.length * 24 ≤ 140737488355328) = True := by simp; omega
  simp only [fileC]
  (refine run_fn T29 ⟨rfl, by decide⟩ ?_; rw [start29])
  simp (config := {decide := true, contextual := true, maxSteps := 3000000}) only [F29, h18, h1, h2, h3, List.length_map, List.replicate, ↓simPre, simPost, Bool.not_not, Bool.not_false, Bool.not_true, Bool.false_eq_true, reduceCtorEq, ↓reduceIte, decide_true, decide_false, splice, results, resT, resTs, AV.key, Bool.and_true, Bool.true_and, and_true, true_and, and_self, List.flatMap_nil, List.flatMap_cons, List.append_nil, List.nil_append, List.cons_append, List.map_cons, List.map_nil, List.all_cons, List.all_nil, List.length_cons, List.length_nil, Nat.reduceAdd, Nat.reduceLT, Nat.reduceLeDiff, Nat.reduceEqDiff, Nat.reduceSub, Nat.zero_add, Nat.add_zero, List.drop_succ_cons, List.drop_zero, List.take_succ_cons, List.take_zero]
theorem run31 (n : ByteArray) (l : List Fd) (h : Short n l) : run T S 31 [.agg [.str n, .sl (l.map encF)]] = some (if ((checkFormat n l).2 != 0) = true then .tup [.int .i64 0, .int .i64 (checkFormat n l).2] else .tup [.int .i64 (sizes l), .int .i64 0]) := by
  have h76 := run76 (S := S) n l h
  have h77 := run77 (S := S) n l (by have := h.2.1; omega)
  (refine run_fn T31 ⟨rfl, by decide⟩ ?_; rw [start31])
  simp (config := {decide := true, contextual := true, maxSteps := 3000000}) only [F31, h76, h77, List.replicate, ↓simPre, simPost, Bool.not_not, Bool.not_false, Bool.not_true, Bool.false_eq_true, reduceCtorEq, ↓reduceIte, decide_true, decide_false, splice, results, resT, resTs, AV.key, Bool.and_true, Bool.true_and, and_true, true_and, and_self, List.flatMap_nil, List.flatMap_cons, List.append_nil, List.nil_append, List.cons_append, List.map_cons, List.map_nil, List.all_cons, List.all_nil, List.length_cons, List.length_nil, Nat.reduceAdd, Nat.reduceLT, Nat.reduceLeDiff, Nat.reduceEqDiff, Nat.reduceSub, Nat.zero_add, Nat.add_zero, List.drop_succ_cons, List.drop_zero, List.take_succ_cons, List.take_zero]
  skip
  split <;> rfl
theorem run34 (n nm : ByteArray) (l : List Fd) (hl : l.length ≤ 1000000) : run T S 34 [.agg [.str n, .sl (l.map encF)], .str nm] = some (.int .i64 (fieldAt l nm 0)) := by
  have h95 := run95 (S := S) n nm l hl
  (refine run_fn T34 ⟨rfl, by decide⟩ ?_; rw [start34])
  simp (config := {decide := true, contextual := true, maxSteps := 3000000}) only [F34, h95, List.replicate, ↓simPre, simPost, Bool.not_not, Bool.not_false, Bool.not_true, Bool.false_eq_true, reduceCtorEq, ↓reduceIte, decide_true, decide_false, splice, results, resT, resTs, AV.key, Bool.and_true, Bool.true_and, and_true, true_and, and_self, List.flatMap_nil, List.flatMap_cons, List.append_nil, List.nil_append, List.cons_append, List.map_cons, List.map_nil, List.all_cons, List.all_nil, List.length_cons, List.length_nil, Nat.reduceAdd, Nat.reduceLT, Nat.reduceLeDiff, Nat.reduceEqDiff, Nat.reduceSub, Nat.zero_add, Nat.add_zero, List.drop_succ_cons, List.drop_zero, List.take_succ_cons, List.take_zero]
theorem fieldAt_range (l : List Fd) (nm : ByteArray) : ∀ k : Int, fieldAt l nm k = -1 ∧ l.any (fun f => f.name.toList == nm.toList) = false ∨ (k ≤ fieldAt l nm k ∧ fieldAt l nm k < k + l.length ∧ l.any (fun f => f.name.toList == nm.toList) = true) := by
  induction l with
  | nil => intro k; exact .inl ⟨rfl, rfl⟩
  | cons f l ih =>
    intro k
    simp only [fieldAt, List.any_cons]
    split
    · rename_i h; rw [h]; right; simp; omega
    · rename_i h
      have h' : (f.name.toList == nm.toList) = false := by simpa using h
      rw [h']
      rcases ih (k + 1) with ⟨h1, h2⟩ | ⟨h1, h2, h3⟩
      · left; exact ⟨h1, by simp [h2]⟩
      · right; refine ⟨by omega, by simp only [List.length_cons]; push_cast; omega, by simp [h3]⟩
/-- Where a field is found. -/
theorem at_field (l : List Fd) (nm : ByteArray) : ∀ (k : Int) (off : Int), l.any (fun f => f.name.toList == nm.toList) = true →
    atFrom l nm k off = (fieldAt l nm k, off + sizes (l.take (fieldAt l nm k - k).toNat), true) := by
  induction l with
  | nil => intro k off h; simp at h
  | cons f l ih =>
    intro k off h
    simp only [atFrom, fieldAt]
    split
    · simp [sizes]
    · rename_i hh
      have h' : (f.name.toList == nm.toList) = false := by simpa using hh
      simp only [List.any_cons, h', Bool.false_or] at h
      rw [ih (k + 1) (off + width f) h]
      rcases fieldAt_range l nm (k + 1) with ⟨_, h2⟩ | ⟨h1, h2, h3⟩
      · rw [h2] at h; cases h
      · have : (fieldAt l nm (k + 1) - k).toNat = (fieldAt l nm (k + 1) - (k + 1)).toNat + 1 := by omega
        rw [this]
        simp only [List.take_succ_cons, sizes]
        rw [Int.add_assoc]
theorem at_none (l : List Fd) (nm : ByteArray) : ∀ (k : Int) (off : Int), l.any (fun f => f.name.toList == nm.toList) = false → atFrom l nm k off = (0, 0, false) ∧ fieldAt l nm k = -1 := by
  induction l with
  | nil => intro k off _; exact ⟨rfl, rfl⟩
  | cons f l ih =>
    intro k off h
    simp only [List.any_cons, Bool.or_eq_false_iff] at h
    simp only [atFrom, fieldAt, h.1, Bool.false_eq_true, if_false]
    exact ⟨(ih (k + 1) _ h.2).1, (ih (k + 1) off h.2).2⟩
def tyAV (t : Ty) : AV := .agg (encT t)
/-- The offset and the type of a field, and the error. -/
def offsetOf (n : ByteArray) (l : List Fd) (nm : ByteArray) : Int × Ty × Int :=
  if ((checkFormat n l).2 != 0) = true then (0, ⟨0, 0, 0⟩, (checkFormat n l).2)
  else if l.any (fun f => f.name.toList == nm.toList) = true then (sizes (l.take (fieldAt l nm 0).toNat), (l.getD (fieldAt l nm 0).toNat default).t, 0)
  else (0, ⟨0, 0, 0⟩, 11)
theorem run32 (n : ByteArray) (l : List Fd) (nm : ByteArray) (h : Short n l) : run T S 32 [.agg [.str n, .sl (l.map encF)], .str nm] = some (.tup [.int .i64 (offsetOf n l nm).1, tyAV (offsetOf n l nm).2.1, .int .i64 (offsetOf n l nm).2.2]) := by
  have h76 := run76 (S := S) n l h
  have h88 := run88 (S := S) n nm l (by have := h.2.1; omega)
  unfold offsetOf
  cases hc : ((checkFormat n l).2 != 0) with
  | true =>
    simp only [if_true, tyAV, encT]
    (refine run_fn T32 ⟨rfl, by decide⟩ ?_; rw [start32])
    simp (config := {decide := true, contextual := true, maxSteps := 3000000}) only [F32, h76, h88, hc, List.replicate, ↓simPre, simPost, Bool.not_not, Bool.not_false, Bool.not_true, Bool.false_eq_true, reduceCtorEq, ↓reduceIte, decide_true, decide_false, splice, results, resT, resTs, AV.key, Bool.and_true, Bool.true_and, and_true, true_and, and_self, List.flatMap_nil, List.flatMap_cons, List.append_nil, List.nil_append, List.cons_append, List.map_cons, List.map_nil, List.all_cons, List.all_nil, List.length_cons, List.length_nil, Nat.reduceAdd, Nat.reduceLT, Nat.reduceLeDiff, Nat.reduceEqDiff, Nat.reduceSub, Nat.zero_add, Nat.add_zero, List.drop_succ_cons, List.drop_zero, List.take_succ_cons, List.take_zero]
  | false =>
    simp only [Bool.false_eq_true, if_false]
    cases ha : l.any (fun f => f.name.toList == nm.toList) with
    | false =>
      rw [(at_none l nm 0 0 ha).1] at h88
      simp only [Bool.false_eq_true, if_false, tyAV, encT]
      (refine run_fn T32 ⟨rfl, by decide⟩ ?_; rw [start32])
      simp (config := {decide := true, contextual := true, maxSteps := 3000000}) only [F32, h76, h88, hc, List.replicate, ↓simPre, simPost, Bool.not_not, Bool.not_false, Bool.not_true, Bool.false_eq_true, reduceCtorEq, ↓reduceIte, decide_true, decide_false, splice, results, resT, resTs, AV.key, Bool.and_true, Bool.true_and, and_true, true_and, and_self, List.flatMap_nil, List.flatMap_cons, List.append_nil, List.nil_append, List.cons_append, List.map_cons, List.map_nil, List.all_cons, List.all_nil, List.length_cons, List.length_nil, Nat.reduceAdd, Nat.reduceLT, Nat.reduceLeDiff, Nat.reduceEqDiff, Nat.reduceSub, Nat.zero_add, Nat.add_zero, List.drop_succ_cons, List.drop_zero, List.take_succ_cons, List.take_zero]
    | true =>
      have hf := at_field l nm 0 0 ha
      rw [hf] at h88
      rcases fieldAt_range l nm 0 with ⟨_, h2⟩ | ⟨r1, r2, _⟩
      · rw [h2] at ha; cases ha
      · simp only [Int.sub_zero, Int.zero_add] at h88 r2
        have g1 : (0 ≤ fieldAt l nm 0) = True := by simp; omega
        have g2 : (fieldAt l nm 0 < (l.length : Int)) = True := by simp; omega
        have g3 := map_get encF l (fieldAt l nm 0).toNat default (by omega)
        simp only [encF] at g3
        simp only [if_true, tyAV, encT]
        (refine run_fn T32 ⟨rfl, by decide⟩ ?_; rw [start32])
        simp (config := {decide := true, contextual := true, maxSteps := 3000000}) only [F32, h76, h88, hc, g1, g2, g3, List.length_map, List.replicate, ↓simPre, simPost, Bool.not_not, Bool.not_false, Bool.not_true, Bool.false_eq_true, reduceCtorEq, ↓reduceIte, decide_true, decide_false, splice, results, resT, resTs, AV.key, Bool.and_true, Bool.true_and, and_true, true_and, and_self, List.flatMap_nil, List.flatMap_cons, List.append_nil, List.nil_append, List.cons_append, List.map_cons, List.map_nil, List.all_cons, List.all_nil, List.length_cons, List.length_nil, Nat.reduceAdd, Nat.reduceLT, Nat.reduceLeDiff, Nat.reduceEqDiff, Nat.reduceSub, Nat.zero_add, Nat.add_zero, List.drop_succ_cons, List.drop_zero, List.take_succ_cons, List.take_zero]
end Go.Bv

/- BY VALUE, chapter 26, the reference: KeysErr, FileErr. -/
set_option linter.unusedSimpArgs false
set_option linter.unusedVariables false
namespace Go.Bv
variable {S : RT}
attribute [local congr] ite_congr congr_bindOps congr_bindC congr_andThen congr_orNone congr_onBool congr_onEff congr_headC
set_option maxRecDepth 100000
set_option maxHeartbeats 40000000
theorem keyHas (seen : List (ByteArray × Bool)) (s : ByteArray) : mapHas (seen.map ent) s = seen.any (fun q => q.1.toList == s.toList) := by
  induction seen with
  | nil => rfl
  | cons k seen ih =>
    simp only [List.map_cons, ent, mapHas, List.any_cons]
    have hs : (s.toList == k.1.toList) = (k.1.toList == s.toList) := by
      by_cases h : k.1.toList = s.toList
      · rw [h]
      · have h1 : (k.1.toList == s.toList) = false := by simpa using h
        have h2 : (s.toList == k.1.toList) = false := by simpa using fun e => h e.symm
        rw [h1, h2]
    rw [hs]
    cases (k.1.toList == s.toList) with
    | true => rfl
    | false => simp only [Bool.false_eq_true, if_false, Bool.false_or]; exact ih
theorem keyErr_eq (l : List Fd) (seen : List (ByteArray × Bool)) (k : ByteArray × Bool) : keyErr l seen k = if (fieldAt l k.1 0 == -1) = true then 11 else if seen.any (fun q => q.1.toList == k.1.toList) = true then 13 else 0 := by
  unfold keyErr
  rw [keyHas, atFrom_any]
  rcases fieldAt_range l k.1 0 with ⟨h1, h2⟩ | ⟨h1, h2, h3⟩
  · rw [h1, h2]; rfl
  · have : (fieldAt l k.1 0 == -1) = false := by simp; omega
    rw [h3, this]
    cases seen.any (fun q => q.1.toList == k.1.toList) <;> rfl
theorem take_snoc (ks : List (ByteArray × Bool)) (i : Nat) (h : i < ks.length) : ks.take (i + 1) = ks.take i ++ [ks.getD i (bs [], false)] := by
  rw [List.take_succ_eq_append_getElem h]
  simp [List.getD_eq_getElem?_getD, List.getElem?_eq_getElem h]
theorem run93 (fn n : ByteArray) (l : List Fd) (ks : List (ByteArray × Bool)) (u : Bool) (hl : l.length ≤ 1000000) (hk : ks.length ≤ 1000000) :
    run T S 93 [.agg (fileC fn n l ks u)] = some (if (decide ((ks.length : Int) > 4)) = true then .tup [.int .i64 0, .int .i64 2] else .tup [.int .i64 (keysGo l [] ks 0).1, .int .i64 (keysGo l [] ks 0).2]) := by
  simp only [fileC]
  (refine run_fn T93 ⟨rfl, by decide⟩ ?_; rw [start93])
  simp (config := {decide := true, contextual := true, maxSteps := 3000000}) only [F93, List.length_map, List.replicate, ↓simPre, simPost, Bool.not_not, Bool.not_false, Bool.not_true, Bool.false_eq_true, reduceCtorEq, ↓reduceIte, decide_true, decide_false, splice, results, resT, resTs, AV.key, Bool.and_true, Bool.true_and, and_true, true_and, and_self, List.flatMap_nil, List.flatMap_cons, List.append_nil, List.nil_append, List.cons_append, List.map_cons, List.map_nil, List.all_cons, List.all_nil, List.length_cons, List.length_nil, Nat.reduceAdd, Nat.reduceLT, Nat.reduceLeDiff, Nat.reduceEqDiff, Nat.reduceSub, Nat.zero_add, Nat.add_zero, List.drop_succ_cons, List.drop_zero, List.take_succ_cons, List.take_zero]
  split
  · rfl
  refine Eq.trans (headC_ind (σ := Nat) (fun x => ⟨[.unk, .ptr 1 0 0, .unk, .unk, .int .i64 x] ++ List.replicate 42 .unk, ⟨0, .dead⟩ :: ⟨0, .box [.str fn, .str n, .sl (l.map encF), .sl (ks.map encK), .bool u]⟩ :: List.replicate 45 ⟨0, .dead⟩⟩)
    (fun x => some (.tup [.int .i64 (keysGo l (ks.take x) (ks.drop x) x).1, .int .i64 (keysGo l (ks.take x) (ks.drop x) x).2])) (fun x => ks.length - x) (fun x => x ≤ ks.length) ?_ 0 (Nat.zero_le _)) (by simp)
  intro i hi ih
  by_cases hlt : i < ks.length
  · obtain ⟨h1, h2, h4, h5⟩ := idx hlt (by omega)
    have h3 := map_get encK ks i (bs [], false) hlt
    have hts := take_snoc ks i hlt
    have hih := ih (i + 1) (by omega) (by omega)
    rw [hts] at hih
    rw [drop_cons (bs [], false) hlt]
    generalize hkk : ks.getD i (bs [], false) = k at h3 hih
    have h95 := run95 (S := S) n k.1 l hl
    simp only [encK] at h3
    simp only [keysGo, keyErr_eq]
    simp (config := {decide := true, contextual := true, maxSteps := 3000000}) only [h1, h2, h3, h4, h5, h95, List.length_map, List.replicate, ↓simPre, simPost, Bool.not_not, Bool.not_false, Bool.not_true, Bool.false_eq_true, reduceCtorEq, ↓reduceIte, decide_true, decide_false, splice, results, resT, resTs, AV.key, Bool.and_true, Bool.true_and, and_true, true_and, and_self, List.flatMap_nil, List.flatMap_cons, List.append_nil, List.nil_append, List.cons_append, List.map_cons, List.map_nil, List.all_cons, List.all_nil, List.length_cons, List.length_nil, Nat.reduceAdd, Nat.reduceLT, Nat.reduceLeDiff, Nat.reduceEqDiff, Nat.reduceSub, Nat.zero_add, Nat.add_zero, List.drop_succ_cons, List.drop_zero, List.take_succ_cons, List.take_zero]
    by_cases c1 : (fieldAt l k.1 0 == -1) = true
    · simp only [c1, if_true]; rfl
    simp only [c1, Bool.false_eq_true, if_false]
    refine Eq.trans (headC_ind (σ := Nat) (fun j => ⟨[.unk, .ptr 1 0 0, .unk, .unk, .int .i64 i, .int .i64 j] ++ List.replicate 41 .unk, ⟨0, .dead⟩ :: ⟨0, .box [.str fn, .str n, .sl (l.map encF), .sl (ks.map encK), .bool u]⟩ :: List.replicate 45 ⟨0, .dead⟩⟩)
      (fun j => if ((ks.take i).drop j).any (fun q => q.1.toList == k.1.toList) = true then some (.tup [.int .i64 i, .int .i64 13]) else some (.tup [.int .i64 (keysGo l (ks.take i ++ [k]) (ks.drop (i + 1)) ((i : Int) + 1)).1, .int .i64 (keysGo l (ks.take i ++ [k]) (ks.drop (i + 1)) ((i : Int) + 1)).2])) (fun j => i - j) (fun j => j ≤ i) ?_ 0 (Nat.zero_le _)) ?_
    · intro j hj ihj
      have htl : (ks.take i).length = i := by simp; omega
      by_cases hjlt : j < i
      · obtain ⟨j1, j2, j4, j5⟩ := idx hjlt (by omega)
        have j2' : ((j : Int) < (ks.length : Int)) = True := by simp; omega
        have j3 := map_get encK ks j (bs [], false) (by omega)
        have jg : (ks.take i).getD j (bs [], false) = ks.getD j (bs [], false) := by simp [List.getD_eq_getElem?_getD, List.getElem?_take, hjlt]
        rw [drop_cons (bs [], false) (by rw [htl]; exact hjlt), jg]
        simp only [encK] at j3
        simp (config := {decide := true, contextual := true, maxSteps := 3000000}) only [h1, h2, h3, h4, j1, j2, j2', j3, j4, j5, List.length_map, List.replicate, ↓simPre, simPost, Bool.not_not, Bool.not_false, Bool.not_true, Bool.false_eq_true, reduceCtorEq, ↓reduceIte, decide_true, decide_false, splice, results, resT, resTs, AV.key, Bool.and_true, Bool.true_and, and_true, true_and, and_self, List.flatMap_nil, List.flatMap_cons, List.append_nil, List.nil_append, List.cons_append, List.map_cons, List.map_nil, List.all_cons, List.all_nil, List.length_cons, List.length_nil, Nat.reduceAdd, Nat.reduceLT, Nat.reduceLeDiff, Nat.reduceEqDiff, Nat.reduceSub, Nat.zero_add, Nat.add_zero, List.drop_succ_cons, List.drop_zero, List.take_succ_cons, List.take_zero]
        simp only [List.any_cons]
        by_cases cb : ((ks.getD j (bs [], false)).1.toList == k.1.toList) = true
        · rw [if_pos cb]
          simp only [cb, Bool.true_or, if_true]
        · rw [if_neg cb]
          have cb' : ((ks.getD j (bs [], false)).1.toList == k.1.toList) = false := by simpa using cb
          simp only [cb', Bool.false_or]
          exact ihj (j + 1) (by omega) (by omega)
      · have j2 := idxEnd (Nat.le_of_not_lt hjlt)
        have j7 : (ks.take i).drop j = [] := List.drop_eq_nil_of_le (by rw [htl]; omega)
        simp (config := {decide := true, contextual := true, maxSteps := 3000000}) only [j2, j7, h5, List.replicate, ↓simPre, simPost, Bool.not_not, Bool.not_false, Bool.not_true, Bool.false_eq_true, reduceCtorEq, ↓reduceIte, decide_true, decide_false, splice, results, resT, resTs, AV.key, Bool.and_true, Bool.true_and, and_true, true_and, and_self, List.flatMap_nil, List.flatMap_cons, List.append_nil, List.nil_append, List.cons_append, List.map_cons, List.map_nil, List.all_cons, List.all_nil, List.length_cons, List.length_nil, Nat.reduceAdd, Nat.reduceLT, Nat.reduceLeDiff, Nat.reduceEqDiff, Nat.reduceSub, Nat.zero_add, Nat.add_zero, List.drop_succ_cons, List.drop_zero, List.take_succ_cons, List.take_zero]
        simp only [List.any_nil, Bool.false_eq_true, if_false]
        exact hih
    · simp only [List.drop_zero]
      cases ca : (ks.take i).any (fun q => q.1.toList == k.1.toList) with
      | true => simp only [if_true]; rfl
      | false => simp only [Bool.false_eq_true, if_false]; rfl
  · have h2 := idxEnd (Nat.le_of_not_lt hlt)
    have h7 : ks.drop i = [] := List.drop_eq_nil_of_le (by omega)
    simp (config := {decide := true, contextual := true, maxSteps := 3000000}) only [h2, h7, keysGo, List.length_map, List.replicate, ↓simPre, simPost, Bool.not_not, Bool.not_false, Bool.not_true, Bool.false_eq_true, reduceCtorEq, ↓reduceIte, decide_true, decide_false, splice, results, resT, resTs, AV.key, Bool.and_true, Bool.true_and, and_true, true_and, and_self, List.flatMap_nil, List.flatMap_cons, List.append_nil, List.nil_append, List.cons_append, List.map_cons, List.map_nil, List.all_cons, List.all_nil, List.length_cons, List.length_nil, Nat.reduceAdd, Nat.reduceLT, Nat.reduceLeDiff, Nat.reduceEqDiff, Nat.reduceSub, Nat.zero_add, Nat.add_zero, List.drop_succ_cons, List.drop_zero, List.take_succ_cons, List.take_zero]
theorem run30 (fn n : ByteArray) (l : List Fd) (ks : List (ByteArray × Bool)) (u : Bool) (hn : fn.size ≤ 1000000) (hsh : Short n l) (hk : ks.length ≤ 1000000) :
    run T S 30 [.agg (fileC fn n l ks u)] = some (.tup [.int .i64 (checkFile fn n l ks).1, .int .i64 (checkFile fn n l ks).2]) := by
  have h91 := run91 (S := S) fn (by omega)
  have h27 := run27 (S := S) n l hsh
  have h93 := run93 (S := S) fn n l ks u (by have := hsh.2.1; omega) hk
  unfold checkFile fileE
  simp only [first, cond]
  simp only [fileC] at h93 ⊢
  by_cases c1 : isName fn = true
  · by_cases c2 : (checkFormat n l).2 = 0
    · have c2b : ((checkFormat n l).2 != 0) = false := by simpa using c2
      by_cases c3 : (decide ((ks.length : Int) > 4)) = true
      · rw [if_pos c3] at h93
        (refine run_fn T30 ⟨rfl, by decide⟩ ?_; rw [start30])
        simp (config := {decide := true, contextual := true, maxSteps := 3000000}) only [F30, h91, h27, h93, c1, c2b, List.replicate, ↓simPre, simPost, Bool.not_not, Bool.not_false, Bool.not_true, Bool.false_eq_true, reduceCtorEq, ↓reduceIte, decide_true, decide_false, splice, results, resT, resTs, AV.key, Bool.and_true, Bool.true_and, and_true, true_and, and_self, List.flatMap_nil, List.flatMap_cons, List.append_nil, List.nil_append, List.cons_append, List.map_cons, List.map_nil, List.all_cons, List.all_nil, List.length_cons, List.length_nil, Nat.reduceAdd, Nat.reduceLT, Nat.reduceLeDiff, Nat.reduceEqDiff, Nat.reduceSub, Nat.zero_add, Nat.add_zero, List.drop_succ_cons, List.drop_zero, List.take_succ_cons, List.take_zero]
        simp [c1, c2, c3]
      · rw [if_neg c3] at h93
        have c3' : (decide ((ks.length : Int) > 4)) = false := by simpa using c3
        (refine run_fn T30 ⟨rfl, by decide⟩ ?_; rw [start30])
        simp (config := {decide := true, contextual := true, maxSteps := 3000000}) only [F30, h91, h27, h93, c1, c2b, List.replicate, ↓simPre, simPost, Bool.not_not, Bool.not_false, Bool.not_true, Bool.false_eq_true, reduceCtorEq, ↓reduceIte, decide_true, decide_false, splice, results, resT, resTs, AV.key, Bool.and_true, Bool.true_and, and_true, true_and, and_self, List.flatMap_nil, List.flatMap_cons, List.append_nil, List.nil_append, List.cons_append, List.map_cons, List.map_nil, List.all_cons, List.all_nil, List.length_cons, List.length_nil, Nat.reduceAdd, Nat.reduceLT, Nat.reduceLeDiff, Nat.reduceEqDiff, Nat.reduceSub, Nat.zero_add, Nat.add_zero, List.drop_succ_cons, List.drop_zero, List.take_succ_cons, List.take_zero]
        simp [c1, c2, c3']
    · have c2b : ((checkFormat n l).2 != 0) = true := by simpa using c2
      (refine run_fn T30 ⟨rfl, by decide⟩ ?_; rw [start30])
      simp (config := {decide := true, contextual := true, maxSteps := 3000000}) only [F30, h91, h27, c1, c2b, List.replicate, ↓simPre, simPost, Bool.not_not, Bool.not_false, Bool.not_true, Bool.false_eq_true, reduceCtorEq, ↓reduceIte, decide_true, decide_false, splice, results, resT, resTs, AV.key, Bool.and_true, Bool.true_and, and_true, true_and, and_self, List.flatMap_nil, List.flatMap_cons, List.append_nil, List.nil_append, List.cons_append, List.map_cons, List.map_nil, List.all_cons, List.all_nil, List.length_cons, List.length_nil, Nat.reduceAdd, Nat.reduceLT, Nat.reduceLeDiff, Nat.reduceEqDiff, Nat.reduceSub, Nat.zero_add, Nat.add_zero, List.drop_succ_cons, List.drop_zero, List.take_succ_cons, List.take_zero]
  · have c1' : isName fn = false := by simpa using c1
    (refine run_fn T30 ⟨rfl, by decide⟩ ?_; rw [start30])
    simp (config := {decide := true, contextual := true, maxSteps := 3000000}) only [F30, h91, c1', List.replicate, ↓simPre, simPost, Bool.not_not, Bool.not_false, Bool.not_true, Bool.false_eq_true, reduceCtorEq, ↓reduceIte, decide_true, decide_false, splice, results, resT, resTs, AV.key, Bool.and_true, Bool.true_and, and_true, true_and, and_self, List.flatMap_nil, List.flatMap_cons, List.append_nil, List.nil_append, List.cons_append, List.map_cons, List.map_nil, List.all_cons, List.all_nil, List.length_cons, List.length_nil, Nat.reduceAdd, Nat.reduceLT, Nat.reduceLeDiff, Nat.reduceEqDiff, Nat.reduceSub, Nat.zero_add, Nat.add_zero, List.drop_succ_cons, List.drop_zero, List.take_succ_cons, List.take_zero]
end Go.Bv
