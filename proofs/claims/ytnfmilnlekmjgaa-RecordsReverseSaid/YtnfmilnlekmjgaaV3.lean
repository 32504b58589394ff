/- BY VALUE, chapter 26: the reference of changes; reverses. -/
import Derived.Test.YtnfmilnlekmjgaaV1
import Derived.Test.YtnfmilnlekmjgaaU8
set_option linter.unusedSimpArgs false
set_option linter.unusedVariables false
namespace Go.Bv
variable {S : RT}
attribute [local congr] ite_congr congr_bindOps congr_bindC congr_andThen congr_orNone congr_onBool congr_onEff congr_headC
set_option maxRecDepth 100000
set_option maxHeartbeats 40000000
theorem effT_und : effT .und = some false := _root_.id rfl
theorem effF_und : effF .und = some false := _root_.id rfl
theorem there_del {rs : List (Bool × ByteArray)} {i : Int} (h1 : 1 ≤ i) (h2 : i ≤ (rs.length : Int) + 1) : isThere rs i = !(decide (i = (rs.length : Int) + 1) || isDel rs i) := by
  unfold isThere
  by_cases h : i = (rs.length : Int) + 1
  · have d1 : decide (i ≤ (rs.length : Int)) = false := by simp; omega
    rw [d1]; simp [h]
  · have d1 : decide (i ≤ (rs.length : Int)) = true := by simp; omega
    have d2 : decide (1 ≤ i) = true := by simpa using h1
    simp [h, d1, d2]
section
variable {E : Int} {fn n : ByteArray} {l : List Fd} {rs : List (Bool × ByteArray)} {cf : ByteArray} {ck cr : Int} {cb ca : ByteArray}
theorem ch1 (h : E ≠ 0) : changeE E fn n l rs ⟨cf, ck, cr, cb, ca⟩ = E := by simp [changeE, headE, first, h]
theorem ch2 (h : (cf.toList == fn.toList) = false) : changeE 0 fn n l rs ⟨cf, ck, cr, cb, ca⟩ = 11 := by simp [changeE, headE, first, cond, h]
theorem ch3 (h : (cf.toList == fn.toList) = true) (h1 : ¬ (0 ≤ ck ∧ ck ≤ 2)) : changeE 0 fn n l rs ⟨cf, ck, cr, cb, ca⟩ = 4 := by
  have : (decide (ck < 0) || decide (ck ≥ 3)) = true := by simp; omega
  simp only [changeE, headE, first, cond, h, this]; rfl
theorem ch4 (h : (cf.toList == fn.toList) = true) (h1 : 0 ≤ ck ∧ ck ≤ 2) (h2 : ¬ (1 ≤ cr ∧ cr ≤ (rs.length : Int) + if ck = 0 then 1 else 0)) : changeE 0 fn n l rs ⟨cf, ck, cr, cb, ca⟩ = 3 := by
  have e1 : (decide (ck < 0) || decide (ck ≥ 3)) = false := by simp; omega
  have e2 : (decide (cr < 1) || decide (cr > (if ck = 0 then (rs.length : Int) + 1 else rs.length))) = true := by
    simp only [Bool.or_eq_true, decide_eq_true_eq]
    split at h2 <;> rename_i hk <;> simp only [hk, if_true, if_false] <;> omega
  simp only [changeE, headE, first, cond, h, e1, e2]; rfl
theorem ch_head (h : (cf.toList == fn.toList) = true) (h1 : 0 ≤ ck ∧ ck ≤ 2) (h2 : 1 ≤ cr ∧ cr ≤ (rs.length : Int) + if ck = 0 then 1 else 0) : headE 0 fn rs ⟨cf, ck, cr, cb, ca⟩ = if formE ⟨cf, ck, cr, cb, ca⟩ = true then 5 else 0 := by
  have e1 : (decide (ck < 0) || decide (ck ≥ 3)) = false := by simp; omega
  have e2 : (decide (cr < 1) || decide (cr > (if ck = 0 then (rs.length : Int) + 1 else rs.length))) = false := by
    simp only [Bool.or_eq_false_iff, decide_eq_false_iff_not]
    split at h2 <;> rename_i hk <;> simp only [hk, if_true, if_false] <;> omega
  simp only [headE, first, cond, h, e1, e2]
  cases formE ⟨cf, ck, cr, cb, ca⟩ <;> rfl
theorem ch5 (h : (cf.toList == fn.toList) = true) (h1 : 0 ≤ ck ∧ ck ≤ 2) (h2 : 1 ≤ cr ∧ cr ≤ (rs.length : Int) + if ck = 0 then 1 else 0) (h3 : formE ⟨cf, ck, cr, cb, ca⟩ = true) : changeE 0 fn n l rs ⟨cf, ck, cr, cb, ca⟩ = 5 := by
  unfold changeE; rw [ch_head h h1 h2, h3]; rfl
theorem ch6 (h : (cf.toList == fn.toList) = true) (h1 : 0 ≤ ck ∧ ck ≤ 2) (h2 : 1 ≤ cr ∧ cr ≤ (rs.length : Int) + if ck = 0 then 1 else 0) (h3 : formE ⟨cf, ck, cr, cb, ca⟩ = false) :
    changeE 0 fn n l rs ⟨cf, ck, cr, cb, ca⟩ = if (placeErr rs ⟨cf, ck, cr, cb, ca⟩ != 0 || ck == 2) = true then placeErr rs ⟨cf, ck, cr, cb, ca⟩ else (bytesErr n l ca).2 := by
  unfold changeE; rw [ch_head h h1 h2, h3]; rfl
theorem pl0 (h2 : 1 ≤ cr ∧ cr ≤ (rs.length : Int) + 1) : placeErr rs ⟨cf, 0, cr, cb, ca⟩ = if isThere rs cr = true then 12 else if decide (cr > 60) = true then 30 else 0 := by
  rw [there_del h2.1 h2.2]
  simp only [placeErr, if_true, first, cond]
  cases (decide (cr = (rs.length : Int) + 1) || isDel rs cr) <;> cases decide (cr > 60) <;> rfl
theorem pl0' (hk : ck = 0) (h2 : 1 ≤ cr ∧ cr ≤ (rs.length : Int) + 1) : placeErr rs ⟨cf, ck, cr, cb, ca⟩ = if isThere rs cr = true then 12 else if decide (cr > 60) = true then 30 else 0 := by
  subst hk; exact pl0 h2
theorem plk (hk : ck ≠ 0) (h2 : 1 ≤ cr ∧ cr ≤ (rs.length : Int)) : placeErr rs ⟨cf, ck, cr, cb, ca⟩ = if (!isThere rs cr) = true then 11 else if (!((rs.getD (cr - 1).toNat (false, bs [])).2.toList == cb.toList)) = true then 15 else 0 := by
  rw [there_del h2.1 (by omega)]
  simp only [placeErr, if_neg hk, cond, Bool.not_not]
end
def revK (k : Int) : Int := if (k == 0) = true then 2 else if (k == 2) = true then 0 else k
def revC (c : Ch) : Ch := ⟨c.file, revK c.kind, c.rrn, c.after, c.before⟩
theorem run63 (c : Ch) : run T S 63 [.agg (encC c)] = some (.agg (encC (revC c))) := by
  obtain ⟨cf, ck, cr, cb, ca⟩ := c
  simp only [encC, revC, revK]
  cases h0 : (ck == 0) with
  | true =>
    (refine run_fn T63 ⟨rfl, by decide⟩ ?_; rw [start63])
    simp (config := {decide := true, contextual := true, maxSteps := 3000000}) only [F63, h0, List.replicate, ↓simPre, simPost, Bool.not_not, Bool.not_false, Bool.not_true, Bool.false_eq_true, reduceCtorEq, ↓reduceIte, decide_true, decide_false, splice, results, resT, resTs, AV.key, Bool.and_true, Bool.true_and, and_true, true_and, and_self, List.flatMap_nil, List.flatMap_cons, List.append_nil, List.nil_append, List.cons_append, List.map_cons, List.map_nil, List.all_cons, List.all_nil, List.length_cons, List.length_nil, Nat.reduceAdd, Nat.reduceLT, Nat.reduceLeDiff, Nat.reduceEqDiff, Nat.reduceSub, Nat.zero_add, Nat.add_zero, List.drop_succ_cons, List.drop_zero, List.take_succ_cons, List.take_zero]
  | false =>
    cases h2 : (ck == 2) with
    | true =>
      (refine run_fn T63 ⟨rfl, by decide⟩ ?_; rw [start63])
      simp (config := {decide := true, contextual := true, maxSteps := 3000000}) only [F63, h0, h2, List.replicate, ↓simPre, simPost, Bool.not_not, Bool.not_false, Bool.not_true, Bool.false_eq_true, reduceCtorEq, ↓reduceIte, decide_true, decide_false, splice, results, resT, resTs, AV.key, Bool.and_true, Bool.true_and, and_true, true_and, and_self, List.flatMap_nil, List.flatMap_cons, List.append_nil, List.nil_append, List.cons_append, List.map_cons, List.map_nil, List.all_cons, List.all_nil, List.length_cons, List.length_nil, Nat.reduceAdd, Nat.reduceLT, Nat.reduceLeDiff, Nat.reduceEqDiff, Nat.reduceSub, Nat.zero_add, Nat.add_zero, List.drop_succ_cons, List.drop_zero, List.take_succ_cons, List.take_zero]
    | false =>
      (refine run_fn T63 ⟨rfl, by decide⟩ ?_; rw [start63])
      simp (config := {decide := true, contextual := true, maxSteps := 3000000}) only [F63, h0, h2, List.replicate, ↓simPre, simPost, Bool.not_not, Bool.not_false, Bool.not_true, Bool.false_eq_true, reduceCtorEq, ↓reduceIte, decide_true, decide_false, splice, results, resT, resTs, AV.key, Bool.and_true, Bool.true_and, and_true, true_and, and_self, List.flatMap_nil, List.flatMap_cons, List.append_nil, List.nil_append, List.cons_append, List.map_cons, List.map_nil, List.all_cons, List.all_nil, List.length_cons, List.length_nil, Nat.reduceAdd, Nat.reduceLT, Nat.reduceLeDiff, Nat.reduceEqDiff, Nat.reduceSub, Nat.zero_add, Nat.add_zero, List.drop_succ_cons, List.drop_zero, List.take_succ_cons, List.take_zero]
theorem run61 (c : Ch) : run T S 61 [.agg (encC c)] = some (if (decide (0 ≤ c.kind) && decide (c.kind ≤ 2)) = true then .tup [.agg (encC (revC c)), .int .i64 0] else .tup [.agg [.str (bs []), .int .i64 0, .int .i64 0, .str (bs []), .str (bs [])], .int .i64 4]) := by
  obtain ⟨cf, ck, cr, cb, ca⟩ := c
  simp only [encC, revC, revK]
  by_cases k0 : ck = 0
  · subst k0
    (refine run_fn T61 ⟨rfl, by decide⟩ ?_; rw [start61])
    simp (config := {decide := true, contextual := true, maxSteps := 3000000}) only [F61, List.replicate, ↓simPre, simPost, Bool.not_not, Bool.not_false, Bool.not_true, Bool.false_eq_true, reduceCtorEq, ↓reduceIte, decide_true, decide_false, splice, results, resT, resTs, AV.key, Bool.and_true, Bool.true_and, and_true, true_and, and_self, List.flatMap_nil, List.flatMap_cons, List.append_nil, List.nil_append, List.cons_append, List.map_cons, List.map_nil, List.all_cons, List.all_nil, List.length_cons, List.length_nil, Nat.reduceAdd, Nat.reduceLT, Nat.reduceLeDiff, Nat.reduceEqDiff, Nat.reduceSub, Nat.zero_add, Nat.add_zero, List.drop_succ_cons, List.drop_zero, List.take_succ_cons, List.take_zero]
  by_cases k2 : ck = 2
  · subst k2
    (refine run_fn T61 ⟨rfl, by decide⟩ ?_; rw [start61])
    simp (config := {decide := true, contextual := true, maxSteps := 3000000}) only [F61, List.replicate, ↓simPre, simPost, Bool.not_not, Bool.not_false, Bool.not_true, Bool.false_eq_true, reduceCtorEq, ↓reduceIte, decide_true, decide_false, splice, results, resT, resTs, AV.key, Bool.and_true, Bool.true_and, and_true, true_and, and_self, List.flatMap_nil, List.flatMap_cons, List.append_nil, List.nil_append, List.cons_append, List.map_cons, List.map_nil, List.all_cons, List.all_nil, List.length_cons, List.length_nil, Nat.reduceAdd, Nat.reduceLT, Nat.reduceLeDiff, Nat.reduceEqDiff, Nat.reduceSub, Nat.zero_add, Nat.add_zero, List.drop_succ_cons, List.drop_zero, List.take_succ_cons, List.take_zero]
  by_cases k1 : ck = 1
  · subst k1
    (refine run_fn T61 ⟨rfl, by decide⟩ ?_; rw [start61])
    simp (config := {decide := true, contextual := true, maxSteps := 3000000}) only [F61, List.replicate, ↓simPre, simPost, Bool.not_not, Bool.not_false, Bool.not_true, Bool.false_eq_true, reduceCtorEq, ↓reduceIte, decide_true, decide_false, splice, results, resT, resTs, AV.key, Bool.and_true, Bool.true_and, and_true, true_and, and_self, List.flatMap_nil, List.flatMap_cons, List.append_nil, List.nil_append, List.cons_append, List.map_cons, List.map_nil, List.all_cons, List.all_nil, List.length_cons, List.length_nil, Nat.reduceAdd, Nat.reduceLT, Nat.reduceLeDiff, Nat.reduceEqDiff, Nat.reduceSub, Nat.zero_add, Nat.add_zero, List.drop_succ_cons, List.drop_zero, List.take_succ_cons, List.take_zero]
  have e0 : (ck == 0) = false := by simpa using k0
  have e1 : (ck == 1) = false := by simpa using k1
  have e2 : (ck == 2) = false := by simpa using k2
  have e3 : (decide (0 ≤ ck) && decide (ck ≤ 2)) = false := by rw [Bool.and_eq_false_iff]; simp; omega
  simp only [e3, Bool.false_eq_true, if_false]
  (refine run_fn T61 ⟨rfl, by decide⟩ ?_; rw [start61])
  simp (config := {decide := true, contextual := true, maxSteps := 3000000}) only [F61, e0, e1, e2, List.replicate, ↓simPre, simPost, Bool.not_not, Bool.not_false, Bool.not_true, Bool.false_eq_true, reduceCtorEq, ↓reduceIte, decide_true, decide_false, splice, results, resT, resTs, AV.key, Bool.and_true, Bool.true_and, and_true, true_and, and_self, List.flatMap_nil, List.flatMap_cons, List.append_nil, List.nil_append, List.cons_append, List.map_cons, List.map_nil, List.all_cons, List.all_nil, List.length_cons, List.length_nil, Nat.reduceAdd, Nat.reduceLT, Nat.reduceLeDiff, Nat.reduceEqDiff, Nat.reduceSub, Nat.zero_add, Nat.add_zero, List.drop_succ_cons, List.drop_zero, List.take_succ_cons, List.take_zero]
end Go.Bv

/- BY VALUE, chapter 26: a change and its reverse, in plain words; RecordsReverse's function gives true. -/
set_option linter.unusedSimpArgs false
set_option linter.unusedVariables false
namespace Go.Bv
attribute [local congr] ite_congr congr_bindOps congr_bindC congr_andThen congr_orNone congr_onBool congr_onEff congr_headC
set_option maxRecDepth 100000
set_option maxHeartbeats 40000000
theorem bytes_eq {a b : ByteArray} (h : (a.toList == b.toList) = true) : a = b := by
  rw [ByteArray.toList_eq, ByteArray.toList_eq, beq_iff_eq] at h
  exact ByteArray.ext (Array.ext' h)
theorem put_at' {rs : List (Bool × ByteArray)} {i : Int} {r d : Bool × ByteArray} (h1 : 1 ≤ i) (h2 : i ≤ (rs.length : Int) + 1) : (put rs i r).getD (i - 1).toNat d = r := by
  unfold put
  split
  · have : (i - 1).toNat = rs.length := by omega
    rw [this]; simp [List.getD_eq_getElem?_getD]
  · have : (i - 1).toNat < rs.length := by omega
    exact getD_set_eq _ _ _ _ this
theorem put_length {rs : List (Bool × ByteArray)} {i : Int} {r : Bool × ByteArray} : (put rs i r).length = if i > (rs.length : Int) then rs.length + 1 else rs.length := by
  unfold put; split <;> simp
theorem put_again {rs : List (Bool × ByteArray)} {i : Int} {r s : Bool × ByteArray} (h1 : 1 ≤ i) (h2 : i ≤ (rs.length : Int) + 1) : put (put rs i r) i s = put rs i s := by
  have hl := @put_length rs i r
  unfold put at hl ⊢
  by_cases hb : i > (rs.length : Int)
  · simp only [if_pos hb] at hl ⊢
    have : ¬ i > ((rs ++ [r]).length : Int) := by simp; omega
    rw [if_neg this]
    have e : (i - 1).toNat = rs.length := by omega
    rw [e]; simp
  · simp only [if_neg hb] at hl ⊢
    have : ¬ i > ((rs.set (i - 1).toNat r).length : Int) := by simp; omega
    rw [if_neg this, List.set_set]
theorem put_same {rs : List (Bool × ByteArray)} {i : Int} (h1 : 1 ≤ i) (h2 : i ≤ (rs.length : Int)) : put rs i (rs.getD (i - 1).toNat (false, bs [])) = rs := by
  unfold put
  rw [if_neg (by omega)]
  have : (i - 1).toNat < rs.length := by omega
  rw [List.getD_eq_getElem?_getD, List.getElem?_eq_getElem this]
  simp
/-- What a change that fits is. -/
structure FitsC (fn n : ByteArray) (l : List Fd) (ks : List (ByteArray × Bool)) (rs : List (Bool × ByteArray)) (c : Ch) : Prop where
  tab : (checkTable fn n l ks rs).2 = 0
  file : (c.file.toList == fn.toList) = true
  kind : 0 ≤ c.kind ∧ c.kind ≤ 2
  rrn : 1 ≤ c.rrn ∧ c.rrn ≤ (rs.length : Int) + if c.kind = 0 then 1 else 0
  form : formE c = false
  add : c.kind = 0 → (decide (c.rrn = (rs.length : Int) + 1) || isDel rs c.rrn) = true ∧ c.rrn ≤ 60
  old : c.kind ≠ 0 → isDel rs c.rrn = false ∧ (rs.getD (c.rrn - 1).toNat (false, bs [])).2 = c.before
  bytes : c.kind ≠ 2 → (bytesErr n l c.after).2 = 0
theorem fits_of {fn n : ByteArray} {l : List Fd} {ks : List (ByteArray × Bool)} {rs : List (Bool × ByteArray)} {c : Ch} (h : changeE (checkTable fn n l ks rs).2 fn n l rs c = 0) : FitsC fn n l ks rs c := by
  obtain ⟨h1, h2, h3⟩ := change_zero h
  obtain ⟨q1, q2, q3, q4⟩ := head_place h1
  have f1 := cond_zero' (by decide) (first_zero' _ h1 (cond (!(c.file.toList == fn.toList)) 11) (by simp))
  have f2 := cond_zero' (by decide) (first_zero' _ h1 (cond (decide (c.kind < 0) || decide (c.kind ≥ 3)) 4) (by simp))
  have f3 := cond_zero' (by decide) (first_zero' _ h1 (cond (formE c) 5) (by simp))
  simp only [Bool.or_eq_false_iff, decide_eq_false_iff_not] at f2
  refine ⟨q1, by simpa using f1, by omega, ⟨q2, ?_⟩, f3, fun hk => ?_, fun hk => ?_, h3⟩
  · by_cases hk : c.kind = 0
    · rw [if_pos hk]; omega
    · rw [if_neg hk]; have := q4 hk; omega
  · simp only [placeErr, if_pos hk] at h2
    have g1 := cond_zero' (by decide) (first_zero' _ h2 (cond (!(decide (c.rrn = (rs.length : Int) + 1) || isDel rs c.rrn)) 12) (by simp))
    have g2 := cond_zero' (by decide) (first_zero' _ h2 (cond (decide (c.rrn > 60)) 30) (by simp))
    refine ⟨?_, ?_⟩
    · cases hq : (decide (c.rrn = (rs.length : Int) + 1) || isDel rs c.rrn) with
      | true => rfl
      | false => rw [hq] at g1; cases g1
    simp only [decide_eq_false_iff_not] at g2
    omega
  · simp only [placeErr, if_neg hk] at h2
    split at h2
    · omega
    · rename_i hd
      have hd' : (decide (c.rrn = (rs.length : Int) + 1) || isDel rs c.rrn) = false := by simpa using hd
      rw [Bool.or_eq_false_iff] at hd'
      have g := cond_zero' (by decide) h2
      exact ⟨hd'.2, bytes_eq (by simpa using g)⟩
theorem tabE_le {fn n : ByteArray} {l : List Fd} {ks : List (ByteArray × Bool)} {rs rs' : List (Bool × ByteArray)} (h : tabE fn n l ks rs = 0) (hl : (rs'.length : Int) ≤ 60) : tabE fn n l ks rs' = 0 := by
  unfold tabE at h ⊢
  have h1 := first_zero' _ h (checkFile fn n l ks).2 (by simp)
  have d1 : decide ((rs'.length : Int) > 60) = false := by simp; omega
  rw [h1, d1]; rfl
theorem rec_at {fn n : ByteArray} {l : List Fd} {ks : List (ByteArray × Bool)} {rs : List (Bool × ByteArray)} {i : Int} (h : (checkTable fn n l ks rs).2 = 0) (h1 : 1 ≤ i) (h2 : i ≤ (rs.length : Int)) : recErr n l (rs.getD (i - 1).toNat (false, bs [])) = 0 :=
  (check_zero.1 h).2 _ (rec_mem rs _ (by omega))
theorem rev_zero {fn n : ByteArray} {l : List Fd} {ks : List (ByteArray × Bool)} {rs : List (Bool × ByteArray)} {c : Ch} (h : changeE (checkTable fn n l ks rs).2 fn n l rs c = 0) :
    changeE (checkTable fn n l ks (put rs c.rrn (recOf c))).2 fn n l (put rs c.rrn (recOf c)) (revC c) = 0 ∧
    put (put rs c.rrn (recOf c)) (revC c).rrn (recOf (revC c)) = if c.kind = 0 ∧ c.rrn > (rs.length : Int) then rs ++ [(true, bs [])] else rs := by
  have F := fits_of h
  have hre := rec_zero h
  obtain ⟨t1, t2⟩ := check_zero.1 F.tab
  have hr1 := F.rrn.1
  have hr2 : c.rrn ≤ (rs.length : Int) + 1 := by have := F.rrn.2; split at this <;> omega
  have hlen60 : (rs.length : Int) ≤ 60 := by
    unfold tabE at t1
    have := cond_zero' (by decide) (first_zero' _ t1 (cond (decide ((rs.length : Int) > 60)) 2) (by simp))
    simpa using this
  have hlen' : ((put rs c.rrn (recOf c)).length : Int) ≤ 60 := by
    rw [put_length]
    split
    · have hk : c.kind = 0 := by
        by_cases hk : c.kind = 0
        · exact hk
        · have := F.rrn.2; rw [if_neg hk] at this; omega
      have := (F.add hk).2
      omega
    · omega
  have htab : (checkTable fn n l ks (put rs c.rrn (recOf c))).2 = 0 := check_zero.2 ⟨tabE_le t1 hlen', fun r hr => by
    rcases put_mem hr with hr | rfl
    · exact t2 r hr
    · exact hre⟩
  have hform := F.form
  unfold formE at hform
  rw [Bool.or_eq_false_iff] at hform
  have hgetc := @put_at' rs c.rrn (recOf c) (false, bs []) hr1 hr2
  have hpl := @put_length rs c.rrn (recOf c)
  have hk3 : c.kind = 0 ∨ c.kind = 1 ∨ c.kind = 2 := by have := F.kind; omega
  have hrk : (revC c).kind = revK c.kind := rfl
  have hle : c.rrn ≤ ((put rs c.rrn (recOf c)).length : Int) := by rw [hpl]; split <;> omega
  rw [htab]
  have hnd : isDel (put rs c.rrn (recOf c)) c.rrn = (c.kind == 2) := by unfold isDel; rw [hgetc]; rfl
  constructor
  · rcases hk3 with hk | hk | hk
    · -- an addition, taken back by a deletion
      have hb : c.before = bs [] := bytes_eq (by have := hform.1; rw [hk] at this; simpa using this)
      have e : revC c = ⟨c.file, 2, c.rrn, c.after, c.before⟩ := by unfold revC; rw [hk]; rfl
      rw [e, ch6 F.file (by omega) ⟨hr1, by simpa using hle⟩ (by simp [formE, hb]), plk (by decide) ⟨hr1, hle⟩, there_del hr1 (by omega), hnd, hgetc]
      have d1 : decide (c.rrn = ((put rs c.rrn (recOf c)).length : Int) + 1) = false := by simp; omega
      rw [d1, hk]
      simp [recOf]
    · have e : revC c = ⟨c.file, 1, c.rrn, c.after, c.before⟩ := by unfold revC; rw [hk]; rfl
      have hb := rec_at F.tab hr1 (by have := F.rrn.2; rw [if_neg (by omega)] at this; omega)
      obtain ⟨o1, o2⟩ := F.old (by omega)
      unfold recErr at hb
      unfold isDel at o1
      rw [o1, o2] at hb
      simp only [Bool.not_false, if_true] at hb
      rw [e, ch6 F.file (by omega) ⟨hr1, by simpa using hle⟩ (by simp [formE]), plk (by decide) ⟨hr1, hle⟩, there_del hr1 (by omega), hnd, hgetc]
      have d1 : decide (c.rrn = ((put rs c.rrn (recOf c)).length : Int) + 1) = false := by simp; omega
      rw [d1, hk]
      simp [recOf, hb]
    · have e : revC c = ⟨c.file, 0, c.rrn, c.after, c.before⟩ := by unfold revC; rw [hk]; rfl
      have ha : c.after = bs [] := bytes_eq (by have := hform.2; rw [hk] at this; simpa using this)
      have hle0 : c.rrn ≤ (rs.length : Int) := by have := F.rrn.2; rw [if_neg (by omega)] at this; omega
      have hb := rec_at F.tab hr1 hle0
      obtain ⟨o1, o2⟩ := F.old (by omega)
      unfold recErr at hb
      unfold isDel at o1
      rw [o1, o2] at hb
      simp only [Bool.not_false, if_true] at hb
      rw [e, ch6 F.file (by omega) ⟨hr1, by simp only [if_true]; omega⟩ (by simp [formE, ha]), pl0 ⟨hr1, by omega⟩, there_del hr1 (by omega), hnd, hk]
      have d2 : decide (c.rrn > 60) = false := by simp; omega
      rw [d2]
      simp [hb]
  · show put (put rs c.rrn (recOf c)) c.rrn (recOf (revC c)) = _
    rw [put_again hr1 hr2]
    rcases hk3 with hk | hk | hk
    · have hb : c.before = bs [] := bytes_eq (by have := hform.1; rw [hk] at this; simpa using this)
      have er : recOf (revC c) = (true, bs []) := by unfold recOf revC; rw [hk, hb]; rfl
      rw [er]
      by_cases hb2 : c.rrn > (rs.length : Int)
      · rw [if_pos ⟨hk, hb2⟩]; unfold put; rw [if_pos hb2]
      · rw [if_neg (fun hh => hb2 hh.2)]
        obtain ⟨a1, _⟩ := F.add hk
        have d1 : decide (c.rrn = (rs.length : Int) + 1) = false := by simp; omega
        rw [d1, Bool.false_or] at a1
        have hre2 := rec_at F.tab hr1 (by omega)
        unfold recErr at hre2
        unfold isDel at a1
        rw [a1] at hre2
        simp only [Bool.not_true, Bool.false_eq_true, if_false] at hre2
        have g0 := cond_zero' (by decide) hre2
        have h5 : (rs.getD (c.rrn - 1).toNat (false, bs [])).2 = bs [] := bytes_eq (by
          cases hq : ((rs.getD (c.rrn - 1).toNat (false, bs [])).2.toList == (bs []).toList) with
          | true => rfl
          | false => rw [hq] at g0; cases g0)
        have h6 : rs.getD (c.rrn - 1).toNat (false, bs []) = (true, bs []) := Prod.ext a1 h5
        rw [← h6]
        exact put_same hr1 (by omega)
    · have er : recOf (revC c) = (false, c.before) := by unfold recOf revC; rw [hk]; rfl
      have hle0 : c.rrn ≤ (rs.length : Int) := by have := F.rrn.2; rw [if_neg (by omega)] at this; omega
      obtain ⟨o1, o2⟩ := F.old (by omega)
      have h6 : rs.getD (c.rrn - 1).toNat (false, bs []) = (false, c.before) := Prod.ext o1 o2
      rw [if_neg (fun hh => by omega), er, ← h6]
      exact put_same hr1 hle0
    · have er : recOf (revC c) = (false, c.before) := by unfold recOf revC; rw [hk]; rfl
      have hle0 : c.rrn ≤ (rs.length : Int) := by have := F.rrn.2; rw [if_neg (by omega)] at this; omega
      obtain ⟨o1, o2⟩ := F.old (by omega)
      have h6 : rs.getD (c.rrn - 1).toNat (false, bs []) = (false, c.before) := Prod.ext o1 o2
      rw [if_neg (fun hh => by omega), er, ← h6]
      exact put_same hr1 hle0
theorem changed_zero' {fn n : ByteArray} {l : List Fd} {ks : List (ByteArray × Bool)} {u : Bool} {rs : List (Bool × ByteArray)} {c : Ch} (h : changeE (checkTable fn n l ks rs).2 fn n l rs c = 0) :
    changedA fn n l ks u rs c = .tup [.agg (tabC fn n l ks u (put rs c.rrn (recOf c))), .int .i64 0] := by
  unfold changedA
  rw [if_neg (by simpa using h)]
theorem run12 (fn n : ByteArray) (l : List Fd) (ks : List (ByteArray × Bool)) (u : Bool) (rs : List (Bool × ByteArray)) (c : Ch) : run T S40 12 [.agg (tabC fn n l ks u rs), .agg (encC c)] = some (.bool true) := by
  have h15 := awake40
  have h36 := run36 (S := S40) fn n l ks u rs
  have h57 := run57 (S := S40) c
  cases g1 : fewTable fn n l ks rs with
  | false =>
    rw [g1] at h36
    generalize fewChange c = q2 at *
    obtain ⟨cf, ck, cr, cb, ca⟩ := c
    simp only [tabC, encC] at h36 h57 ⊢
    (refine run_fn T12 ⟨rfl, by decide⟩ ?_; rw [start12])
    simp (config := {decide := true, contextual := true, maxSteps := 3000000}) only [F12, h15, h36, h57, List.replicate, ↓simPre, simPost, Bool.not_not, Bool.not_false, Bool.not_true, Bool.false_eq_true, reduceCtorEq, ↓reduceIte, decide_true, decide_false, splice, results, resT, resTs, AV.key, Bool.and_true, Bool.true_and, and_true, true_and, and_self, List.flatMap_nil, List.flatMap_cons, List.append_nil, List.nil_append, List.cons_append, List.map_cons, List.map_nil, List.all_cons, List.all_nil, List.length_cons, List.length_nil, Nat.reduceAdd, Nat.reduceLT, Nat.reduceLeDiff, Nat.reduceEqDiff, Nat.reduceSub, Nat.zero_add, Nat.add_zero, List.drop_succ_cons, List.drop_zero, List.take_succ_cons, List.take_zero]
  | true =>
  rw [g1] at h36
  cases g2 : fewChange c with
  | false =>
    rw [g2] at h57
    obtain ⟨cf, ck, cr, cb, ca⟩ := c
    simp only [tabC, encC] at h36 h57 ⊢
    (refine run_fn T12 ⟨rfl, by decide⟩ ?_; rw [start12])
    simp (config := {decide := true, contextual := true, maxSteps := 3000000}) only [F12, h15, h36, h57, List.replicate, ↓simPre, simPost, Bool.not_not, Bool.not_false, Bool.not_true, Bool.false_eq_true, reduceCtorEq, ↓reduceIte, decide_true, decide_false, splice, results, resT, resTs, AV.key, Bool.and_true, Bool.true_and, and_true, true_and, and_self, List.flatMap_nil, List.flatMap_cons, List.append_nil, List.nil_append, List.cons_append, List.map_cons, List.map_nil, List.all_cons, List.all_nil, List.length_cons, List.length_nil, Nat.reduceAdd, Nat.reduceLT, Nat.reduceLeDiff, Nat.reduceEqDiff, Nat.reduceSub, Nat.zero_add, Nat.add_zero, List.drop_succ_cons, List.drop_zero, List.take_succ_cons, List.take_zero]
  | true =>
  rw [g2] at h57
  have hsm := small_few g1
  have fc := few_change g2
  obtain ⟨t1, t2, t3, t4, t5⟩ := few_table g1
  have h38 := run38 (S := S40) fn n l ks u rs (by have := t2.2.1; omega) (by omega) (by omega)
  have h58 := run58 told28 told138 fn n l ks u rs c hsm (by omega)
  have h41n := run41n (S := S40)
  by_cases hE : changeE (checkTable fn n l ks rs).2 fn n l rs c = 0
  case neg =>
    have hE' : (changeE (checkTable fn n l ks rs).2 fn n l rs c != 0) = true := by simpa using hE
    unfold changedA at h58
    generalize changeE (checkTable fn n l ks rs).2 fn n l rs c = E at *
    obtain ⟨cf, ck, cr, cb, ca⟩ := c
    simp only [hE', if_true] at h58
    simp only [tabC, tabN, encC] at h36 h57 h38 h58 h41n ⊢
    (refine run_fn T12 ⟨rfl, by decide⟩ ?_; rw [start12])
    simp (config := {decide := true, contextual := true, maxSteps := 3000000}) only [F12, h15, h36, h57, h38, h58, hE', h41n, List.length_map, List.replicate, ↓simPre, simPost, Bool.not_not, Bool.not_false, Bool.not_true, Bool.false_eq_true, reduceCtorEq, ↓reduceIte, decide_true, decide_false, splice, results, resT, resTs, AV.key, Bool.and_true, Bool.true_and, and_true, true_and, and_self, List.flatMap_nil, List.flatMap_cons, List.append_nil, List.nil_append, List.cons_append, List.map_cons, List.map_nil, List.all_cons, List.all_nil, List.length_cons, List.length_nil, Nat.reduceAdd, Nat.reduceLT, Nat.reduceLeDiff, Nat.reduceEqDiff, Nat.reduceSub, Nat.zero_add, Nat.add_zero, List.drop_succ_cons, List.drop_zero, List.take_succ_cons, List.take_zero]
  rw [changed_zero' hE] at h58
  obtain ⟨r1, r2⟩ := rev_zero hE
  have F := fits_of hE
  have h61 := run61 (S := S40) c
  rw [if_pos (by have := F.kind; simp; omega)] at h61
  have hsz : (put rs c.rrn (recOf c)).length ≤ 65 := by rw [put_length]; split <;> omega
  have h38x := run38 (S := S40) fn n l ks u (put rs c.rrn (recOf c)) (by have := t2.2.1; omega) (by omega) (by omega)
  have hsm2 : Small fn n l ks (put rs c.rrn (recOf c)) := small_put g1 fc.2
  have h58r := run58 told28 told138 fn n l ks u (put rs c.rrn (recOf c)) (revC c) hsm2 (by show c.before.size ≤ 1000000; omega)
  rw [changed_zero' r1, r2] at h58r
  have hcl : c.kind = 0 → c.rrn > (rs.length : Int) → decide (c.rrn > (rs.length : Int)) = true := fun _ hh => by simpa using hh
  by_cases hadd : c.kind = 0 ∧ c.rrn > (rs.length : Int)
  · rw [if_pos hadd] at h58r
    have k1 : (c.kind == 0) = true := by simpa using hadd.1
    have k2 : decide (c.rrn > (rs.length : Int)) = true := by simpa using hadd.2
    have h43 := run43s (S := S40) fn n l ks u (rs ++ [(true, bs [])]) (by have := t2.2.1; omega) (by omega) (by simp; omega)
    have g1 : ((rs.length + 1) * 24 ≤ 140737488355328) = True := by simp; omega
    have e1 : rs.map encR ++ [[.bool true, .str (bs [])]] = (rs ++ [(true, bs [])]).map encR := by simp [encR]
    generalize put rs c.rrn (recOf c) = z at *
    generalize hRC : revC c = rc at *
    obtain ⟨cf, ck, cr, cb, ca⟩ := c
    obtain ⟨rf, rk, rr, rb, ra⟩ := rc
    simp only [tabC, tabN, encC] at h36 h57 h38 h58 h61 h38x h58r h43 k1 k2 ⊢
    (refine run_fn T12 ⟨rfl, by decide⟩ ?_; rw [start12])
    simp (config := {decide := true, contextual := true, maxSteps := 3000000}) only [F12, h15, h36, h57, h38, h58, h61, h38x, h58r, h43, k1, k2, g1, e1, List.length_map, List.replicate, ↓simPre, simPost, Bool.not_not, Bool.not_false, Bool.not_true, Bool.false_eq_true, reduceCtorEq, ↓reduceIte, decide_true, decide_false, splice, results, resT, resTs, AV.key, Bool.and_true, Bool.true_and, and_true, true_and, and_self, List.flatMap_nil, List.flatMap_cons, List.append_nil, List.nil_append, List.cons_append, List.map_cons, List.map_nil, List.all_cons, List.all_nil, List.length_cons, List.length_nil, Nat.reduceAdd, Nat.reduceLT, Nat.reduceLeDiff, Nat.reduceEqDiff, Nat.reduceSub, Nat.zero_add, Nat.add_zero, List.drop_succ_cons, List.drop_zero, List.take_succ_cons, List.take_zero]
  · rw [if_neg hadd] at h58r
    have h43 := run43s (S := S40) fn n l ks u rs (by have := t2.2.1; omega) (by omega) (by omega)
    by_cases k0 : c.kind = 0
    · have k1 : (c.kind == 0) = true := by simpa using k0
      have k2 : decide (c.rrn > (rs.length : Int)) = false := by
        have : ¬ c.rrn > (rs.length : Int) := fun hh => hadd ⟨k0, hh⟩
        simpa using this
      generalize put rs c.rrn (recOf c) = z at *
      generalize hRC : revC c = rc at *
      obtain ⟨cf, ck, cr, cb, ca⟩ := c
      obtain ⟨rf, rk, rr, rb, ra⟩ := rc
      simp only [tabC, tabN, encC] at h36 h57 h38 h58 h61 h38x h58r h43 k1 k2 ⊢
      (refine run_fn T12 ⟨rfl, by decide⟩ ?_; rw [start12])
      simp (config := {decide := true, contextual := true, maxSteps := 3000000}) only [F12, h15, h36, h57, h38, h58, h61, h38x, h58r, h43, k1, k2, List.length_map, List.replicate, ↓simPre, simPost, Bool.not_not, Bool.not_false, Bool.not_true, Bool.false_eq_true, reduceCtorEq, ↓reduceIte, decide_true, decide_false, splice, results, resT, resTs, AV.key, Bool.and_true, Bool.true_and, and_true, true_and, and_self, List.flatMap_nil, List.flatMap_cons, List.append_nil, List.nil_append, List.cons_append, List.map_cons, List.map_nil, List.all_cons, List.all_nil, List.length_cons, List.length_nil, Nat.reduceAdd, Nat.reduceLT, Nat.reduceLeDiff, Nat.reduceEqDiff, Nat.reduceSub, Nat.zero_add, Nat.add_zero, List.drop_succ_cons, List.drop_zero, List.take_succ_cons, List.take_zero]
    · have k1 : (c.kind == 0) = false := by simpa using k0
      generalize put rs c.rrn (recOf c) = z at *
      generalize hRC : revC c = rc at *
      obtain ⟨cf, ck, cr, cb, ca⟩ := c
      obtain ⟨rf, rk, rr, rb, ra⟩ := rc
      simp only [tabC, tabN, encC] at h36 h57 h38 h58 h61 h38x h58r h43 k1 ⊢
      (refine run_fn T12 ⟨rfl, by decide⟩ ?_; rw [start12])
      simp (config := {decide := true, contextual := true, maxSteps := 3000000}) only [F12, h15, h36, h57, h38, h58, h61, h38x, h58r, h43, k1, List.length_map, List.replicate, ↓simPre, simPost, Bool.not_not, Bool.not_false, Bool.not_true, Bool.false_eq_true, reduceCtorEq, ↓reduceIte, decide_true, decide_false, splice, results, resT, resTs, AV.key, Bool.and_true, Bool.true_and, and_true, true_and, and_self, List.flatMap_nil, List.flatMap_cons, List.append_nil, List.nil_append, List.cons_append, List.map_cons, List.map_nil, List.all_cons, List.all_nil, List.length_cons, List.length_nil, Nat.reduceAdd, Nat.reduceLT, Nat.reduceLeDiff, Nat.reduceEqDiff, Nat.reduceSub, Nat.zero_add, Nat.add_zero, List.drop_succ_cons, List.drop_zero, List.take_succ_cons, List.take_zero]
end Go.Bv

/- BY VALUE, chapter 26: RecordsReverse, for all arguments. -/
set_option linter.unusedSimpArgs false
set_option linter.unusedVariables false
namespace Go.Bv
theorem walk12 (t : List AV) (ht : t.length = 6 ∧ ∀ j, j < 6 → Fits (shTab.getD j .bool) (t.getD j .unk)) (a : List AV) (ha : a.length = 5 ∧ ∀ j, j < 5 → Fits (shCh.getD j .bool) (a.getD j .unk)) :
    VSpec Go.Proofs.Try.prog 12 [.agg t, .agg a] (.bool true) := by
  obtain ⟨fn, n, fs, ks, u, rs, rfl⟩ := fits_table ht
  obtain ⟨c, rfl⟩ := fits_change ha
  exact (run_sound mixed T_ok S40_sound 12 _ _ (run12 fn n fs ks u rs c)).1
end Go.Bv
