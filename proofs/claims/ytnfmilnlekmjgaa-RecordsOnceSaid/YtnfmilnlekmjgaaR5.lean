/- BY VALUE, chapter 26, the reference: decodePacked. -/
import Derived.Test.YtnfmilnlekmjgaaR3
set_option linter.unusedSimpArgs false
set_option linter.unusedVariables false
namespace Go.Bv
variable {S : RT}
attribute [local congr] ite_congr congr_bindOps congr_bindC congr_andThen congr_orNone congr_onBool congr_onEff congr_headC
set_option maxRecDepth 100000
set_option maxHeartbeats 40000000
theorem run124 (t : Ty) (ht : t.k = 1) (s : ByteArray) (hl0 : 0 ≤ t.l) (hs2 : s.size ≤ 1000) (hl : (s.size : Int) = t.l.tdiv 2 + 1) : run T S 124 [.agg (encT t), .str s] = some (dres (decimalN t s)) := by
  obtain ⟨k, l, sc⟩ := t
  simp only at ht hl0 hl
  subst ht
  have hl2 : l.tdiv 2 = l / 2 := Int.tdiv_eq_ediv_of_nonneg hl0
  rw [hl2] at hl
  have hm2 : l.tmod 2 = l % 2 := Int.tmod_eq_emod_of_nonneg hl0
  have hs : 1 ≤ s.size := by omega
  have e0 : IntKind.wrap .i64 (((2 * s.size - 1 : Nat) : Int) - l) = 1 - l % 2 := by rw [wrap_i64 (by omega) (by omega)]; omega
  unfold decimalN
  simp only [beq_self_eq_true, if_true, e0, encT]
  generalize hm : 2 * s.size - 1 = m
  generalize hD : packD s s.size = D
  generalize hA : packA s.size = A
  have d1 : ∀ i, i ≤ m → D.getD i 0 = if i % 2 = 1 then lo (byteAt s (i / 2)) else hi (byteAt s (i / 2)) := fun i h => by rw [← hD]; exact packD_get s (by omega)
  have a1 : ∀ i, i ≤ m → A.getD i 0 = ((i / 2 : Nat) : Int) := fun i h => by rw [← hA]; exact packA_get (by omega)
  have dl : D.length = m + 1 := by rw [← hD, packD_len]; omega
  have tl : (D.take m).length = m := by simp; omega
  have tg : ∀ i, i < m → (D.take m).getD i 0 = D.getD i 0 := fun i h => by simp [List.getD_eq_getElem?_getD, List.getElem?_take, h]
  have w1 : IntKind.wrap .i64 (2 * (s.size : Int)) = ((2 * s.size : Nat) : Int) := by rw [wrap_i64 (by omega) (by omega)]; omega
  have w2 : IntKind.wrap .i64 (((2 * s.size : Nat) : Int) - 1) = ((m : Nat) : Int) := by rw [wrap_i64 (by omega) (by omega)]; omega
  (refine run_fn T124 ⟨rfl, by decide⟩ ?_; rw [start124])
  simp (config := {decide := true, contextual := true, maxSteps := 3000000}) only [F124, List.replicate, ↓simPre, simPost, Bool.not_not, Bool.not_false, Bool.not_true, Bool.false_eq_true, reduceCtorEq, ↓reduceIte, decide_true, decide_false, splice, results, resT, resTs, AV.key, Bool.and_true, Bool.true_and, and_true, true_and, and_self, List.flatMap_nil, List.flatMap_cons, List.append_nil, List.nil_append, List.cons_append, List.map_cons, List.map_nil, List.all_cons, List.all_nil, List.length_cons, List.length_nil, Nat.reduceAdd, Nat.reduceLT, Nat.reduceLeDiff, Nat.reduceEqDiff, Nat.reduceSub, Nat.zero_add, Nat.add_zero, List.drop_succ_cons, List.drop_zero, List.take_succ_cons, List.take_zero]
  refine Eq.trans (headC_ind (σ := Nat × Int) (fun x => ⟨[.unk, .str s, .ptr 2 0 0, .unk, .ptr 4 0 0, .unk, .unk, .int .i64 x.2, .int .i64 x.1] ++ List.replicate 70 .unk, [⟨0, .dead⟩, ⟨0, .dead⟩, ⟨0, .box [.int .i64 1, .int .i64 l, .int .i64 sc]⟩, ⟨0, .dead⟩, ⟨0, .box [.int .i64 0, .str (bs [])]⟩] ++ List.replicate 74 ⟨0, .dead⟩⟩)
    (fun x => some (dres (if x.1 = 2 * s.size then (x.2, 0, 0) else decGo D A m (1 - l % 2) ((D.take m).drop x.1) x.1 x.2))) (fun x => 2 * s.size - x.1) (fun x => x.1 ≤ 2 * s.size) ?_ (0, 0) (Nat.zero_le _)) (by rw [if_neg (by simp only; omega)]; simp only [List.drop_zero])
  rintro ⟨i, n⟩ hi' ih
  simp only at hi'
  by_cases hlt : i < 2 * s.size
  · obtain ⟨h1, h2, h4, h5⟩ := idx hlt (by omega)
    obtain ⟨b1, b2, b3, b4, b5, b6, b7⟩ := byteFacts s (i / 2)
    have wi : IntKind.wrap .i64 ((i : Int).tdiv 2) = ((i / 2 : Nat) : Int) := by
      rw [Int.tdiv_eq_ediv_of_nonneg (by omega), wrap_i64 (by omega) (by omega)]; omega
    have h3 : (((i / 2 : Nat) : Int) < (s.size : Int)) = True := by simp; omega
    have hmod : (i : Int).tmod 2 = ((i % 2 : Nat) : Int) := by rw [Int.tmod_eq_emod_of_nonneg (by omega)]; omega
    have hne : ¬ i = 2 * s.size := by omega
    simp only [if_neg hne]
    by_cases hodd : i % 2 = 1
    · have c1 : (((i % 2 : Nat) : Int) == 1) = true := by rw [hodd]; rfl
      have hi0 : ((i : Int) == 0) = false := by simp; omega
      by_cases hlast : i = m
      · have c2 : ((i : Int) == (m : Int)) = true := by rw [hlast]; simp
        have h7 : (D.take m).drop i = [] := List.drop_eq_nil_of_le (by rw [tl]; omega)
        have hih := ih (i + 1, signN n (lo (byteAt s (i / 2)))) (by simp only; omega) (by simp only; omega)
        have e2 : i + 1 = 2 * s.size := by omega
        simp only [if_pos e2] at hih
        have dm := d1 m (Nat.le_refl m)
        have am := a1 m (Nat.le_refl m)
        rw [← hlast, if_pos hodd] at dm
        rw [← hlast] at am
        simp (config := {decide := true, contextual := true, maxSteps := 3000000}) only [h1, h2, h3, h4, h5, b1, b2, b3, w1, w2, wi, hmod, c1, c2, hi0, run149, List.replicate, ↓simPre, simPost, Bool.not_not, Bool.not_false, Bool.not_true, Bool.false_eq_true, reduceCtorEq, ↓reduceIte, decide_true, decide_false, splice, results, resT, resTs, AV.key, Bool.and_true, Bool.true_and, and_true, true_and, and_self, List.flatMap_nil, List.flatMap_cons, List.append_nil, List.nil_append, List.cons_append, List.map_cons, List.map_nil, List.all_cons, List.all_nil, List.length_cons, List.length_nil, Nat.reduceAdd, Nat.reduceLT, Nat.reduceLeDiff, Nat.reduceEqDiff, Nat.reduceSub, Nat.zero_add, Nat.add_zero, List.drop_succ_cons, List.drop_zero, List.take_succ_cons, List.take_zero]
        rw [h7, ← hlast]
        simp only [decGo, dm, am]
        cases ch : decide (lo (byteAt s (i / 2)) < 10) with
        | true => simp only [if_true]; rfl
        | false =>
          simp only [Bool.false_eq_true, if_false]
          refine hih.trans ?_
          unfold signN
          split <;> rfl
      · have c2 : ((i : Int) == (m : Int)) = false := by simp; omega
        have hih := ih (i + 1, IntKind.wrap .i64 (IntKind.wrap .i64 (10 * n) + lo (byteAt s (i / 2)))) (by simp only; omega) (by simp only; omega)
        have e2 : ¬ i + 1 = 2 * s.size := by omega
        simp only [if_neg e2] at hih
        have dm := d1 i (by omega)
        rw [if_pos hodd] at dm
        have hg : decGo D A m (1 - l % 2) ((D.take m).drop i) i n = if (decide (lo (byteAt s (i / 2)) > 9)) = true then (0, ((i / 2 : Nat) : Int), 21) else decGo D A m (1 - l % 2) ((D.take m).drop (i + 1)) (i + 1) (IntKind.wrap .i64 (IntKind.wrap .i64 (10 * n) + lo (byteAt s (i / 2)))) := by
          rw [drop_cons 0 (by rw [tl]; omega), tg i (by omega), dm]
          simp only [decGo, a1 i (by omega), b4, Int.mul_comm 10 n]
          have : decide ((i : Int) < 1 - l % 2) = false := by simp; omega
          simp only [this, Bool.and_false, Bool.or_false]
        rw [hg]
        simp (config := {decide := true, contextual := true, maxSteps := 3000000}) only [h1, h2, h3, h4, h5, b1, b2, b3, w1, w2, wi, hmod, c1, c2, hi0, run149, List.replicate, ↓simPre, simPost, Bool.not_not, Bool.not_false, Bool.not_true, Bool.false_eq_true, reduceCtorEq, ↓reduceIte, decide_true, decide_false, splice, results, resT, resTs, AV.key, Bool.and_true, Bool.true_and, and_true, true_and, and_self, List.flatMap_nil, List.flatMap_cons, List.append_nil, List.nil_append, List.cons_append, List.map_cons, List.map_nil, List.all_cons, List.all_nil, List.length_cons, List.length_nil, Nat.reduceAdd, Nat.reduceLT, Nat.reduceLeDiff, Nat.reduceEqDiff, Nat.reduceSub, Nat.zero_add, Nat.add_zero, List.drop_succ_cons, List.drop_zero, List.take_succ_cons, List.take_zero]
        simp only [dres_ite]
        cases ch : decide (lo (byteAt s (i / 2)) > 9) with
        | true => simp only [if_true]; rfl
        | false =>
          simp only [Bool.false_eq_true, if_false]
          exact hih
    · have c1 : (((i % 2 : Nat) : Int) == 1) = false := by simp; omega
      have c2 : ((i : Int) == (m : Int)) = false := by simp; omega
      have hih := ih (i + 1, IntKind.wrap .i64 (IntKind.wrap .i64 (10 * n) + hi (byteAt s (i / 2)))) (by simp only; omega) (by simp only; omega)
      have e2 : ¬ i + 1 = 2 * s.size := by omega
      simp only [if_neg e2] at hih
      have dm := d1 i (by omega)
      rw [if_neg hodd] at dm
      have hg : decGo D A m (1 - l % 2) ((D.take m).drop i) i n = if (decide (hi (byteAt s (i / 2)) > 9) || (((i : Int) == 0) && (l.tmod 2 == 0) && (hi (byteAt s (i / 2)) != 0))) = true then (0, ((i / 2 : Nat) : Int), 21) else decGo D A m (1 - l % 2) ((D.take m).drop (i + 1)) (i + 1) (IntKind.wrap .i64 (IntKind.wrap .i64 (10 * n) + hi (byteAt s (i / 2)))) := by
        rw [drop_cons 0 (by rw [tl]; omega), tg i (by omega), dm]
        simp only [decGo, a1 i (by omega), b5, Int.mul_comm 10 n]
        have : (decide (hi (byteAt s (i / 2)) > 0) && decide ((i : Int) < 1 - l % 2)) = (((i : Int) == 0) && (l.tmod 2 == 0) && (hi (byteAt s (i / 2)) != 0)) := by
          rw [hm2, Bool.eq_iff_iff]
          simp
          omega
        rw [this]
      rw [hg]
      simp (config := {decide := true, contextual := true, maxSteps := 3000000}) only [h1, h2, h3, h4, h5, b1, b2, b3, w1, w2, wi, hmod, c1, c2, run149, List.replicate, ↓simPre, simPost, Bool.not_not, Bool.not_false, Bool.not_true, Bool.false_eq_true, reduceCtorEq, ↓reduceIte, decide_true, decide_false, splice, results, resT, resTs, AV.key, Bool.and_true, Bool.true_and, and_true, true_and, and_self, List.flatMap_nil, List.flatMap_cons, List.append_nil, List.nil_append, List.cons_append, List.map_cons, List.map_nil, List.all_cons, List.all_nil, List.length_cons, List.length_nil, Nat.reduceAdd, Nat.reduceLT, Nat.reduceLeDiff, Nat.reduceEqDiff, Nat.reduceSub, Nat.zero_add, Nat.add_zero, List.drop_succ_cons, List.drop_zero, List.take_succ_cons, List.take_zero]
      simp only [dres_ite]
      cases ch : (decide (hi (byteAt s (i / 2)) > 9) || (((i : Int) == 0) && (l.tmod 2 == 0) && (hi (byteAt s (i / 2)) != 0))) with
      | true => simp only [if_true]; rfl
      | false =>
        simp only [Bool.false_eq_true, if_false]
        exact hih
  · have h2 := idxEnd (Nat.le_of_not_lt hlt)
    obtain rfl : i = 2 * s.size := by omega
    simp (config := {decide := true, contextual := true, maxSteps := 3000000}) only [h2, w1, run149, List.replicate, ↓simPre, simPost, Bool.not_not, Bool.not_false, Bool.not_true, Bool.false_eq_true, reduceCtorEq, ↓reduceIte, decide_true, decide_false, splice, results, resT, resTs, AV.key, Bool.and_true, Bool.true_and, and_true, true_and, and_self, List.flatMap_nil, List.flatMap_cons, List.append_nil, List.nil_append, List.cons_append, List.map_cons, List.map_nil, List.all_cons, List.all_nil, List.length_cons, List.length_nil, Nat.reduceAdd, Nat.reduceLT, Nat.reduceLeDiff, Nat.reduceEqDiff, Nat.reduceSub, Nat.zero_add, Nat.add_zero, List.drop_succ_cons, List.drop_zero, List.take_succ_cons, List.take_zero]
    rfl
end Go.Bv
