/- BY VALUE, chapter 26, the reference: Decode. -/
import Derived.Test.YtnfmilnlekmjgaaR5
import Derived.Test.YtnfmilnlekmjgaaR1
set_option linter.unusedSimpArgs false
set_option linter.unusedVariables false
namespace Go.Bv
variable {S : RT}
attribute [local congr] ite_congr congr_bindOps congr_bindC congr_andThen congr_orNone congr_onBool congr_onEff congr_headC
set_option maxRecDepth 100000
set_option maxHeartbeats 40000000
theorem wrap_mod (n : Int) : IntKind.wrap .i64 n = if n % 18446744073709551616 ≥ 9223372036854775808 then n % 18446744073709551616 - 18446744073709551616 else n % 18446744073709551616 := by
  unfold IntKind.wrap
  have h1 : (2 : Int) ^ IntKind.bits .i64 = 18446744073709551616 := by decide
  have h2 : (2 : Int) ^ (IntKind.bits .i64 - 1) = 9223372036854775808 := by decide
  simp only [h1, h2]
  simp [IntKind.signed]
theorem or_byte (a : Int) (c : Nat) (h1 : -36028797018963968 ≤ a) (h2 : a ≤ 36028797018963967) (hc : c < 256) : binStep a (c : Int) = a * 256 + c := by
  unfold binStep
  rw [wrap_i64 (n := a * 256) (by omega) (by omega), wrap_i64 (n := (c : Int)) (by omega) (by omega)]
  have e : IntKind.bits .i64 = 64 := rfl
  rw [e]
  have hx : (BitVec.ofInt 64 (a * 256)).toNat = ((a * 256) % 18446744073709551616).toNat := by simp [BitVec.toNat_ofInt]
  have hy : (BitVec.ofInt 64 (c : Int)).toNat = c := by
    have hp : ((2 ^ 64 : Nat) : Int) = 18446744073709551616 := by decide
    rw [BitVec.toNat_ofInt, hp, Int.emod_eq_of_lt (by omega) (by omega)]; simp
  have hk : ((a * 256) % 18446744073709551616).toNat = (((a * 256) % 18446744073709551616).toNat / 256) <<< 8 := by rw [Nat.shiftLeft_eq]; omega
  rw [BitVec.toNat_or, hx, hy, hk, ← Nat.shiftLeft_add_eq_or_of_lt (by omega), ← hk, wrap_mod]
  omega
theorem i8_byte (n : Nat) (h : n < 256) : IntKind.wrap .i8 (n : Int) = if (n : Int) ≥ 128 then (n : Int) - 256 else n := by
  have key : ∀ n : Fin 256, IntKind.wrap .i8 ((n.val : Nat) : Int) = if ((n.val : Nat) : Int) ≥ 128 then ((n.val : Nat) : Int) - 256 else ((n.val : Nat) : Int) := by decide +kernel
  exact key ⟨n, h⟩
theorem tail_eq (s : ByteArray) : (s.extract 1 s.size).data.toList = s.data.toList.drop 1 := by
  have h : s.data.toList.length = s.size := by simp
  rw [ByteArray.data_extract, Array.toList_extract, List.extract]
  exact List.take_of_length_le (by simp)
theorem at0_eq (s : ByteArray) : byteAt s 0 = ((s.data.toList.getD 0 0).toNat : Int) := by simp [byteAt]
theorem binN2 (s : ByteArray) (h : s.size = 2) : binN s = bigGo s.data.toList 0 - (if byteAt s 0 ≥ 128 then 65536 else 0) := by
  unfold binN
  rw [tail_eq, at0_eq]
  have hl : s.data.toList.length = 2 := by simpa using h
  obtain ⟨x, y, hxy⟩ : ∃ x y, s.data.toList = [x, y] := by
    match hh : s.data.toList, hl with
    | [x, y], _ => exact ⟨x, y, rfl⟩
  rw [hxy]
  have hx := x.toNat_lt
  have hy := y.toNat_lt
  simp only [List.getD_cons_zero, List.drop_succ_cons, List.drop_zero, binGo, bigGo, bigStep]
  rw [i8_byte _ hx]
  have e1 : IntKind.wrap .i64 (0 * 256) = 0 := rfl
  rw [e1, Int.zero_add, wrap_i64 (n := (x.toNat : Int)) (by omega) (by omega), wrap_i64 (n := (x.toNat : Int)) (by omega) (by omega), wrap_i64 (n := (y.toNat : Int)) (by omega) (by omega), wrap_i64 (n := (x.toNat : Int) * 256) (by omega) (by omega), wrap_i64 (n := (x.toNat : Int) * 256 + y.toNat) (by omega) (by omega)]
  split
  · rw [wrap_i64 (by omega) (by omega), or_byte _ _ (by omega) (by omega) (by omega)]; omega
  · rw [wrap_i64 (by omega) (by omega), or_byte _ _ (by omega) (by omega) (by omega)]; omega
theorem bigStep_eq (n : Int) (c : UInt8) (h0 : 0 ≤ n) (h : n ≤ 36028797018963966) : bigStep n (c.toNat : Int) = n * 256 + c.toNat := by
  have hc := c.toNat_lt
  unfold bigStep
  rw [wrap_i64 (n := n * 256) (by omega) (by omega), wrap_i64 (n := (c.toNat : Int)) (by omega) (by omega), wrap_i64 (by omega) (by omega)]
theorem binStep_eq (n : Int) (c : UInt8) (h0 : -36028797018963966 ≤ n) (h : n ≤ 36028797018963966) : binStep n (c.toNat : Int) = n * 256 + c.toNat := or_byte n _ (by omega) (by omega) c.toNat_lt
theorem binN4 (s : ByteArray) (h : s.size = 4) : binN s = bigGo s.data.toList 0 - (if byteAt s 0 ≥ 128 then 4294967296 else 0) := by
  unfold binN
  rw [tail_eq, at0_eq]
  have hl : s.data.toList.length = 4 := by simpa using h
  obtain ⟨x, y, z, u, hxy⟩ : ∃ x y z u, s.data.toList = [x, y, z, u] := by
    match hh : s.data.toList, hl with
    | [x, y, z, u], _ => exact ⟨x, y, z, u, rfl⟩
  rw [hxy]
  have hx := x.toNat_lt
  have hy := y.toNat_lt
  have hz := z.toNat_lt
  have hu := u.toNat_lt
  simp only [List.getD_cons_zero, List.drop_succ_cons, List.drop_zero, binGo, bigGo]
  rw [i8_byte _ hx, bigStep_eq 0 x (by omega) (by omega), bigStep_eq _ y (by omega) (by omega), bigStep_eq _ z (by omega) (by omega), bigStep_eq _ u (by omega) (by omega)]
  split
  · rw [wrap_i64 (by omega) (by omega), binStep_eq _ y (by omega) (by omega), binStep_eq _ z (by omega) (by omega), binStep_eq _ u (by omega) (by omega)]; omega
  · rw [wrap_i64 (by omega) (by omega), binStep_eq _ y (by omega) (by omega), binStep_eq _ z (by omega) (by omega), binStep_eq _ u (by omega) (by omega)]; omega
theorem big_range2 (s : ByteArray) (h : s.size = 2) : 0 ≤ bigGo s.data.toList 0 ∧ bigGo s.data.toList 0 ≤ 65535 := by
  have hl : s.data.toList.length = 2 := by simpa using h
  obtain ⟨x, y, hxy⟩ : ∃ x y, s.data.toList = [x, y] := by
    match hh : s.data.toList, hl with
    | [x, y], _ => exact ⟨x, y, rfl⟩
  rw [hxy]
  have hx := x.toNat_lt
  have hy := y.toNat_lt
  simp only [bigGo]
  rw [bigStep_eq 0 x (by omega) (by omega), bigStep_eq _ y (by omega) (by omega)]
  omega
theorem big_range4 (s : ByteArray) (h : s.size = 4) : 0 ≤ bigGo s.data.toList 0 ∧ bigGo s.data.toList 0 ≤ 4294967295 := by
  have hl : s.data.toList.length = 4 := by simpa using h
  obtain ⟨x, y, z, u, hxy⟩ : ∃ x y z u, s.data.toList = [x, y, z, u] := by
    match hh : s.data.toList, hl with
    | [x, y, z, u], _ => exact ⟨x, y, z, u, rfl⟩
  rw [hxy]
  have hx := x.toNat_lt
  have hy := y.toNat_lt
  have hz := z.toNat_lt
  have hu := u.toNat_lt
  simp only [bigGo]
  rw [bigStep_eq 0 x (by omega) (by omega), bigStep_eq _ y (by omega) (by omega), bigStep_eq _ z (by omega) (by omega), bigStep_eq _ u (by omega) (by omega)]
  omega
end Go.Bv

/- BY VALUE, chapter 26, the reference: Decode is the program's. -/
set_option linter.unusedSimpArgs false
set_option linter.unusedVariables false
namespace Go.Bv
variable {S : RT}
attribute [local congr] ite_congr congr_bindOps congr_bindC congr_andThen congr_orNone congr_onBool congr_onEff congr_headC
set_option maxRecDepth 100000
set_option maxHeartbeats 40000000
theorem checkValue_bin (l sc n : Int) (h : checkType ⟨3, l, sc⟩ = 0) : checkValue ⟨3, l, sc⟩ ⟨n, bs []⟩ = if (!(decide (-(powT l - 1) ≤ n) && decide (n ≤ powT l - 1))) = true then 19 else 0 := by
  have e : ((bs []).toList == (bs []).toList) = true := by simp
  unfold checkValue
  simp only [h, e]
  simp [first, cond]
theorem run74 (t : Ty) (s : ByteArray) (hs : s.size ≤ 1000000000) : run T S 74 [.agg (encT t), .str s] = some (encD (decode t s)) := by
  have h120 := run120 (S := S) t
  by_cases hc : checkType t = 0
  · have hz := checkType_zero hc
    have h96 := run96 (S := S) t hc
    by_cases h4 : t.k = 4
    · obtain ⟨k, l, sc⟩ := t
      simp only at hz h4
      subst h4
      have hd : decode ⟨4, l, sc⟩ s = (⟨0, bs []⟩, 0, 17) := by
        have hE : decodeE ⟨4, l, sc⟩ s = 17 := by unfold decodeE; simp only [hc]; simp [first, cond]
        simp [decode, hE]
      rw [hd]
      simp only [encT] at h120 ⊢
      (refine run_fn T74 ⟨rfl, by decide⟩ ?_; rw [start74])
      simp (config := {decide := true, contextual := true, maxSteps := 3000000}) only [F74, h120, hc, List.replicate, ↓simPre, simPost, Bool.not_not, Bool.not_false, Bool.not_true, Bool.false_eq_true, reduceCtorEq, ↓reduceIte, decide_true, decide_false, splice, results, resT, resTs, AV.key, Bool.and_true, Bool.true_and, and_true, true_and, and_self, List.flatMap_nil, List.flatMap_cons, List.append_nil, List.nil_append, List.cons_append, List.map_cons, List.map_nil, List.all_cons, List.all_nil, List.length_cons, List.length_nil, Nat.reduceAdd, Nat.reduceLT, Nat.reduceLeDiff, Nat.reduceEqDiff, Nat.reduceSub, Nat.zero_add, Nat.add_zero, List.drop_succ_cons, List.drop_zero, List.take_succ_cons, List.take_zero]
      rfl
    · have h0 : first [checkType t, cond (t.k == 4) 17] = 0 := by
        have : (t.k == 4) = false := by simpa using h4
        rw [hc, this]; rfl
      by_cases hsz : (s.size : Int) = sizeT t
      · have hr := sizeT_range hc
        have hp := sizeT_pos hc h4
        have h123 := fun hk hl => run123 (S := S) t hk s (by omega) (by omega) hl
        have h124 := fun hk hl => run124 (S := S) t hk s hz.1 (by omega) hl
        have h121 := run121 (S := S) s hs
        have h122 := fun h => run122 (S := S) t hz.1 h
        obtain ⟨k, l, sc⟩ := t
        simp only at hz h4 h0 h123 h124 h122
        have hb : ((s.size : Int) != sizeT ⟨k, l, sc⟩) = false := by simp [hsz]
        have hE : decodeE ⟨k, l, sc⟩ s = 0 := by
          unfold decodeE; simp only; rw [h0]; simp [hsz, cond]
        have hk : k = 0 ∨ k = 1 ∨ k = 2 ∨ k = 3 := by omega
        simp only [encT] at h120 h96 h122 h124 ⊢
        rcases hk with rfl | rfl | rfl | rfl
        · have hd : decode ⟨0, l, sc⟩ s = (⟨0, s⟩, 0, 0) := by simp [decode, hE]
          rw [hd]
          (refine run_fn T74 ⟨rfl, by decide⟩ ?_; rw [start74])
          simp (config := {decide := true, contextual := true, maxSteps := 3000000}) only [F74, h120, hc, h96, hb, List.replicate, ↓simPre, simPost, Bool.not_not, Bool.not_false, Bool.not_true, Bool.false_eq_true, reduceCtorEq, ↓reduceIte, decide_true, decide_false, splice, results, resT, resTs, AV.key, Bool.and_true, Bool.true_and, and_true, true_and, and_self, List.flatMap_nil, List.flatMap_cons, List.append_nil, List.nil_append, List.cons_append, List.map_cons, List.map_nil, List.all_cons, List.all_nil, List.length_cons, List.length_nil, Nat.reduceAdd, Nat.reduceLT, Nat.reduceLeDiff, Nat.reduceEqDiff, Nat.reduceSub, Nat.zero_add, Nat.add_zero, List.drop_succ_cons, List.drop_zero, List.take_succ_cons, List.take_zero]
          rfl
        · have h124 := h124 rfl hsz
          have hd : decode ⟨1, l, sc⟩ s = (⟨(decimalN ⟨1, l, sc⟩ s).1, bs []⟩, (decimalN ⟨1, l, sc⟩ s).2.1, (decimalN ⟨1, l, sc⟩ s).2.2) := by simp [decode, hE]
          rw [hd]
          (refine run_fn T74 ⟨rfl, by decide⟩ ?_; rw [start74])
          simp (config := {decide := true, contextual := true, maxSteps := 3000000}) only [F74, h120, hc, h96, hb, h124, dres, encD, encV, List.replicate, ↓simPre, simPost, Bool.not_not, Bool.not_false, Bool.not_true, Bool.false_eq_true, reduceCtorEq, ↓reduceIte, decide_true, decide_false, splice, results, resT, resTs, AV.key, Bool.and_true, Bool.true_and, and_true, true_and, and_self, List.flatMap_nil, List.flatMap_cons, List.append_nil, List.nil_append, List.cons_append, List.map_cons, List.map_nil, List.all_cons, List.all_nil, List.length_cons, List.length_nil, Nat.reduceAdd, Nat.reduceLT, Nat.reduceLeDiff, Nat.reduceEqDiff, Nat.reduceSub, Nat.zero_add, Nat.add_zero, List.drop_succ_cons, List.drop_zero, List.take_succ_cons, List.take_zero]
        · have h123 := h123 rfl hsz.symm
          have hd : decode ⟨2, l, sc⟩ s = (⟨(decimalN ⟨2, l, sc⟩ s).1, bs []⟩, (decimalN ⟨2, l, sc⟩ s).2.1, (decimalN ⟨2, l, sc⟩ s).2.2) := by simp [decode, hE]
          rw [hd]
          (refine run_fn T74 ⟨rfl, by decide⟩ ?_; rw [start74])
          simp (config := {decide := true, contextual := true, maxSteps := 3000000}) only [F74, h120, hc, h96, hb, h123, dres, encD, encV, List.replicate, ↓simPre, simPost, Bool.not_not, Bool.not_false, Bool.not_true, Bool.false_eq_true, reduceCtorEq, ↓reduceIte, decide_true, decide_false, splice, results, resT, resTs, AV.key, Bool.and_true, Bool.true_and, and_true, true_and, and_self, List.flatMap_nil, List.flatMap_cons, List.append_nil, List.nil_append, List.cons_append, List.map_cons, List.map_nil, List.all_cons, List.all_nil, List.length_cons, List.length_nil, Nat.reduceAdd, Nat.reduceLT, Nat.reduceLeDiff, Nat.reduceEqDiff, Nat.reduceSub, Nat.zero_add, Nat.add_zero, List.drop_succ_cons, List.drop_zero, List.take_succ_cons, List.take_zero]
        · have hl : l = 4 ∨ l = 9 := by
            unfold checkType at hc
            simp [first, cond] at hc
            omega
          have hd : decode ⟨3, l, sc⟩ s = (if (checkValue ⟨3, l, sc⟩ ⟨binN s, bs []⟩ != 0) = true then (⟨0, bs []⟩, 0, checkValue ⟨3, l, sc⟩ ⟨binN s, bs []⟩) else (⟨binN s, bs []⟩, 0, 0)) := by simp [decode, hE]
          have h122 := h122 (by omega)
          rw [hd, checkValue_bin l sc _ hc]
          have hpr := powT_range l
          have wm : IntKind.wrap .i64 (0 - (powT l - 1)) = -(powT l - 1) := by rw [wrap_i64 (by omega) (by omega)]; omega
          have g1 : ((0:Int) < (s.size : Int)) = True := by simp; omega
          have key : ∀ M : Int, binN s = bigGo s.data.toList 0 - (if byteAt s 0 ≥ 128 then M else 0) → (IntKind.wrap .i64 (1 * 2 ^ min (IntKind.wrap .i64 (8 * (s.size : Int))).toNat (IntKind.bits .i64)) = M ∧ IntKind.wrap .i64 (bigGo s.data.toList 0 - M) = bigGo s.data.toList 0 - M ∧ (IntKind.wrap .i64 (8 * (s.size : Int)) < 0) = False) →
              run T S 74 [.agg [.int .i64 3, .int .i64 l, .int .i64 sc], .str s] = some (encD (if ((if (!(decide (-(powT l - 1) ≤ binN s) && decide (binN s ≤ powT l - 1))) = true then (19 : Int) else 0) != 0) = true then (⟨0, bs []⟩, 0, (if (!(decide (-(powT l - 1) ≤ binN s) && decide (binN s ≤ powT l - 1))) = true then (19 : Int) else 0)) else (⟨binN s, bs []⟩, 0, 0))) := by
            intro M hM ⟨m1, m2, m3⟩
            (refine run_fn T74 ⟨rfl, by decide⟩ ?_; rw [start74])
            simp (config := {decide := true, contextual := true, maxSteps := 3000000}) only [F74, h120, hc, h96, hb, h121, h122, run62, wm, g1, m1, m2, m3, List.replicate, ↓simPre, simPost, Bool.not_not, Bool.not_false, Bool.not_true, Bool.false_eq_true, reduceCtorEq, ↓reduceIte, decide_true, decide_false, splice, results, resT, resTs, AV.key, Bool.and_true, Bool.true_and, and_true, true_and, and_self, List.flatMap_nil, List.flatMap_cons, List.append_nil, List.nil_append, List.cons_append, List.map_cons, List.map_nil, List.all_cons, List.all_nil, List.length_cons, List.length_nil, Nat.reduceAdd, Nat.reduceLT, Nat.reduceLeDiff, Nat.reduceEqDiff, Nat.reduceSub, Nat.zero_add, Nat.add_zero, List.drop_succ_cons, List.drop_zero, List.take_succ_cons, List.take_zero]
            cases c1 : decide (byteAt s 0 ≥ 128) with
            | true =>
              have : binN s = bigGo s.data.toList 0 - M := by rw [hM, if_pos (by simpa using c1)]
              rw [this]
              simp only [if_true]
              cases (!(decide (-(powT l - 1) ≤ bigGo s.data.toList 0 - M) && decide (bigGo s.data.toList 0 - M ≤ powT l - 1))) <;> rfl
            | false =>
              have : binN s = bigGo s.data.toList 0 := by rw [hM, if_neg (by simpa using c1)]; omega
              rw [this]
              simp only [Bool.false_eq_true, if_false]
              cases (!(decide (-(powT l - 1) ≤ bigGo s.data.toList 0) && decide (bigGo s.data.toList 0 ≤ powT l - 1))) <;> rfl
          rcases hl with rfl | rfl
          · have h2 : s.size = 2 := by
              have : sizeT ⟨3, 4, sc⟩ = 2 := rfl
              omega
            have hbr := big_range2 s h2
            exact key 65536 (binN2 s h2) ⟨by rw [h2]; rfl, wrap_i64 (by omega) (by omega), by rw [h2]; simp; decide⟩
          · have h2 : s.size = 4 := by
              have : sizeT ⟨3, 9, sc⟩ = 4 := rfl
              omega
            have hbr := big_range4 s h2
            exact key 4294967296 (binN4 s h2) ⟨by rw [h2]; rfl, wrap_i64 (by omega) (by omega), by rw [h2]; simp; decide⟩
      · obtain ⟨k, l, sc⟩ := t
        simp only [encT] at h120 h96 ⊢
        simp only at hz h4 h0
        have hb : ((s.size : Int) != sizeT ⟨k, l, sc⟩) = true := by simpa using hsz
        have hk : (k == 4) = false := by simpa using h4
        have hE : decodeE ⟨k, l, sc⟩ s = 18 := by
          unfold decodeE; simp only; rw [h0]; simp [hsz, cond]
        have hd : decode ⟨k, l, sc⟩ s = (⟨0, bs []⟩, 0, 18) := by simp [decode, hE]
        rw [hd]
        (refine run_fn T74 ⟨rfl, by decide⟩ ?_; rw [start74])
        simp (config := {decide := true, contextual := true, maxSteps := 3000000}) only [F74, h120, hc, h96, hb, hk, List.replicate, ↓simPre, simPost, Bool.not_not, Bool.not_false, Bool.not_true, Bool.false_eq_true, reduceCtorEq, ↓reduceIte, decide_true, decide_false, splice, results, resT, resTs, AV.key, Bool.and_true, Bool.true_and, and_true, true_and, and_self, List.flatMap_nil, List.flatMap_cons, List.append_nil, List.nil_append, List.cons_append, List.map_cons, List.map_nil, List.all_cons, List.all_nil, List.length_cons, List.length_nil, Nat.reduceAdd, Nat.reduceLT, Nat.reduceLeDiff, Nat.reduceEqDiff, Nat.reduceSub, Nat.zero_add, Nat.add_zero, List.drop_succ_cons, List.drop_zero, List.take_succ_cons, List.take_zero]
        rfl
  · have hf : first [checkType t, cond (t.k == 4) 17] = checkType t := by simp [first, hc]
    have hd : decode t s = (⟨0, bs []⟩, 0, checkType t) := by
      have hE : decodeE t s = checkType t := by unfold decodeE; rw [hf]; simp [hc]
      simp [decode, hE, hc]
    rw [hd]
    obtain ⟨k, l, sc⟩ := t
    simp only [encT] at h120 ⊢
    have hcb : (checkType ⟨k, l, sc⟩ != 0) = true := by simpa using hc
    (refine run_fn T74 ⟨rfl, by decide⟩ ?_; rw [start74])
    simp (config := {decide := true, contextual := true, maxSteps := 3000000}) only [F74, h120, hcb, List.replicate, ↓simPre, simPost, Bool.not_not, Bool.not_false, Bool.not_true, Bool.false_eq_true, reduceCtorEq, ↓reduceIte, decide_true, decide_false, splice, results, resT, resTs, AV.key, Bool.and_true, Bool.true_and, and_true, true_and, and_self, List.flatMap_nil, List.flatMap_cons, List.append_nil, List.nil_append, List.cons_append, List.map_cons, List.map_nil, List.all_cons, List.all_nil, List.length_cons, List.length_nil, Nat.reduceAdd, Nat.reduceLT, Nat.reduceLeDiff, Nat.reduceEqDiff, Nat.reduceSub, Nat.zero_add, Nat.add_zero, List.drop_succ_cons, List.drop_zero, List.take_succ_cons, List.take_zero]
    rfl
end Go.Bv
