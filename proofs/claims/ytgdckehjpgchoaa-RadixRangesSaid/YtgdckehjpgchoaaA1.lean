/- BY VALUE: chapter 27, the program's functions (1). -/
import Derived.Test.YtgdckehjpgchoaaC27F
import Derived.Test.YtgdckehjpgchoaaNFun
import Derived.Test.YtgdckehjpgchoaaP27a
import Derived.Sort.Walk0
set_option linter.unusedVariables false
set_option linter.unusedSimpArgs false
namespace Go.Nv
variable {S : RT}
attribute [local congr] ite_congr congr_bindOps congr_bindC congr_bindD congr_onE congr_onA congr_onBool congr_onEff congr_headC congr_ob congr_ob2 congr_onI congr_onS congr_onAg congr_onTu congr_onRow congr_obO congr_takeR congr_ldV congr_ldN congr_iaV congr_onMap congr_stP congr_appA congr_frzR congr_onFn congr_fzV congr_callM congr_callN congr_onIo congr_giveR congr_rowS congr_bxS congr_bxC congr_rnR congr_rnP congr_onFin
set_option maxRecDepth 100000
set_option maxHeartbeats 40000000
theorem run53 (is : Bool) (e : Int) : run T S 53 [.bool is, .int .i64 e] = some (.int .i64 (cond is e)) := by
  (refine run_fn T53 ⟨rfl, by decide, by rfl⟩ ?_; rw [start53, body53, B53]; dsimp only [ov, oo, og])
  simp (config := {decide := true, contextual := true, maxSteps := 5000000}) only [cond, np53, res53, ↓simPre, simPost, capt_pure, argV_ro, argV_le, expo_pure, refsL_pure, isL_pure, k0_pure, k1_pure, ren0_pure, ren1_pure, sT_pure, sO_pure, bxGo_pure, resGo_pure, inst_pure, inst_rows, inst_bx, resP_go, viewT_pure, outs_skip, fzV_pure, bxL_pure, bxOf_pure, rowsOf_pure, rows1_pure, name1_pure, nameB1_pure, simR, reduceCtorEq, ↓reduceIte, splice, Nat.reduceAdd, Nat.reduceLT, Nat.reduceLeDiff, Nat.reduceEqDiff, Nat.reduceSub, noPtr, isPtr, notAgg, notIo, AV.capt, distinct, covers, O.keys, O.wr, okPair, disj, List.replicate, startOk]
theorem run51 (l : List Int) (hl : l.length ≤ 1000) : run T S 51 [.sl (ints l)] = some (.int .i64 (first l)) := by
  (refine run_fn T51 ⟨rfl, by decide, by rfl⟩ ?_; rw [start51, body51, B51]; dsimp only [ov, oo, og])
  simp (config := {decide := true, contextual := true, maxSteps := 5000000}) only [ints_len, np51, res51, ↓simPre, simPost, capt_pure, argV_ro, argV_le, expo_pure, refsL_pure, isL_pure, k0_pure, k1_pure, ren0_pure, ren1_pure, sT_pure, sO_pure, bxGo_pure, resGo_pure, inst_pure, inst_rows, inst_bx, resP_go, viewT_pure, outs_skip, fzV_pure, bxL_pure, bxOf_pure, rowsOf_pure, rows1_pure, name1_pure, nameB1_pure, simR, reduceCtorEq, ↓reduceIte, splice, Nat.reduceAdd, Nat.reduceLT, Nat.reduceLeDiff, Nat.reduceEqDiff, Nat.reduceSub, noPtr, isPtr, notAgg, notIo, AV.capt, distinct, covers, O.keys, O.wr, okPair, disj, List.replicate, startOk]
  refine headC_range l.length (fun i e => e.put (some 7) (.int .i64 i)) (fun i => some (AV.int .i64 (first (l.drop i)))) rfl ?_ ?_
  · simp (config := {decide := true, contextual := true, maxSteps := 5000000}) only [ints_len, castNlt (Nat.lt_irrefl _), List.drop_length, first, np51, res51, ↓simPre, simPost, capt_pure, argV_ro, argV_le, expo_pure, refsL_pure, isL_pure, k0_pure, k1_pure, ren0_pure, ren1_pure, sT_pure, sO_pure, bxGo_pure, resGo_pure, inst_pure, inst_rows, inst_bx, resP_go, viewT_pure, outs_skip, fzV_pure, bxL_pure, bxOf_pure, rowsOf_pure, rows1_pure, name1_pure, nameB1_pure, simR, reduceCtorEq, ↓reduceIte, splice, Nat.reduceAdd, Nat.reduceLT, Nat.reduceLeDiff, Nat.reduceEqDiff, Nat.reduceSub, noPtr, isPtr, notAgg, notIo, AV.capt, distinct, covers, O.keys, O.wr, okPair, disj, List.replicate, startOk]
  · intro i hlt ih
    rw [drop_cons 0 hlt]
    simp (config := {decide := true, contextual := true, maxSteps := 5000000}) only [ints_len, castLt hlt, ints_get l i hlt, wrap_succ hlt (by omega), first, np51, res51, ↓simPre, simPost, capt_pure, argV_ro, argV_le, expo_pure, refsL_pure, isL_pure, k0_pure, k1_pure, ren0_pure, ren1_pure, sT_pure, sO_pure, bxGo_pure, resGo_pure, inst_pure, inst_rows, inst_bx, resP_go, viewT_pure, outs_skip, fzV_pure, bxL_pure, bxOf_pure, rowsOf_pure, rows1_pure, name1_pure, nameB1_pure, simR, reduceCtorEq, ↓reduceIte, splice, Nat.reduceAdd, Nat.reduceLT, Nat.reduceLeDiff, Nat.reduceEqDiff, Nat.reduceSub, noPtr, isPtr, notAgg, notIo, AV.capt, distinct, covers, O.keys, O.wr, okPair, disj, List.replicate, startOk]
    split
    · rfl
    · exact ih
theorem run51_2 (a b : Int) : run T S 51 [.sl [[.int .i64 a], [.int .i64 b]]] = some (.int .i64 (first [a, b])) := run51 [a, b] (by simp)
theorem run51_3 (a b c : Int) : run T S 51 [.sl [[.int .i64 a], [.int .i64 b], [.int .i64 c]]] = some (.int .i64 (first [a, b, c])) := run51 [a, b, c] (by simp)
theorem run52 (x : En) : run T S 52 [.agg (encE x)] = some (.int .i64 (entryErr x)) := by
  (refine run_fn T52 ⟨rfl, by decide, by rfl⟩ ?_; rw [start52, body52, B52]; dsimp only [ov, oo, og])
  simp (config := {decide := true, contextual := true, maxSteps := 5000000}) only [encE, run53, run51_2, entryErr, keyErr, rrnErr, np52, res52, ↓simPre, simPost, capt_pure, argV_ro, argV_le, expo_pure, refsL_pure, isL_pure, k0_pure, k1_pure, ren0_pure, ren1_pure, sT_pure, sO_pure, bxGo_pure, resGo_pure, inst_pure, inst_rows, inst_bx, resP_go, viewT_pure, outs_skip, fzV_pure, bxL_pure, bxOf_pure, rowsOf_pure, rows1_pure, name1_pure, nameB1_pure, simR, reduceCtorEq, ↓reduceIte, splice, Nat.reduceAdd, Nat.reduceLT, Nat.reduceLeDiff, Nat.reduceEqDiff, Nat.reduceSub, noPtr, isPtr, notAgg, notIo, AV.capt, distinct, covers, O.keys, O.wr, okPair, disj, List.replicate, startOk]
theorem run76 (l : List En) (x : En) (hl : l.length ≤ 100000) : run T S 76 [.sl (l.map encE), .agg (encE x)] = some (.int .i64 (findI (eqE x) l 0)) := by
  (refine run_fn T76 ⟨rfl, by decide, by rfl⟩ ?_; rw [start76, body76, B76]; dsimp only [ov, oo, og])
  simp (config := {decide := true, contextual := true, maxSteps := 5000000}) only [encE, enc_len, np76, res76, ↓simPre, simPost, capt_pure, argV_ro, argV_le, expo_pure, refsL_pure, isL_pure, k0_pure, k1_pure, ren0_pure, ren1_pure, sT_pure, sO_pure, bxGo_pure, resGo_pure, inst_pure, inst_rows, inst_bx, resP_go, viewT_pure, outs_skip, fzV_pure, bxL_pure, bxOf_pure, rowsOf_pure, rows1_pure, name1_pure, nameB1_pure, simR, reduceCtorEq, ↓reduceIte, splice, Nat.reduceAdd, Nat.reduceLT, Nat.reduceLeDiff, Nat.reduceEqDiff, Nat.reduceSub, noPtr, isPtr, notAgg, notIo, AV.capt, distinct, covers, O.keys, O.wr, okPair, disj, List.replicate, startOk]
  refine headC_range l.length (fun i e => e.put (some 8) (.int .i64 i)) (fun i => some (AV.int .i64 (findI (eqE x) (l.drop i) i))) rfl ?_ ?_
  · simp (config := {decide := true, contextual := true, maxSteps := 5000000}) only [enc_len, castNlt (Nat.lt_irrefl _), List.drop_length, findI, np76, res76, ↓simPre, simPost, capt_pure, argV_ro, argV_le, expo_pure, refsL_pure, isL_pure, k0_pure, k1_pure, ren0_pure, ren1_pure, sT_pure, sO_pure, bxGo_pure, resGo_pure, inst_pure, inst_rows, inst_bx, resP_go, viewT_pure, outs_skip, fzV_pure, bxL_pure, bxOf_pure, rowsOf_pure, rows1_pure, name1_pure, nameB1_pure, simR, reduceCtorEq, ↓reduceIte, splice, Nat.reduceAdd, Nat.reduceLT, Nat.reduceLeDiff, Nat.reduceEqDiff, Nat.reduceSub, noPtr, isPtr, notAgg, notIo, AV.capt, distinct, covers, O.keys, O.wr, okPair, disj, List.replicate, startOk]
  · intro i hlt ih
    rw [drop_cons ⟨bs [], 0⟩ hlt]
    have h3 := enc_get encE l i ⟨bs [], 0⟩ hlt
    simp only [encE] at h3
    simp (config := {decide := true, contextual := true, maxSteps := 5000000}) only [enc_len, castLt hlt, h3, wrap_succ hlt (by omega), findI, eqE, np76, res76, ↓simPre, simPost, capt_pure, argV_ro, argV_le, expo_pure, refsL_pure, isL_pure, k0_pure, k1_pure, ren0_pure, ren1_pure, sT_pure, sO_pure, bxGo_pure, resGo_pure, inst_pure, inst_rows, inst_bx, resP_go, viewT_pure, outs_skip, fzV_pure, bxL_pure, bxOf_pure, rowsOf_pure, rows1_pure, name1_pure, nameB1_pure, simR, reduceCtorEq, ↓reduceIte, splice, Nat.reduceAdd, Nat.reduceLT, Nat.reduceLeDiff, Nat.reduceEqDiff, Nat.reduceSub, noPtr, isPtr, notAgg, notIo, AV.capt, distinct, covers, O.keys, O.wr, okPair, disj, List.replicate, startOk]
    (split <;> rename_i hc <;> (try simp only [hc, if_true, if_false, Bool.false_eq_true]) <;> first | rfl | exact ih)
end Go.Nv
/- BY VALUE: chapter 27, the program's functions (2). -/
namespace Go.Nv
variable {S : RT}
attribute [local congr] ite_congr congr_bindOps congr_bindC congr_bindD congr_onE congr_onA congr_onBool congr_onEff congr_headC congr_ob congr_ob2 congr_onI congr_onS congr_onAg congr_onTu congr_onRow congr_obO congr_takeR congr_ldV congr_ldN congr_iaV congr_onMap congr_stP congr_appA congr_frzR congr_onFn congr_fzV congr_callM congr_callN congr_onIo congr_giveR congr_rowS congr_bxS congr_bxC congr_rnR congr_rnP congr_onFin
set_option maxRecDepth 100000
set_option maxHeartbeats 40000000
theorem run54 (l : List En) (x : En) (hl : l.length ≤ 100000) : run T S 54 [.sl (l.map encE), .agg (encE x)] = some (.bool (decide (findI (eqE x) l 0 ≥ 0))) := by
  have h := run76 (S := S) l x hl
  simp only [encE] at h
  (refine run_fn T54 ⟨rfl, by decide, by rfl⟩ ?_; rw [start54, body54, B54]; dsimp only [ov, oo, og])
  simp (config := {decide := true, contextual := true, maxSteps := 5000000}) only [encE, h, np54, res54, ↓simPre, simPost, capt_pure, argV_ro, argV_le, expo_pure, refsL_pure, isL_pure, k0_pure, k1_pure, ren0_pure, ren1_pure, sT_pure, sO_pure, bxGo_pure, resGo_pure, inst_pure, inst_rows, inst_bx, resP_go, viewT_pure, outs_skip, fzV_pure, bxL_pure, bxOf_pure, rowsOf_pure, rows1_pure, name1_pure, nameB1_pure, simR, reduceCtorEq, ↓reduceIte, splice, Nat.reduceAdd, Nat.reduceLT, Nat.reduceLeDiff, Nat.reduceEqDiff, Nat.reduceSub, noPtr, isPtr, notAgg, notIo, AV.capt, distinct, covers, O.keys, O.wr, okPair, disj, List.replicate, startOk]
theorem run13 (l : List En) : run T S 13 [.sl (l.map encE)] = some (.bool (fewE l)) := by
  (refine run_fn T13 ⟨rfl, by decide, by rfl⟩ ?_; rw [start13, body13, B13]; dsimp only [ov, oo, og])
  simp (config := {decide := true, contextual := true, maxSteps := 5000000}) only [enc_len, np13, res13, ↓simPre, simPost, capt_pure, argV_ro, argV_le, expo_pure, refsL_pure, isL_pure, k0_pure, k1_pure, ren0_pure, ren1_pure, sT_pure, sO_pure, bxGo_pure, resGo_pure, inst_pure, inst_rows, inst_bx, resP_go, viewT_pure, outs_skip, fzV_pure, bxL_pure, bxOf_pure, rowsOf_pure, rows1_pure, name1_pure, nameB1_pure, simR, reduceCtorEq, ↓reduceIte, splice, Nat.reduceAdd, Nat.reduceLT, Nat.reduceLeDiff, Nat.reduceEqDiff, Nat.reduceSub, noPtr, isPtr, notAgg, notIo, AV.capt, distinct, covers, O.keys, O.wr, okPair, disj, List.replicate, startOk]
  refine headC_range (min l.length 125) (fun i e => e.put (some 3) (.int .i64 i)) (fun i => some (AV.bool (((l.take 125).drop i).all (fun x => !decide ((x.k.size : Int) > 300)) && decide ((l.length : Int) < 125)))) rfl ?_ ?_
  · have h7 : (l.take 125).drop (min l.length 125) = [] := List.drop_eq_nil_of_le (by rw [List.length_take]; omega)
    by_cases h : l.length < 125
    · have : min l.length 125 = l.length := by omega
      rw [this] at h7
      simp (config := {decide := true, contextual := true, maxSteps := 5000000}) only [this, castNlt (Nat.lt_irrefl _), h7, enc_len, np13, res13, ↓simPre, simPost, capt_pure, argV_ro, argV_le, expo_pure, refsL_pure, isL_pure, k0_pure, k1_pure, ren0_pure, ren1_pure, sT_pure, sO_pure, bxGo_pure, resGo_pure, inst_pure, inst_rows, inst_bx, resP_go, viewT_pure, outs_skip, fzV_pure, bxL_pure, bxOf_pure, rowsOf_pure, rows1_pure, name1_pure, nameB1_pure, simR, reduceCtorEq, ↓reduceIte, splice, Nat.reduceAdd, Nat.reduceLT, Nat.reduceLeDiff, Nat.reduceEqDiff, Nat.reduceSub, noPtr, isPtr, notAgg, notIo, AV.capt, distinct, covers, O.keys, O.wr, okPair, disj, List.replicate, startOk]
    · have : min l.length 125 = 125 := by omega
      rw [this] at h7
      simp (config := {decide := true, contextual := true, maxSteps := 5000000}) only [this, h7, enc_len, ite_self, Int.lt_irrefl, np13, res13, ↓simPre, simPost, capt_pure, argV_ro, argV_le, expo_pure, refsL_pure, isL_pure, k0_pure, k1_pure, ren0_pure, ren1_pure, sT_pure, sO_pure, bxGo_pure, resGo_pure, inst_pure, inst_rows, inst_bx, resP_go, viewT_pure, outs_skip, fzV_pure, bxL_pure, bxOf_pure, rowsOf_pure, rows1_pure, name1_pure, nameB1_pure, simR, reduceCtorEq, ↓reduceIte, splice, Nat.reduceAdd, Nat.reduceLT, Nat.reduceLeDiff, Nat.reduceEqDiff, Nat.reduceSub, noPtr, isPtr, notAgg, notIo, AV.capt, distinct, covers, O.keys, O.wr, okPair, disj, List.replicate, startOk]
  · intro i hlt ih
    have h1 : i < l.length := by omega
    have h2 : ((i : Int) < 125) = True := by simp; omega
    have h3 := enc_get encE l i ⟨bs [], 0⟩ h1
    simp only [encE] at h3
    have h4 : (l.take 125).getD i ⟨bs [], 0⟩ = l.getD i ⟨bs [], 0⟩ := by
      simp only [List.getD_eq_getElem?_getD, List.getElem?_take]; rw [if_pos (by omega)]
    rw [drop_cons ⟨bs [], 0⟩ (by rw [List.length_take]; omega), h4]
    simp (config := {decide := true, contextual := true, maxSteps := 5000000}) only [enc_len, castLt h1, h2, h3, wrap_succ (show i < 125 by omega) (by omega), np13, res13, ↓simPre, simPost, capt_pure, argV_ro, argV_le, expo_pure, refsL_pure, isL_pure, k0_pure, k1_pure, ren0_pure, ren1_pure, sT_pure, sO_pure, bxGo_pure, resGo_pure, inst_pure, inst_rows, inst_bx, resP_go, viewT_pure, outs_skip, fzV_pure, bxL_pure, bxOf_pure, rowsOf_pure, rows1_pure, name1_pure, nameB1_pure, simR, reduceCtorEq, ↓reduceIte, splice, Nat.reduceAdd, Nat.reduceLT, Nat.reduceLeDiff, Nat.reduceEqDiff, Nat.reduceSub, noPtr, isPtr, notAgg, notIo, AV.capt, distinct, covers, O.keys, O.wr, okPair, disj, List.replicate, startOk]
    (split <;> rename_i hc <;> (try simp only [hc, if_true, if_false, Bool.false_eq_true]) <;> first | rfl | exact ih)
theorem run15 (l : List En) (hl : l.length ≤ 125) : run T S 15 [.sl (l.map encE)] = some (.row 47 2 (l.map encE)) := by
  (refine run_fn T15 ⟨rfl, by decide, by rfl⟩ ?_; rw [start15, body15, B15]; dsimp only [ov, oo, og])
  have h : ((l.length : Int) * 24 ≤ 140737488355328) = True := by simp; omega
  have h' : (l.length * 24 ≤ 140737488355328) = True := by simp; omega
  simp (config := {decide := true, contextual := true, maxSteps := 5000000}) only [enc_len, entLens, entPure, h, h', np15, res15, ↓simPre, simPost, capt_pure, argV_ro, argV_le, expo_pure, refsL_pure, isL_pure, k0_pure, k1_pure, ren0_pure, ren1_pure, sT_pure, sO_pure, bxGo_pure, resGo_pure, inst_pure, inst_rows, inst_bx, resP_go, viewT_pure, outs_skip, fzV_pure, bxL_pure, bxOf_pure, rowsOf_pure, rows1_pure, name1_pure, nameB1_pure, simR, reduceCtorEq, ↓reduceIte, splice, Nat.reduceAdd, Nat.reduceLT, Nat.reduceLeDiff, Nat.reduceEqDiff, Nat.reduceSub, noPtr, isPtr, notAgg, notIo, AV.capt, distinct, covers, O.keys, O.wr, okPair, disj, List.replicate, startOk]
theorem run50 : run T S 50 [] = some (.row 47 2 (letters.map encE)) := by
  (refine run_fn T50 ⟨rfl, by decide, by rfl⟩ ?_; rw [start50, body50, B50]; dsimp only [ov, oo, og])
  simp (config := {decide := true, contextual := true, maxSteps := 5000000}) only [letters, encE, np50, res50, ↓simPre, simPost, capt_pure, argV_ro, argV_le, expo_pure, refsL_pure, isL_pure, k0_pure, k1_pure, ren0_pure, ren1_pure, sT_pure, sO_pure, bxGo_pure, resGo_pure, inst_pure, inst_rows, inst_bx, resP_go, viewT_pure, outs_skip, fzV_pure, bxL_pure, bxOf_pure, rowsOf_pure, rows1_pure, name1_pure, nameB1_pure, simR, reduceCtorEq, ↓reduceIte, splice, Nat.reduceAdd, Nat.reduceLT, Nat.reduceLeDiff, Nat.reduceEqDiff, Nat.reduceSub, noPtr, isPtr, notAgg, notIo, AV.capt, distinct, covers, O.keys, O.wr, okPair, disj, List.replicate, startOk]
end Go.Nv
/- BY VALUE: chapter 27, the program's functions (3): bits. -/
namespace Go.Nv
variable {S : RT}
attribute [local congr] ite_congr congr_bindOps congr_bindC congr_bindD congr_onE congr_onA congr_onBool congr_onEff congr_headC congr_ob congr_ob2 congr_onI congr_onS congr_onAg congr_onTu congr_onRow congr_obO congr_takeR congr_ldV congr_ldN congr_iaV congr_onMap congr_stP congr_appA congr_frzR congr_onFn congr_fzV congr_callM congr_callN congr_onIo congr_giveR congr_rowS congr_bxS congr_bxC congr_rnR congr_rnP congr_onFin
set_option maxRecDepth 100000
set_option maxHeartbeats 40000000
theorem bit_and (x : Nat) (h : x < 2 ^ 64) : (BitVec.ofInt 64 (x : Int) &&& BitVec.ofInt 64 1).toNat = x % 2 := by
  rw [BitVec.toNat_and]
  have e1 : (BitVec.ofInt 64 (x : Int)).toNat = x := by rw [BitVec.ofInt_natCast, BitVec.toNat_ofNat]; exact Nat.mod_eq_of_lt h
  have e2 : (BitVec.ofInt 64 (1 : Int)).toNat = 1 := by decide
  rw [e1, e2, Nat.and_one_is_mod]
theorem byte_shr (s : ByteArray) (n m : Nat) : (byteAt s n).fdiv (2 ^ m) = (((s.data.toList.getD n 0).toNat / 2 ^ m : Nat) : Int) := by
  unfold byteAt
  rw [Int.fdiv_eq_ediv_of_nonneg _ (Int.le_of_lt (Int.pow_pos (by decide)))]
  have : s.data.getD n 0 = s.data.toList.getD n 0 := by simp [Array.getD_eq_getD_getElem?, List.getD_eq_getElem?_getD]
  rw [this]
  push_cast
  rfl
theorem bit_end (s : ByteArray) (n : Nat) : IntKind.wrap .i64 ((BitVec.ofInt 64 (((s.data.toList.getD (n / 8) 0).toNat / 2 ^ (7 - n % 8) : Nat) : Int) &&& BitVec.ofInt 64 1).toNat : Int) = (bitN s n : Int) ∧ IntKind.wrap .i64 (((s.data.toList.getD (n / 8) 0).toNat / 2 ^ (7 - n % 8) : Nat) : Int) = (((s.data.toList.getD (n / 8) 0).toNat / 2 ^ (7 - n % 8) : Nat) : Int) := by
  have hb : (s.data.toList.getD (n / 8) 0).toNat < 256 := UInt8.toNat_lt _
  have hd : (s.data.toList.getD (n / 8) 0).toNat / 2 ^ (7 - n % 8) ≤ (s.data.toList.getD (n / 8) 0).toNat := Nat.div_le_self _ _
  unfold bitN
  generalize (s.data.toList.getD (n / 8) 0).toNat / 2 ^ (7 - n % 8) = y at hd ⊢
  rw [bit_and _ (by omega)]
  exact ⟨wrap_i64 (by omega) (by omega), wrap_i64 (by omega) (by omega)⟩
theorem run117 (s : ByteArray) (n : Nat) (h : n / 8 < s.size) (hs : s.size ≤ 140737488355328) : run T S 117 [.str s, .int .i64 n] = some (.int .i64 (bitN s n)) := by
  have e1 : (n : Int).tdiv 8 = ((n / 8 : Nat) : Int) := rfl
  have e2 : (n : Int).tmod 8 = ((n % 8 : Nat) : Int) := rfl
  have e3 : IntKind.wrap .i64 ((n / 8 : Nat) : Int) = ((n / 8 : Nat) : Int) := wrap_i64 (by omega) (by omega)
  have e4 : IntKind.wrap .i64 (7 - ((n % 8 : Nat) : Int)) = ((7 - n % 8 : Nat) : Int) := by rw [wrap_i64 (by omega) (by omega)]; omega
  have e5 : (((n / 8 : Nat) : Int) < (s.size : Int)) = True := by simp; omega
  have e6 : (((7 - n % 8 : Nat) : Int) < 0) = False := by simp
  have e7 : min (7 - n % 8) (IntKind.bits .u8) = 7 - n % 8 := by show min _ 8 = _; omega
  have e8 := bit_end s n
  (refine run_fn T117 ⟨rfl, by decide, by rfl⟩ ?_; rw [start117, body117, B117]; dsimp only [ov, oo, og])
  simp (config := {decide := true, contextual := true, maxSteps := 5000000}) only [e1, e2, e3, e4, e5, e6, e7, byte_shr, np117, res117, ↓simPre, simPost, capt_pure, argV_ro, argV_le, expo_pure, refsL_pure, isL_pure, k0_pure, k1_pure, ren0_pure, ren1_pure, sT_pure, sO_pure, bxGo_pure, resGo_pure, inst_pure, inst_rows, inst_bx, resP_go, viewT_pure, outs_skip, fzV_pure, bxL_pure, bxOf_pure, rowsOf_pure, rows1_pure, name1_pure, nameB1_pure, simR, reduceCtorEq, ↓reduceIte, splice, Nat.reduceAdd, Nat.reduceLT, Nat.reduceLeDiff, Nat.reduceEqDiff, Nat.reduceSub, noPtr, isPtr, notAgg, notIo, AV.capt, distinct, covers, O.keys, O.wr, okPair, disj, List.replicate, startOk]
  rw [e8.2]
  exact congrArg (fun x => some (AV.int .i64 x)) e8.1
theorem run73 (s : ByteArray) (n : Nat) (h : n / 8 < s.size) (hs : s.size ≤ 140737488355328) : run T S 73 [.str s, .int .i64 n] = some (.int .i64 (bitN s n)) := by
  have e1 : (n : Int).tdiv 8 = ((n / 8 : Nat) : Int) := rfl
  have e2 : (n : Int).tmod 8 = ((n % 8 : Nat) : Int) := rfl
  have e3 : IntKind.wrap .i64 ((n / 8 : Nat) : Int) = ((n / 8 : Nat) : Int) := wrap_i64 (by omega) (by omega)
  have e4 : IntKind.wrap .i64 (7 - ((n % 8 : Nat) : Int)) = ((7 - n % 8 : Nat) : Int) := by rw [wrap_i64 (by omega) (by omega)]; omega
  have e5 : (((n / 8 : Nat) : Int) < (s.size : Int)) = True := by simp; omega
  have e6 : (((7 - n % 8 : Nat) : Int) < 0) = False := by simp
  have e7 : min (7 - n % 8) (IntKind.bits .i64) = 7 - n % 8 := by show min _ 64 = _; omega
  have e8 := bit_end s n
  have e9 : IntKind.wrap .i64 (byteAt s (n / 8)) = byteAt s (n / 8) := by
    have : (s.data.getD (n / 8) 0).toNat < 256 := UInt8.toNat_lt _
    unfold byteAt; exact wrap_i64 (by omega) (by omega)
  (refine run_fn T73 ⟨rfl, by decide, by rfl⟩ ?_; rw [start73, body73, B73]; dsimp only [ov, oo, og])
  simp (config := {decide := true, contextual := true, maxSteps := 5000000}) only [e1, e2, e3, e4, e5, e6, e7, e9, byte_shr, np73, res73, ↓simPre, simPost, capt_pure, argV_ro, argV_le, expo_pure, refsL_pure, isL_pure, k0_pure, k1_pure, ren0_pure, ren1_pure, sT_pure, sO_pure, bxGo_pure, resGo_pure, inst_pure, inst_rows, inst_bx, resP_go, viewT_pure, outs_skip, fzV_pure, bxL_pure, bxOf_pure, rowsOf_pure, rows1_pure, name1_pure, nameB1_pure, simR, reduceCtorEq, ↓reduceIte, splice, Nat.reduceAdd, Nat.reduceLT, Nat.reduceLeDiff, Nat.reduceEqDiff, Nat.reduceSub, noPtr, isPtr, notAgg, notIo, AV.capt, distinct, covers, O.keys, O.wr, okPair, disj, List.replicate, startOk]
  exact congrArg (fun x => some (AV.int .i64 x)) e8.1
theorem run114 (a b : ByteArray) (hab : a.size = b.size) (hs : a.size ≤ 10000000) (hm : bitsDiffer a b) : run T S 114 [.str a, .str b] = some (.int .i64 (diffN a b)) := by
  obtain ⟨m, h1, h2⟩ := hm
  (refine run_fn T114 ⟨rfl, by decide, by rfl⟩ ?_; rw [start114, body114, B114]; dsimp only [ov, oo, og])
  simp (config := {decide := true, contextual := true, maxSteps := 5000000}) only [np114, res114, ↓simPre, simPost, capt_pure, argV_ro, argV_le, expo_pure, refsL_pure, isL_pure, k0_pure, k1_pure, ren0_pure, ren1_pure, sT_pure, sO_pure, bxGo_pure, resGo_pure, inst_pure, inst_rows, inst_bx, resP_go, viewT_pure, outs_skip, fzV_pure, bxL_pure, bxOf_pure, rowsOf_pure, rows1_pure, name1_pure, nameB1_pure, simR, reduceCtorEq, ↓reduceIte, splice, Nat.reduceAdd, Nat.reduceLT, Nat.reduceLeDiff, Nat.reduceEqDiff, Nat.reduceSub, noPtr, isPtr, notAgg, notIo, AV.capt, distinct, covers, O.keys, O.wr, okPair, disj, List.replicate, startOk]
  refine headC_upd (fun i e => e.put (some 5) (.int .i64 (i : Nat))) (fun i => some (AV.int .i64 (diffFrom a b (8 * a.size - i) i))) (fun i => m - i) (fun i => i ≤ m) 0 rfl (Nat.zero_le _) ?_
  intro i hi ih
  have k1 := run117 (S := S) a i (by omega) (by omega)
  have k2 := run117 (S := S) b i (by omega) (by omega)
  have k3 := wrap_succ (n := 8 * a.size) (i := i) (by omega) (by omega)
  have k4 : 8 * a.size - i = (8 * a.size - (i + 1)) + 1 := by omega
  rw [k4]
  by_cases he : bitN a i = bitN b i
  · have hne : i ≠ m := fun hh => h2 (hh ▸ he)
    simp (config := {decide := true, contextual := true, maxSteps := 5000000}) only [k1, k2, k3, diffFrom, he, beq_self_eq_true, np114, res114, ↓simPre, simPost, capt_pure, argV_ro, argV_le, expo_pure, refsL_pure, isL_pure, k0_pure, k1_pure, ren0_pure, ren1_pure, sT_pure, sO_pure, bxGo_pure, resGo_pure, inst_pure, inst_rows, inst_bx, resP_go, viewT_pure, outs_skip, fzV_pure, bxL_pure, bxOf_pure, rowsOf_pure, rows1_pure, name1_pure, nameB1_pure, simR, reduceCtorEq, ↓reduceIte, splice, Nat.reduceAdd, Nat.reduceLT, Nat.reduceLeDiff, Nat.reduceEqDiff, Nat.reduceSub, noPtr, isPtr, notAgg, notIo, AV.capt, distinct, covers, O.keys, O.wr, okPair, disj, List.replicate, startOk]
    exact ih (i + 1) (by omega) (by omega)
  · have hb : ((bitN a i : Int) == (bitN b i : Int)) = false := by simp; omega
    simp (config := {decide := true, contextual := true, maxSteps := 5000000}) only [k1, k2, k3, diffFrom, he, hb, np114, res114, ↓simPre, simPost, capt_pure, argV_ro, argV_le, expo_pure, refsL_pure, isL_pure, k0_pure, k1_pure, ren0_pure, ren1_pure, sT_pure, sO_pure, bxGo_pure, resGo_pure, inst_pure, inst_rows, inst_bx, resP_go, viewT_pure, outs_skip, fzV_pure, bxL_pure, bxOf_pure, rowsOf_pure, rows1_pure, name1_pure, nameB1_pure, simR, reduceCtorEq, ↓reduceIte, splice, Nat.reduceAdd, Nat.reduceLT, Nat.reduceLeDiff, Nat.reduceEqDiff, Nat.reduceSub, noPtr, isPtr, notAgg, notIo, AV.capt, distinct, covers, O.keys, O.wr, okPair, disj, List.replicate, startOk]
theorem run116 (x : En) (b : Nat) (h : b / 8 < x.k.size) (hs : x.k.size ≤ 140737488355328) : run T S 116 [.agg (encE x), .el [.int .i64 b]] = some (.bool (isBit b x)) := by
  (refine run_fn T116 ⟨rfl, by decide, by rfl⟩ ?_; rw [start116, body116, B116]; dsimp only [ov, oo, og])
  simp (config := {decide := true, contextual := true, maxSteps := 5000000}) only [isBit, encE, run117 x.k b h hs, np116, res116, ↓simPre, simPost, capt_pure, argV_ro, argV_le, expo_pure, refsL_pure, isL_pure, k0_pure, k1_pure, ren0_pure, ren1_pure, sT_pure, sO_pure, bxGo_pure, resGo_pure, inst_pure, inst_rows, inst_bx, resP_go, viewT_pure, outs_skip, fzV_pure, bxL_pure, bxOf_pure, rowsOf_pure, rows1_pure, name1_pure, nameB1_pure, simR, reduceCtorEq, ↓reduceIte, splice, Nat.reduceAdd, Nat.reduceLT, Nat.reduceLeDiff, Nat.reduceEqDiff, Nat.reduceSub, noPtr, isPtr, notAgg, notIo, AV.capt, distinct, covers, O.keys, O.wr, okPair, disj, List.replicate, startOk]
theorem run115 (l : List En) (b : Nat) (h : ∀ x ∈ l, b / 8 < x.k.size ∧ x.k.size ≤ 140737488355328) (hl : l.length ≤ 140737488355328) : run T S 115 [.sl (l.map encE), .fn 116 [.el [.int .i64 b]]] = some (.int .i64 (findI (isBit b) l 0)) := by
  (refine run_fn T115 ⟨rfl, by decide, by rfl⟩ ?_; rw [start115, body115, B115]; dsimp only [ov, oo, og])
  simp (config := {decide := true, contextual := true, maxSteps := 5000000}) only [enc_len, np115, res115, ↓simPre, simPost, capt_pure, argV_ro, argV_le, expo_pure, refsL_pure, isL_pure, k0_pure, k1_pure, ren0_pure, ren1_pure, sT_pure, sO_pure, bxGo_pure, resGo_pure, inst_pure, inst_rows, inst_bx, resP_go, viewT_pure, outs_skip, fzV_pure, bxL_pure, bxOf_pure, rowsOf_pure, rows1_pure, name1_pure, nameB1_pure, simR, reduceCtorEq, ↓reduceIte, splice, Nat.reduceAdd, Nat.reduceLT, Nat.reduceLeDiff, Nat.reduceEqDiff, Nat.reduceSub, noPtr, isPtr, notAgg, notIo, AV.capt, distinct, covers, O.keys, O.wr, okPair, disj, List.replicate, startOk]
  refine headC_range l.length (fun i e => e.put (some 8) (.int .i64 i)) (fun i => some (AV.int .i64 (findI (isBit b) (l.drop i) i))) rfl ?_ ?_
  · simp (config := {decide := true, contextual := true, maxSteps := 5000000}) only [castNlt (Nat.lt_irrefl _), List.drop_length, findI, np115, res115, ↓simPre, simPost, capt_pure, argV_ro, argV_le, expo_pure, refsL_pure, isL_pure, k0_pure, k1_pure, ren0_pure, ren1_pure, sT_pure, sO_pure, bxGo_pure, resGo_pure, inst_pure, inst_rows, inst_bx, resP_go, viewT_pure, outs_skip, fzV_pure, bxL_pure, bxOf_pure, rowsOf_pure, rows1_pure, name1_pure, nameB1_pure, simR, reduceCtorEq, ↓reduceIte, splice, Nat.reduceAdd, Nat.reduceLT, Nat.reduceLeDiff, Nat.reduceEqDiff, Nat.reduceSub, noPtr, isPtr, notAgg, notIo, AV.capt, distinct, covers, O.keys, O.wr, okPair, disj, List.replicate, startOk]
  · intro i hlt ih
    have hmem : l.getD i ⟨bs [], 0⟩ ∈ l := by rw [List.getD_eq_getElem?_getD, List.getElem?_eq_getElem hlt]; exact List.getElem_mem hlt
    have k := run116 (S := S) _ b (h _ hmem).1 (h _ hmem).2
    rw [drop_cons ⟨bs [], 0⟩ hlt]
    have h3 := enc_get encE l i ⟨bs [], 0⟩ hlt
    simp only [encE] at h3 k
    simp (config := {decide := true, contextual := true, maxSteps := 5000000}) only [enc_len, castLt hlt, h3, wrap_succ hlt hl, findI, k, np115, res115, ↓simPre, simPost, capt_pure, argV_ro, argV_le, expo_pure, refsL_pure, isL_pure, k0_pure, k1_pure, ren0_pure, ren1_pure, sT_pure, sO_pure, bxGo_pure, resGo_pure, inst_pure, inst_rows, inst_bx, resP_go, viewT_pure, outs_skip, fzV_pure, bxL_pure, bxOf_pure, rowsOf_pure, rows1_pure, name1_pure, nameB1_pure, simR, reduceCtorEq, ↓reduceIte, splice, Nat.reduceAdd, Nat.reduceLT, Nat.reduceLeDiff, Nat.reduceEqDiff, Nat.reduceSub, noPtr, isPtr, notAgg, notIo, AV.capt, distinct, covers, O.keys, O.wr, okPair, disj, List.replicate, startOk]
    (split <;> rename_i hc <;> (try simp only [hc, if_true, if_false, Bool.false_eq_true]) <;> first | rfl | exact ih)
end Go.Nv
/- BY VALUE: chapter 27, the program's functions (4): the tree. -/
namespace Go.Nv
variable {S : RT}
attribute [local congr] ite_congr congr_bindOps congr_bindC congr_bindD congr_onE congr_onA congr_onBool congr_onEff congr_headC congr_ob congr_ob2 congr_onI congr_onS congr_onAg congr_onTu congr_onRow congr_obO congr_takeR congr_ldV congr_ldN congr_iaV congr_onMap congr_stP congr_appA congr_frzR congr_onFn congr_fzV congr_callM congr_callN congr_onIo congr_giveR congr_rowS congr_bxS congr_bxC congr_rnR congr_rnP congr_onFin
set_option maxRecDepth 100000
set_option maxHeartbeats 40000000
theorem run87 : ∀ (f : Nat) (l : List En) (t : List Nd) (n : Nat), l.length ≤ f → 0 < l.length → Srt l → Len n l → n ≤ 300 → t.length + 2 * l.length ≤ 100000 →
    run T S 87 [.row 97 5 (t.map encR), .sl (l.map encE)] = some (.io (.row 97 5 ((buildF f t l).map encR)) [.unk])
  | 0, l, t, n, h1, h2, _, _, _, _ => by omega
  | f + 1, l, t, n, h1, h2, h3, h4, h5, h6 => by
    have e0 := enc_get encE l 0 en0 h2
    have e1 := enc_get encE l (l.length - 1) en0 (by omega)
    have e2 : IntKind.wrap .i64 ((l.length : Int) - 1) = ((l.length - 1 : Nat) : Int) := by rw [wrap_i64 (by omega) (by omega)]; omega
    have e3 : ((0 : Int) < (l.length : Int)) = True := by simp; omega
    have e4 : (((l.length - 1 : Nat) : Int) < (l.length : Int)) = True := by simp; omega
    have e5 : ((t.length + 1) * 64 ≤ 140737488355328) = True := by simp; omega
    have z0 := len_at h4 (i := 0) h2
    have z1 := len_at h4 (i := l.length - 1) (by omega)
    simp only [encE] at e0 e1
    simp only [buildF]
    by_cases hk : ((l.getD 0 en0).k.toList == (l.getD (l.length - 1) en0).k.toList) = true
    · rw [if_pos hk]
      (refine run_fn T87 ⟨rfl, by decide, by rfl⟩ ?_; rw [start87, body87, B87]; dsimp only [ov, oo, og])
      simp (config := {decide := true, contextual := true, maxSteps := 5000000}) only [enc_len, e0, e1, e2, e3, e4, hk, np87, res87, ↓simPre, simPost, capt_pure, argV_ro, argV_le, expo_pure, refsL_pure, isL_pure, k0_pure, k1_pure, ren0_pure, ren1_pure, sT_pure, sO_pure, bxGo_pure, resGo_pure, inst_pure, inst_rows, inst_bx, resP_go, viewT_pure, outs_skip, fzV_pure, bxL_pure, bxOf_pure, rowsOf_pure, rows1_pure, name1_pure, nameB1_pure, simR, reduceCtorEq, ↓reduceIte, splice, Nat.reduceAdd, Nat.reduceLT, Nat.reduceLeDiff, Nat.reduceEqDiff, Nat.reduceSub, noPtr, isPtr, notAgg, notIo, AV.capt, distinct, covers, O.keys, O.wr, okPair, disj, List.replicate, startOk]
      refine headC_range l.length (fun i e => (e.put (some 31) (.int .i64 i)).setObj 7 ⟨0, [[], [], [], [], []], .box [.int .i64 (-1), .int .i64 0, .int .i64 0, .str (l.getD 0 en0).k, .row 3 1 (ints ((l.take i).map (·.r)))]⟩) (fun _ => some (AV.io (.row 97 5 ((t ++ ([⟨-1, 0, 0, (l.getD 0 en0).k, l.map (·.r), true⟩] : List Nd)).map encR)) [.unk])) rfl ?_ ?_
      · simp (config := {decide := true, contextual := true, maxSteps := 5000000}) only [castNlt (Nat.lt_irrefl _), List.take_length, enc_len, e5, List.map_append, encR, np87, res87, ↓simPre, simPost, capt_pure, argV_ro, argV_le, expo_pure, refsL_pure, isL_pure, k0_pure, k1_pure, ren0_pure, ren1_pure, sT_pure, sO_pure, bxGo_pure, resGo_pure, inst_pure, inst_rows, inst_bx, resP_go, viewT_pure, outs_skip, fzV_pure, bxL_pure, bxOf_pure, rowsOf_pure, rows1_pure, name1_pure, nameB1_pure, simR, reduceCtorEq, ↓reduceIte, splice, Nat.reduceAdd, Nat.reduceLT, Nat.reduceLeDiff, Nat.reduceEqDiff, Nat.reduceSub, noPtr, isPtr, notAgg, notIo, AV.capt, distinct, covers, O.keys, O.wr, okPair, disj, List.replicate, startOk]
      · intro i hlt ih
        have h9 := enc_get encE l i en0 hlt
        have ha : ((i + 1) * 8 ≤ 140737488355328) = True := by simp; omega
        have hi : min i l.length = i := by omega
        simp only [encE] at h9
        rw [take_succ en0 hlt, List.map_append, ints_app] at ih
        simp (config := {decide := true, contextual := true, maxSteps := 5000000}) only [castLt hlt, enc_len, h9, ints_len, List.length_take, List.length_map, hi, ha, wrap_succ hlt (by omega), np87, res87, ↓simPre, simPost, capt_pure, argV_ro, argV_le, expo_pure, refsL_pure, isL_pure, k0_pure, k1_pure, ren0_pure, ren1_pure, sT_pure, sO_pure, bxGo_pure, resGo_pure, inst_pure, inst_rows, inst_bx, resP_go, viewT_pure, outs_skip, fzV_pure, bxL_pure, bxOf_pure, rowsOf_pure, rows1_pure, name1_pure, nameB1_pure, simR, reduceCtorEq, ↓reduceIte, splice, Nat.reduceAdd, Nat.reduceLT, Nat.reduceLeDiff, Nat.reduceEqDiff, Nat.reduceSub, noPtr, isPtr, notAgg, notIo, AV.capt, distinct, covers, O.keys, O.wr, okPair, disj, List.replicate, startOk]
        exact ih
    · rw [if_neg hk]
      obtain ⟨c, c1, c2, c3, c4, c5, c6, c7⟩ := cut_spec h3 h4 h2 (by simpa using hk)
      have k114 := run114 (S := S) (l.getD 0 en0).k (l.getD (l.length - 1) en0).k (by omega) (by omega) c7
      have k115 := run115 (S := S) l (diffN (l.getD 0 en0).k (l.getD (l.length - 1) en0).k) (fun x hx => by rw [h4 x hx]; exact ⟨by omega, by omega⟩) (by omega)
      simp only [c3, Int.toNat_natCast] at k115 ⊢
      generalize diffN (l.getD 0 en0).k (l.getD (l.length - 1) en0).k = d at *
      have l1 : (l.take c).length = c := by rw [List.length_take]; omega
      have l2 : (l.drop c).length = l.length - c := List.length_drop
      have q1 := buildF_len f (t ++ [⟨d, t.length + 1, 0, bs [], [], false⟩]) (l.take c) n (by omega) (by omega) (srt_take h3 c) (len_take h4 c)
      have r1 := run87 f (l.take c) (t ++ [⟨d, t.length + 1, 0, bs [], [], false⟩]) n (by omega) (by omega) (srt_take h3 c) (len_take h4 c) h5 (by simp; omega)
      generalize buildF f (t ++ [⟨d, t.length + 1, 0, bs [], [], false⟩]) (l.take c) = t1 at *
      simp only [List.length_append, List.length_cons, List.length_nil, l1] at q1
      have r2 := run87 f (l.drop c) (t1.set t.length { t1.getD t.length nd0 with rt := t1.length }) n (by omega) (by omega) (srt_drop h3 c) (len_drop h4 c) h5 (by simp; omega)
      rw [List.map_set, List.map_drop] at r2
      rw [List.map_append, List.map_take] at r1
      simp only [encR, List.map_cons, List.map_nil, Bool.false_eq_true, if_false] at r1
      have e6 := enc_get encR t1 t.length nd0 (by omega)
      have e11 := enc_get? encR t1 t.length nd0 (by omega)
      simp only [encR] at e6 e11 r2
      have e7 : ((c : Int) ≤ (l.length : Int)) = True := by simp; omega
      have e8 : ((t.length : Int) < (t1.length : Int)) = True := by simp; omega
      have e9 : IntKind.wrap .i64 ((t.length : Int) + 1) = (t.length : Int) + 1 := by rw [wrap_i64 (by omega) (by omega)]
      have e10 : List.take l.length (List.map encE l) = List.map encE l := List.take_of_length_le (by simp)
      have hk' : ((l.getD 0 en0).k.toList == (l.getD (l.length - 1) en0).k.toList) = false := by simpa using hk
      (refine run_fn T87 ⟨rfl, by decide, by rfl⟩ ?_; rw [start87, body87, B87]; dsimp only [ov, oo, og])
      simp (config := {decide := true, contextual := true, maxSteps := 5000000}) only [enc_len, e0, e1, e2, e3, e4, hk', k114, k115, e5, e6, e7, e8, e9, e10, e11, r1, r2, entLens, np87, res87, ↓simPre, simPost, capt_pure, argV_ro, argV_le, expo_pure, refsL_pure, isL_pure, k0_pure, k1_pure, ren0_pure, ren1_pure, sT_pure, sO_pure, bxGo_pure, resGo_pure, inst_pure, inst_rows, inst_bx, resP_go, viewT_pure, outs_skip, fzV_pure, bxL_pure, bxOf_pure, rowsOf_pure, rows1_pure, name1_pure, nameB1_pure, simR, reduceCtorEq, ↓reduceIte, splice, Nat.reduceAdd, Nat.reduceLT, Nat.reduceLeDiff, Nat.reduceEqDiff, Nat.reduceSub, noPtr, isPtr, notAgg, notIo, AV.capt, distinct, covers, O.keys, O.wr, okPair, disj, List.replicate, startOk]
end Go.Nv
/- BY VALUE: chapter 27, the program's functions (5): trees. -/
namespace Go.Nv
variable {S : RT}
attribute [local congr] ite_congr congr_bindOps congr_bindC congr_bindD congr_onE congr_onA congr_onBool congr_onEff congr_headC congr_ob congr_ob2 congr_onI congr_onS congr_onAg congr_onTu congr_onRow congr_obO congr_takeR congr_ldV congr_ldN congr_iaV congr_onMap congr_stP congr_appA congr_frzR congr_onFn congr_fzV congr_callM congr_callN congr_onIo congr_giveR congr_rowS congr_bxS congr_bxC congr_rnR congr_rnP congr_onFin
set_option maxRecDepth 100000
set_option maxHeartbeats 40000000
def leB (a b : En) : Bool := decide (a.k.data.toList < b.k.data.toList) || (a.k.data.toList == b.k.data.toList && decide (a.r ≤ b.r))
def sortE (l : List En) : List En := l.mergeSort leB
/-- What is known by contract: comparing strings. -/
def Cmp27 (S : RT) : Prop := ∀ a b : ByteArray, S 141 [.str a, .str b] = some (.int .i64 (if a.data.toList < b.data.toList then -1 else if a = b then 0 else 1))
/-- What is known by contract. -/
structure S27 (S : RT) : Prop where
  append : ∀ l : List En, l.length ≤ 100000 → S 118 [.fn 120 [.el [.sl (l.map encE)]]] = some (.row 47 2 (l.map encE))
  sort : ∀ l : List En, 0 < l.length → l.length ≤ 100000 → S 119 [.row 47 2 (l.map encE), .fn 90 []] = some (.io (.tup []) [.row 47 2 ((sortE l).map encE)])
  compare : Cmp27 S
theorem run118 (hS : S27 S) (l : List En) (hl : l.length ≤ 100000) : run T S 118 [.fn 120 [.el [.sl (l.map encE)]]] = some (.row 47 2 (l.map encE)) := run_ext rfl (hS.append l hl)
theorem run119 (hS : S27 S) (l : List En) (h0 : 0 < l.length) (hl : l.length ≤ 100000) : run T S 119 [.row 47 2 (l.map encE), .fn 90 []] = some (.io (.tup []) [.row 47 2 ((sortE l).map encE)]) := run_ext rfl (hS.sort l h0 hl)
theorem sortE_len' (l : List En) : (sortE l).length = l.length := (List.mergeSort_perm l leB).length_eq
theorem run88 (hS : S27 S) (l : List En) (h0 : 0 < l.length) (hl : l.length ≤ 100000) : run T S 88 [.fn 120 [.el [.sl (l.map encE)]], .fn 90 []] = some (.row 47 2 ((sortE l).map encE)) := by
  have h1 := run118 hS l hl
  have h2 := run119 hS l h0 hl
  (refine run_fn T88 ⟨rfl, by decide, by rfl⟩ ?_; rw [start88, body88, B88]; dsimp only [ov, oo, og])
  have h3 : ((sortE l).length == l.length) = true := by rw [sortE_len']; simp
  simp (config := {decide := true, contextual := true, maxSteps := 5000000}) only [h1, h2, h3, enc_len, np88, res88, ↓simPre, simPost, capt_pure, argV_ro, argV_le, expo_pure, refsL_pure, isL_pure, k0_pure, k1_pure, ren0_pure, ren1_pure, sT_pure, sO_pure, bxGo_pure, resGo_pure, inst_pure, inst_rows, inst_bx, resP_go, viewT_pure, outs_skip, fzV_pure, bxL_pure, bxOf_pure, rowsOf_pure, rows1_pure, name1_pure, nameB1_pure, simR, reduceCtorEq, ↓reduceIte, splice, Nat.reduceAdd, Nat.reduceLT, Nat.reduceLeDiff, Nat.reduceEqDiff, Nat.reduceSub, noPtr, isPtr, notAgg, notIo, AV.capt, distinct, covers, O.keys, O.wr, okPair, disj, List.replicate, startOk]
theorem run89 (l : List (List AV)) : run T S 89 [.sl l] = some (.fn 120 [.el [.sl l]]) := by
  (refine run_fn T89 ⟨rfl, by decide, by rfl⟩ ?_; rw [start89, body89, B89]; dsimp only [ov, oo, og])
  simp (config := {decide := true, contextual := true, maxSteps := 5000000}) only [np89, res89, ↓simPre, simPost, capt_pure, argV_ro, argV_le, expo_pure, refsL_pure, isL_pure, k0_pure, k1_pure, ren0_pure, ren1_pure, sT_pure, sO_pure, bxGo_pure, resGo_pure, inst_pure, inst_rows, inst_bx, resP_go, viewT_pure, outs_skip, fzV_pure, bxL_pure, bxOf_pure, rowsOf_pure, rows1_pure, name1_pure, nameB1_pure, simR, reduceCtorEq, ↓reduceIte, splice, Nat.reduceAdd, Nat.reduceLT, Nat.reduceLeDiff, Nat.reduceEqDiff, Nat.reduceSub, noPtr, isPtr, notAgg, notIo, AV.capt, distinct, covers, O.keys, O.wr, okPair, disj, List.replicate, startOk]
theorem leB_trans (a b c : En) (h1 : leB a b = true) (h2 : leB b c = true) : leB a c = true := by
  simp only [leB, Bool.or_eq_true, Bool.and_eq_true, decide_eq_true_eq, beq_iff_eq] at *
  rcases h1 with h1 | ⟨h1, h1'⟩ <;> rcases h2 with h2 | ⟨h2, h2'⟩
  · exact .inl (List.lt_trans h1 h2)
  · exact .inl (by rw [← h2]; exact h1)
  · exact .inl (by rw [h1]; exact h2)
  · exact .inr ⟨h1.trans h2, Int.le_trans h1' h2'⟩
theorem leB_total (a b : En) : (leB a b || leB b a) = true := by
  simp only [leB, Bool.or_eq_true, Bool.and_eq_true, decide_eq_true_eq, beq_iff_eq]
  by_cases h1 : a.k.data.toList < b.k.data.toList
  · exact .inl (.inl h1)
  · by_cases h2 : b.k.data.toList < a.k.data.toList
    · exact .inr (.inl h2)
    · have : a.k.data.toList = b.k.data.toList := List.le_antisymm (List.not_lt.1 h2) (List.not_lt.1 h1)
      rcases Int.le_total a.r b.r with h | h
      · exact .inl (.inr ⟨this, h⟩)
      · exact .inr (.inr ⟨this.symm, h⟩)
theorem leB_leE {a b : En} (h : leB a b = true) : leE a b := by
  simp only [leB, Bool.or_eq_true, Bool.and_eq_true, decide_eq_true_eq, beq_iff_eq] at h
  rcases h with h | ⟨h, h'⟩
  · exact .inl h
  · exact .inr ⟨ba_ext h, h'⟩
theorem sortE_srt (l : List En) : Srt (sortE l) := (List.pairwise_mergeSort leB_trans leB_total l).imp fun h => leB_leE h
theorem sortE_perm (l : List En) : (sortE l).Perm l := List.mergeSort_perm l leB
theorem sortE_len (l : List En) : (sortE l).length = l.length := (sortE_perm l).length_eq
theorem sortE_Len {n : Nat} {l : List En} (h : Len n l) : Len n (sortE l) := fun x hx => h x ((sortE_perm l).mem_iff.1 hx)
def treeF (l : List En) : List Nd := if l.length = 0 then [] else buildF l.length [] (sortE l)
theorem run55 (hS : S27 S) (l : List En) (n : Nat) (hl : l.length ≤ 1000) (hn : Len n l) (h3 : n ≤ 300) : run T S 55 [.sl (l.map encE)] = some (.row 97 5 ((treeF l).map encR)) := by
  by_cases h : l.length = 0
  · have : l = [] := List.length_eq_zero_iff.1 h
    subst this
    (refine run_fn T55 ⟨rfl, by decide, by rfl⟩ ?_; rw [start55, body55, B55]; dsimp only [ov, oo, og])
    simp (config := {decide := true, contextual := true, maxSteps := 5000000}) only [treeF, np55, res55, ↓simPre, simPost, capt_pure, argV_ro, argV_le, expo_pure, refsL_pure, isL_pure, k0_pure, k1_pure, ren0_pure, ren1_pure, sT_pure, sO_pure, bxGo_pure, resGo_pure, inst_pure, inst_rows, inst_bx, resP_go, viewT_pure, outs_skip, fzV_pure, bxL_pure, bxOf_pure, rowsOf_pure, rows1_pure, name1_pure, nameB1_pure, simR, reduceCtorEq, ↓reduceIte, splice, Nat.reduceAdd, Nat.reduceLT, Nat.reduceLeDiff, Nat.reduceEqDiff, Nat.reduceSub, noPtr, isPtr, notAgg, notIo, AV.capt, distinct, covers, O.keys, O.wr, okPair, disj, List.replicate, startOk]
  · have h8 := run88 hS l (by omega) (by omega)
    have hb : ((l.length : Int) == 0) = false := beq_eq_false_iff_ne.2 (by omega)
    have h9 := run87 (S := S) l.length (sortE l) [] n (by rw [sortE_len]; exact Nat.le_refl _) (by rw [sortE_len]; omega) (sortE_srt l) (sortE_Len hn) h3 (by rw [sortE_len]; simp; omega)
    simp only [List.map_nil] at h9
    have h10 : treeF l = buildF l.length [] (sortE l) := by simp only [treeF, if_neg h]
    (refine run_fn T55 ⟨rfl, by decide, by rfl⟩ ?_; rw [start55, body55, B55]; dsimp only [ov, oo, og])
    simp (config := {decide := true, contextual := true, maxSteps := 5000000}) only [enc_len, hb, run89, h8, h9, h10, entPure, np55, res55, ↓simPre, simPost, capt_pure, argV_ro, argV_le, expo_pure, refsL_pure, isL_pure, k0_pure, k1_pure, ren0_pure, ren1_pure, sT_pure, sO_pure, bxGo_pure, resGo_pure, inst_pure, inst_rows, inst_bx, resP_go, viewT_pure, outs_skip, fzV_pure, bxL_pure, bxOf_pure, rowsOf_pure, rows1_pure, name1_pure, nameB1_pure, simR, reduceCtorEq, ↓reduceIte, splice, Nat.reduceAdd, Nat.reduceLT, Nat.reduceLeDiff, Nat.reduceEqDiff, Nat.reduceSub, noPtr, isPtr, notAgg, notIo, AV.capt, distinct, covers, O.keys, O.wr, okPair, disj, List.replicate, startOk]
end Go.Nv
/- BY VALUE: chapter 27, the program's functions (6): TreeOf. -/
namespace Go.Nv
variable {S : RT}
attribute [local congr] ite_congr congr_bindOps congr_bindC congr_bindD congr_onE congr_onA congr_onBool congr_onEff congr_headC congr_ob congr_ob2 congr_onI congr_onS congr_onAg congr_onTu congr_onRow congr_obO congr_takeR congr_ldV congr_ldN congr_iaV congr_onMap congr_stP congr_appA congr_frzR congr_onFn congr_fzV congr_callM congr_callN congr_onIo congr_giveR congr_rowS congr_bxS congr_bxC congr_rnR congr_rnP congr_onFin
set_option maxRecDepth 100000
set_option maxHeartbeats 40000000
def errAt (l : List En) (i : Nat) : Int := first [entryErr (l.getD i en0), cond (((l.getD i en0).k.size : Int) != ((l.getD 0 en0).k.size : Int)) 18, cond (decide (findI (eqE (l.getD i en0)) (l.take i) 0 ≥ 0)) 13]
/-- The first index from one on at which there is an error, and the error. -/
def firstBad (f : Nat → Int) : Nat → Nat → Nat × Int
  | 0, _ => (0, 0)
  | n + 1, i => if (f i != 0) = true then (i, f i) else firstBad f n (i + 1)
def listErr (l : List En) : Nat × Int := if decide ((l.length : Int) > 120) = true then (0, 2) else firstBad (errAt l) l.length 0
def treeOf (l : List En) (p : Nat × Int) : AV := .tup [.row 97 5 (if (p.2 != 0) = true then [] else (treeF l).map encR), .int .i64 p.1, .int .i64 p.2]
theorem errAt_len {l : List En} (h : ∀ j, j < l.length → errAt l j = 0) : Len (l.getD 0 en0).k.size l ∧ (0 < l.length → (l.getD 0 en0).k.size ≤ 256) := by
  have hz : ∀ a b c : Int, first [a, b, c] = 0 → a = 0 ∧ b = 0 ∧ c = 0 := fun a b c hh => by
    simp only [first] at hh
    split at hh
    · rename_i h1; simp at h1; exact absurd hh h1
    · rename_i h1
      split at hh
      · rename_i h2; simp at h2; exact absurd hh h2
      · rename_i h2
        split at hh
        · rename_i h3; simp at h3; exact absurd hh h3
        · rename_i h3
          simp at h1 h2 h3; exact ⟨h1, h2, h3⟩
  have hz2 : ∀ a b : Int, first [a, b] = 0 → a = 0 ∧ b = 0 := fun a b hh => by
    have := hz a b 0 (by simp only [first] at hh ⊢; split <;> rename_i h1 <;> simp_all)
    exact ⟨this.1, this.2.1⟩
  refine ⟨fun x hx => ?_, fun hl => ?_⟩
  · obtain ⟨j, hj, rfl⟩ := List.getElem_of_mem hx
    have := (hz _ _ _ (h j hj)).2.1
    simp only [List.getD_eq_getElem?_getD, List.getElem?_eq_getElem hj, Option.getD_some, cond] at this
    split at this
    · cases this
    · rename_i h1
      simp at h1
      rw [List.getD_eq_getElem?_getD]; omega
  · have h1 := (hz _ _ _ (h 0 hl)).1
    have h2 := (hz2 _ _ h1).1
    simp only [cond] at h2
    split at h2
    · cases h2
    · rename_i h3
      simp [keyErr] at h3
      rw [List.getD_eq_getElem?_getD]; omega
theorem run14 (hS : S27 S) (l : List En) (hl : l.length ≤ 100000) : run T S 14 [.sl (l.map encE)] = some (treeOf l (listErr l)) := by
  by_cases h : (l.length : Int) > 120
  · have h' : decide ((l.length : Int) > 120) = true := by simpa using h
    unfold listErr treeOf
    rw [if_pos h']
    (refine run_fn T14 ⟨rfl, by decide, by rfl⟩ ?_; rw [start14, body14, B14]; dsimp only [ov, oo, og])
    simp (config := {decide := true, contextual := true, maxSteps := 5000000}) only [enc_len, h', np14, res14, ↓simPre, simPost, capt_pure, argV_ro, argV_le, expo_pure, refsL_pure, isL_pure, k0_pure, k1_pure, ren0_pure, ren1_pure, sT_pure, sO_pure, bxGo_pure, resGo_pure, inst_pure, inst_rows, inst_bx, resP_go, viewT_pure, outs_skip, fzV_pure, bxL_pure, bxOf_pure, rowsOf_pure, rows1_pure, name1_pure, nameB1_pure, simR, reduceCtorEq, ↓reduceIte, splice, Nat.reduceAdd, Nat.reduceLT, Nat.reduceLeDiff, Nat.reduceEqDiff, Nat.reduceSub, noPtr, isPtr, notAgg, notIo, AV.capt, distinct, covers, O.keys, O.wr, okPair, disj, List.replicate, startOk]
  · have h' : decide ((l.length : Int) > 120) = false := by simpa using h
    unfold listErr
    rw [if_neg (by simpa using h)]
    (refine run_fn T14 ⟨rfl, by decide, by rfl⟩ ?_; rw [start14, body14, B14]; dsimp only [ov, oo, og])
    simp (config := {decide := true, contextual := true, maxSteps := 5000000}) only [enc_len, h', np14, res14, ↓simPre, simPost, capt_pure, argV_ro, argV_le, expo_pure, refsL_pure, isL_pure, k0_pure, k1_pure, ren0_pure, ren1_pure, sT_pure, sO_pure, bxGo_pure, resGo_pure, inst_pure, inst_rows, inst_bx, resP_go, viewT_pure, outs_skip, fzV_pure, bxL_pure, bxOf_pure, rowsOf_pure, rows1_pure, name1_pure, nameB1_pure, simR, reduceCtorEq, ↓reduceIte, splice, Nat.reduceAdd, Nat.reduceLT, Nat.reduceLeDiff, Nat.reduceEqDiff, Nat.reduceSub, noPtr, isPtr, notAgg, notIo, AV.capt, distinct, covers, O.keys, O.wr, okPair, disj, List.replicate, startOk]
    refine headC_upd (fun i e => e.put (some 13) (.int .i64 (i : Nat))) (fun i => some (treeOf l (firstBad (errAt l) (l.length - i) i))) (fun i => l.length - i) (fun i => i ≤ l.length ∧ ∀ j, j < i → errAt l j = 0) 0 rfl ⟨Nat.zero_le _, fun j hj => by omega⟩ ?_
    rintro i ⟨hi, hz⟩ ih
    by_cases hlt : i < l.length
    · have h9 := enc_get encE l i en0 hlt
      have h0 := enc_get encE l 0 en0 (by omega)
      have h54 := run54 (S := S) (l.take i) (l.getD i en0) (by rw [List.length_take]; omega)
      have h52 := run52 (S := S) (l.getD i en0)
      have e3 : ((0 : Int) < (l.length : Int)) = True := by simp; omega
      have e4 : ((i : Int) ≤ (l.length : Int)) = True := by simp; omega
      have e5 : (((l.getD i en0).k.size : Int) != ((l.getD 0 en0).k.size : Int)) = (((l.getD i en0).k.size : Int) != ((l.getD 0 en0).k.size : Int)) := rfl
      simp only [encE, List.map_take] at h9 h0 h54 h52
      have hn : l.length - i = (l.length - (i + 1)) + 1 := by omega
      rw [hn, firstBad]
      by_cases he : errAt l i = 0
      · have he' : first [entryErr (l.getD i en0), cond (((l.getD i en0).k.size : Int) != ((l.getD 0 en0).k.size : Int)) 18, cond (decide (findI (eqE (l.getD i en0)) (l.take i) 0 ≥ 0)) 13] = 0 := he
        simp (config := {decide := true, contextual := true, maxSteps := 5000000}) only [enc_len, castLt hlt, h9, h0, e3, e4, h52, h54, run53, run51_3, entLens, wrap_succ hlt (by omega), he', he, bne_self_eq_false, np14, res14, ↓simPre, simPost, capt_pure, argV_ro, argV_le, expo_pure, refsL_pure, isL_pure, k0_pure, k1_pure, ren0_pure, ren1_pure, sT_pure, sO_pure, bxGo_pure, resGo_pure, inst_pure, inst_rows, inst_bx, resP_go, viewT_pure, outs_skip, fzV_pure, bxL_pure, bxOf_pure, rowsOf_pure, rows1_pure, name1_pure, nameB1_pure, simR, reduceCtorEq, ↓reduceIte, splice, Nat.reduceAdd, Nat.reduceLT, Nat.reduceLeDiff, Nat.reduceEqDiff, Nat.reduceSub, noPtr, isPtr, notAgg, notIo, AV.capt, distinct, covers, O.keys, O.wr, okPair, disj, List.replicate, startOk]
        exact ih (i + 1) ⟨by omega, fun j hj => by rcases Nat.lt_succ_iff_lt_or_eq.1 hj with hj | rfl; exact hz j hj; exact he⟩ (by omega)
      · have he' : (errAt l i != 0) = true := by simpa using he
        have he2 : (first [entryErr (l.getD i en0), cond (((l.getD i en0).k.size : Int) != ((l.getD 0 en0).k.size : Int)) 18, cond (decide (findI (eqE (l.getD i en0)) (l.take i) 0 ≥ 0)) 13] != 0) = true := he'
        have he3 : errAt l i = first [entryErr (l.getD i en0), cond (((l.getD i en0).k.size : Int) != ((l.getD 0 en0).k.size : Int)) 18, cond (decide (findI (eqE (l.getD i en0)) (l.take i) 0 ≥ 0)) 13] := rfl
        simp (config := {decide := true, contextual := true, maxSteps := 5000000}) only [enc_len, castLt hlt, h9, h0, e3, e4, h52, h54, run53, run51_3, entLens, he2, he3, treeOf, np14, res14, ↓simPre, simPost, capt_pure, argV_ro, argV_le, expo_pure, refsL_pure, isL_pure, k0_pure, k1_pure, ren0_pure, ren1_pure, sT_pure, sO_pure, bxGo_pure, resGo_pure, inst_pure, inst_rows, inst_bx, resP_go, viewT_pure, outs_skip, fzV_pure, bxL_pure, bxOf_pure, rowsOf_pure, rows1_pure, name1_pure, nameB1_pure, simR, reduceCtorEq, ↓reduceIte, splice, Nat.reduceAdd, Nat.reduceLT, Nat.reduceLeDiff, Nat.reduceEqDiff, Nat.reduceSub, noPtr, isPtr, notAgg, notIo, AV.capt, distinct, covers, O.keys, O.wr, okPair, disj, List.replicate, startOk]
    · have hie : i = l.length := by omega
      subst hie
      obtain ⟨k1, k2⟩ := errAt_len hz
      have h55 := run55 hS l (l.getD 0 en0).k.size (by omega) k1 (by
        rcases Nat.eq_zero_or_pos l.length with hh | hh
        · have : l = [] := List.length_eq_zero_iff.1 hh
          subst this; exact Nat.zero_le _
        · have := k2 hh; omega)
      have hs : l.length - l.length = 0 := Nat.sub_self _
      simp (config := {decide := true, contextual := true, maxSteps := 5000000}) only [enc_len, castNlt (Nat.lt_irrefl _), h55, hs, firstBad, treeOf, bne_self_eq_false, np14, res14, ↓simPre, simPost, capt_pure, argV_ro, argV_le, expo_pure, refsL_pure, isL_pure, k0_pure, k1_pure, ren0_pure, ren1_pure, sT_pure, sO_pure, bxGo_pure, resGo_pure, inst_pure, inst_rows, inst_bx, resP_go, viewT_pure, outs_skip, fzV_pure, bxL_pure, bxOf_pure, rowsOf_pure, rows1_pure, name1_pure, nameB1_pure, simR, reduceCtorEq, ↓reduceIte, splice, Nat.reduceAdd, Nat.reduceLT, Nat.reduceLeDiff, Nat.reduceEqDiff, Nat.reduceSub, noPtr, isPtr, notAgg, notIo, AV.capt, distinct, covers, O.keys, O.wr, okPair, disj, List.replicate, startOk]
end Go.Nv
/- Chapter 27, plain facts: the tree of the law's example. -/
namespace Go.Nv
theorem letters_sorted : sortE letters = letters := List.mergeSort_of_pairwise (by decide +kernel)
theorem letters_tree : treeF letters = [⟨6, 1, 2, bs [], [], false⟩, ⟨-1, 0, 0, bs [65], [1], true⟩, ⟨-1, 0, 0, bs [67], [2], true⟩] := by
  unfold treeF
  rw [letters_sorted]
  rw [if_neg (by decide)]
  simp only [show letters.length = 2 from rfl, buildF, ByteArray.toList_eq]
  rfl
end Go.Nv
/- BY VALUE: chapter 27, functions (7): awake. -/
namespace Go.Nv
variable {S : RT}
attribute [local congr] ite_congr congr_bindOps congr_bindC congr_bindD congr_onE congr_onA congr_onBool congr_onEff congr_headC congr_ob congr_ob2 congr_onI congr_onS congr_onAg congr_onTu congr_onRow congr_obO congr_takeR congr_ldV congr_ldN congr_iaV congr_onMap congr_stP congr_appA congr_frzR congr_onFn congr_fzV congr_callM congr_callN congr_onIo congr_giveR congr_rowS congr_bxS congr_bxC congr_rnR congr_rnP congr_onFin
set_option maxRecDepth 100000
set_option maxHeartbeats 40000000
theorem run12 (hS : S27 S) : run T S 12 [] = some (.bool true) := by
  have h := run14 hS letters (by decide)
  have e1 : listErr letters = (0, 0) := by
    simp only [listErr, errAt, letters, entryErr, keyErr, eqE, findI, ByteArray.toList_eq, firstBad, List.length_cons, List.length_nil, List.take_succ_cons, List.take_zero]
    rfl
  have k1 : ((bs [65]).toList == (bs [65]).toList) = true := by simp
  rw [e1] at h
  unfold treeOf at h
  rw [letters_tree] at h
  simp only [encR, letters, encE, List.map_cons, List.map_nil, ints, bne_self_eq_false, Bool.false_eq_true, if_false, if_true] at h
  (refine run_fn T12 ⟨rfl, by decide, by rfl⟩ ?_; rw [start12, body12, B12]; dsimp only [ov, oo, og])
  simp (config := {decide := true, contextual := true, maxSteps := 5000000}) only [run50, letters, encE, h, k1, np12, res12, ↓simPre, simPost, capt_pure, argV_ro, argV_le, expo_pure, refsL_pure, isL_pure, k0_pure, k1_pure, ren0_pure, ren1_pure, sT_pure, sO_pure, bxGo_pure, resGo_pure, inst_pure, inst_rows, inst_bx, resP_go, viewT_pure, outs_skip, fzV_pure, bxL_pure, bxOf_pure, rowsOf_pure, rows1_pure, name1_pure, nameB1_pure, simR, reduceCtorEq, ↓reduceIte, splice, Nat.reduceAdd, Nat.reduceLT, Nat.reduceLeDiff, Nat.reduceEqDiff, Nat.reduceSub, noPtr, isPtr, notAgg, notIo, AV.capt, distinct, covers, O.keys, O.wr, okPair, disj, List.replicate, startOk]
end Go.Nv
/- BY VALUE: chapter 27, the reference (1): small functions. -/
namespace Go.Nv
variable {S : RT}
attribute [local congr] ite_congr congr_bindOps congr_bindC congr_bindD congr_onE congr_onA congr_onBool congr_onEff congr_headC congr_ob congr_ob2 congr_onI congr_onS congr_onAg congr_onTu congr_onRow congr_obO congr_takeR congr_ldV congr_ldN congr_iaV congr_onMap congr_stP congr_appA congr_frzR congr_onFn congr_fzV congr_callM congr_callN congr_onIo congr_giveR congr_rowS congr_bxS congr_bxC congr_rnR congr_rnP congr_onFin
set_option maxRecDepth 100000
set_option maxHeartbeats 40000000
def within (n a b : Int) : Bool := decide (a ≤ n) && decide (n ≤ b)
def count (b : Bool) : Int := if b = true then 1 else 0
theorem run29 (n a b : Int) : run T S 29 [.int .i64 n, .int .i64 a, .int .i64 b] = some (.bool (within n a b)) := by
  by_cases h : a ≤ n
  · have h' : (a ≤ n) = True := eq_true h
    (refine run_fn T29 ⟨rfl, by decide, by rfl⟩ ?_; rw [start29, body29, B29]; dsimp only [ov, oo, og])
    simp (config := {decide := true, contextual := true, maxSteps := 5000000}) only [within, h', np29, res29, ↓simPre, simPost, capt_pure, argV_ro, argV_le, expo_pure, refsL_pure, isL_pure, k0_pure, k1_pure, ren0_pure, ren1_pure, sT_pure, sO_pure, bxGo_pure, resGo_pure, inst_pure, inst_rows, inst_bx, resP_go, viewT_pure, outs_skip, fzV_pure, bxL_pure, bxOf_pure, rowsOf_pure, rows1_pure, name1_pure, nameB1_pure, simR, reduceCtorEq, ↓reduceIte, splice, Nat.reduceAdd, Nat.reduceLT, Nat.reduceLeDiff, Nat.reduceEqDiff, Nat.reduceSub, noPtr, isPtr, notAgg, notIo, AV.capt, distinct, covers, O.keys, O.wr, okPair, disj, List.replicate, startOk]
  · have h' : (a ≤ n) = False := eq_false h
    (refine run_fn T29 ⟨rfl, by decide, by rfl⟩ ?_; rw [start29, body29, B29]; dsimp only [ov, oo, og])
    simp (config := {decide := true, contextual := true, maxSteps := 5000000}) only [within, h', np29, res29, ↓simPre, simPost, capt_pure, argV_ro, argV_le, expo_pure, refsL_pure, isL_pure, k0_pure, k1_pure, ren0_pure, ren1_pure, sT_pure, sO_pure, bxGo_pure, resGo_pure, inst_pure, inst_rows, inst_bx, resP_go, viewT_pure, outs_skip, fzV_pure, bxL_pure, bxOf_pure, rowsOf_pure, rows1_pure, name1_pure, nameB1_pure, simR, reduceCtorEq, ↓reduceIte, splice, Nat.reduceAdd, Nat.reduceLT, Nat.reduceLeDiff, Nat.reduceEqDiff, Nat.reduceSub, noPtr, isPtr, notAgg, notIo, AV.capt, distinct, covers, O.keys, O.wr, okPair, disj, List.replicate, startOk]
theorem run34 (b : Bool) : run T S 34 [.bool b] = some (.int .i64 (count b)) := by
  cases b
  · (refine run_fn T34 ⟨rfl, by decide, by rfl⟩ ?_; rw [start34, body34, B34]; dsimp only [ov, oo, og])
    simp (config := {decide := true, contextual := true, maxSteps := 5000000}) only [count, np34, res34, ↓simPre, simPost, capt_pure, argV_ro, argV_le, expo_pure, refsL_pure, isL_pure, k0_pure, k1_pure, ren0_pure, ren1_pure, sT_pure, sO_pure, bxGo_pure, resGo_pure, inst_pure, inst_rows, inst_bx, resP_go, viewT_pure, outs_skip, fzV_pure, bxL_pure, bxOf_pure, rowsOf_pure, rows1_pure, name1_pure, nameB1_pure, simR, reduceCtorEq, ↓reduceIte, splice, Nat.reduceAdd, Nat.reduceLT, Nat.reduceLeDiff, Nat.reduceEqDiff, Nat.reduceSub, noPtr, isPtr, notAgg, notIo, AV.capt, distinct, covers, O.keys, O.wr, okPair, disj, List.replicate, startOk]
  · (refine run_fn T34 ⟨rfl, by decide, by rfl⟩ ?_; rw [start34, body34, B34]; dsimp only [ov, oo, og])
    simp (config := {decide := true, contextual := true, maxSteps := 5000000}) only [count, np34, res34, ↓simPre, simPost, capt_pure, argV_ro, argV_le, expo_pure, refsL_pure, isL_pure, k0_pure, k1_pure, ren0_pure, ren1_pure, sT_pure, sO_pure, bxGo_pure, resGo_pure, inst_pure, inst_rows, inst_bx, resP_go, viewT_pure, outs_skip, fzV_pure, bxL_pure, bxOf_pure, rowsOf_pure, rows1_pure, name1_pure, nameB1_pure, simR, reduceCtorEq, ↓reduceIte, splice, Nat.reduceAdd, Nat.reduceLT, Nat.reduceLeDiff, Nat.reduceEqDiff, Nat.reduceSub, noPtr, isPtr, notAgg, notIo, AV.capt, distinct, covers, O.keys, O.wr, okPair, disj, List.replicate, startOk]
/-- The reference's error of an entry. -/
def rEntryErr (x : En) : Int := if (!within (x.k.size : Int) 1 256) = true then 18 else IntKind.wrap .i64 (3 * count (!within x.r 1 60))
theorem run56 (x : En) : run T S 56 [.agg (encE x)] = some (.int .i64 (rEntryErr x)) := by
  by_cases h : within (x.k.size : Int) 1 256 = true
  · (refine run_fn T56 ⟨rfl, by decide, by rfl⟩ ?_; rw [start56, body56, B56]; dsimp only [ov, oo, og])
    simp (config := {decide := true, contextual := true, maxSteps := 5000000}) only [encE, run29, run34, rEntryErr, h, np56, res56, ↓simPre, simPost, capt_pure, argV_ro, argV_le, expo_pure, refsL_pure, isL_pure, k0_pure, k1_pure, ren0_pure, ren1_pure, sT_pure, sO_pure, bxGo_pure, resGo_pure, inst_pure, inst_rows, inst_bx, resP_go, viewT_pure, outs_skip, fzV_pure, bxL_pure, bxOf_pure, rowsOf_pure, rows1_pure, name1_pure, nameB1_pure, simR, reduceCtorEq, ↓reduceIte, splice, Nat.reduceAdd, Nat.reduceLT, Nat.reduceLeDiff, Nat.reduceEqDiff, Nat.reduceSub, noPtr, isPtr, notAgg, notIo, AV.capt, distinct, covers, O.keys, O.wr, okPair, disj, List.replicate, startOk]
  · have h' : within (x.k.size : Int) 1 256 = false := by simpa using h
    (refine run_fn T56 ⟨rfl, by decide, by rfl⟩ ?_; rw [start56, body56, B56]; dsimp only [ov, oo, og])
    simp (config := {decide := true, contextual := true, maxSteps := 5000000}) only [encE, run29, run34, rEntryErr, h', np56, res56, ↓simPre, simPost, capt_pure, argV_ro, argV_le, expo_pure, refsL_pure, isL_pure, k0_pure, k1_pure, ren0_pure, ren1_pure, sT_pure, sO_pure, bxGo_pure, resGo_pure, inst_pure, inst_rows, inst_bx, resP_go, viewT_pure, outs_skip, fzV_pure, bxL_pure, bxOf_pure, rowsOf_pure, rows1_pure, name1_pure, nameB1_pure, simR, reduceCtorEq, ↓reduceIte, splice, Nat.reduceAdd, Nat.reduceLT, Nat.reduceLeDiff, Nat.reduceEqDiff, Nat.reduceSub, noPtr, isPtr, notAgg, notIo, AV.capt, distinct, covers, O.keys, O.wr, okPair, disj, List.replicate, startOk]
def lessE (a b : En) : Bool := Op.bytesLess a.k.toList b.k.toList || (a.k.toList == b.k.toList && decide (a.r < b.r))
theorem run91 (a b : En) : run T S 91 [.agg (encE a), .agg (encE b)] = some (.bool (lessE a b)) := by
  (refine run_fn T91 ⟨rfl, by decide, by rfl⟩ ?_; rw [start91, body91, B91]; dsimp only [ov, oo, og])
  simp (config := {decide := true, contextual := true, maxSteps := 5000000}) only [encE, lessE, np91, res91, ↓simPre, simPost, capt_pure, argV_ro, argV_le, expo_pure, refsL_pure, isL_pure, k0_pure, k1_pure, ren0_pure, ren1_pure, sT_pure, sO_pure, bxGo_pure, resGo_pure, inst_pure, inst_rows, inst_bx, resP_go, viewT_pure, outs_skip, fzV_pure, bxL_pure, bxOf_pure, rowsOf_pure, rows1_pure, name1_pure, nameB1_pure, simR, reduceCtorEq, ↓reduceIte, splice, Nat.reduceAdd, Nat.reduceLT, Nat.reduceLeDiff, Nat.reduceEqDiff, Nat.reduceSub, noPtr, isPtr, notAgg, notIo, AV.capt, distinct, covers, O.keys, O.wr, okPair, disj, List.replicate, startOk]
theorem run37 (a b : List Int) (ha : a.length ≤ 100000) : run T S 37 [.sl (ints a), .sl (ints b)] = some (.bool (a == b)) := by
  by_cases h : a.length = b.length
  · (refine run_fn T37 ⟨rfl, by decide, by rfl⟩ ?_; rw [start37, body37, B37]; dsimp only [ov, oo, og])
    simp (config := {decide := true, contextual := true, maxSteps := 5000000}) only [ints_len, h, bne_self_eq_false, np37, res37, ↓simPre, simPost, capt_pure, argV_ro, argV_le, expo_pure, refsL_pure, isL_pure, k0_pure, k1_pure, ren0_pure, ren1_pure, sT_pure, sO_pure, bxGo_pure, resGo_pure, inst_pure, inst_rows, inst_bx, resP_go, viewT_pure, outs_skip, fzV_pure, bxL_pure, bxOf_pure, rowsOf_pure, rows1_pure, name1_pure, nameB1_pure, simR, reduceCtorEq, ↓reduceIte, splice, Nat.reduceAdd, Nat.reduceLT, Nat.reduceLeDiff, Nat.reduceEqDiff, Nat.reduceSub, noPtr, isPtr, notAgg, notIo, AV.capt, distinct, covers, O.keys, O.wr, okPair, disj, List.replicate, startOk]
    refine headC_range a.length (fun i e => e.put (some 5) (.int .i64 i)) (fun i => some (AV.bool (a.drop i == b.drop i))) rfl ?_ ?_
    · have hz : (b.drop b.length == b.drop b.length) = true := by simp
      have hy : (a.drop b.length == b.drop b.length) = true := by rw [← h, List.drop_length, h, List.drop_length]; rfl
      simp (config := {decide := true, contextual := true, maxSteps := 5000000}) only [ints_len, h, castNlt (Nat.lt_irrefl _), hy, np37, res37, ↓simPre, simPost, capt_pure, argV_ro, argV_le, expo_pure, refsL_pure, isL_pure, k0_pure, k1_pure, ren0_pure, ren1_pure, sT_pure, sO_pure, bxGo_pure, resGo_pure, inst_pure, inst_rows, inst_bx, resP_go, viewT_pure, outs_skip, fzV_pure, bxL_pure, bxOf_pure, rowsOf_pure, rows1_pure, name1_pure, nameB1_pure, simR, reduceCtorEq, ↓reduceIte, splice, Nat.reduceAdd, Nat.reduceLT, Nat.reduceLeDiff, Nat.reduceEqDiff, Nat.reduceSub, noPtr, isPtr, notAgg, notIo, AV.capt, distinct, covers, O.keys, O.wr, okPair, disj, List.replicate, startOk]
    · intro i hlt ih
      have hb : i < b.length := by omega
      rw [drop_cons 0 hlt, drop_cons 0 hb]
      cases h9 : (a.getD i 0 == b.getD i 0)
      · simp (config := {decide := true, contextual := true, maxSteps := 5000000}) only [ints_len, castLt hlt, castLt hb, ints_get a i hlt, ints_get b i hb, wrap_succ hlt (by omega), List.cons_beq_cons, bne, h9, np37, res37, ↓simPre, simPost, capt_pure, argV_ro, argV_le, expo_pure, refsL_pure, isL_pure, k0_pure, k1_pure, ren0_pure, ren1_pure, sT_pure, sO_pure, bxGo_pure, resGo_pure, inst_pure, inst_rows, inst_bx, resP_go, viewT_pure, outs_skip, fzV_pure, bxL_pure, bxOf_pure, rowsOf_pure, rows1_pure, name1_pure, nameB1_pure, simR, reduceCtorEq, ↓reduceIte, splice, Nat.reduceAdd, Nat.reduceLT, Nat.reduceLeDiff, Nat.reduceEqDiff, Nat.reduceSub, noPtr, isPtr, notAgg, notIo, AV.capt, distinct, covers, O.keys, O.wr, okPair, disj, List.replicate, startOk]
      · simp (config := {decide := true, contextual := true, maxSteps := 5000000}) only [ints_len, castLt hlt, castLt hb, ints_get a i hlt, ints_get b i hb, wrap_succ hlt (by omega), List.cons_beq_cons, bne, h9, np37, res37, ↓simPre, simPost, capt_pure, argV_ro, argV_le, expo_pure, refsL_pure, isL_pure, k0_pure, k1_pure, ren0_pure, ren1_pure, sT_pure, sO_pure, bxGo_pure, resGo_pure, inst_pure, inst_rows, inst_bx, resP_go, viewT_pure, outs_skip, fzV_pure, bxL_pure, bxOf_pure, rowsOf_pure, rows1_pure, name1_pure, nameB1_pure, simR, reduceCtorEq, ↓reduceIte, splice, Nat.reduceAdd, Nat.reduceLT, Nat.reduceLeDiff, Nat.reduceEqDiff, Nat.reduceSub, noPtr, isPtr, notAgg, notIo, AV.capt, distinct, covers, O.keys, O.wr, okPair, disj, List.replicate, startOk]
        exact ih
  · have h' : ((a.length : Int) != (b.length : Int)) = true := by simpa [bne_iff_ne] using (fun hh => h (by omega))
    have h2 : (a == b) = false := beq_eq_false_iff_ne.2 (fun hh => h (by rw [hh]))
    rw [h2]
    (refine run_fn T37 ⟨rfl, by decide, by rfl⟩ ?_; rw [start37, body37, B37]; dsimp only [ov, oo, og])
    simp (config := {decide := true, contextual := true, maxSteps := 5000000}) only [ints_len, h', np37, res37, ↓simPre, simPost, capt_pure, argV_ro, argV_le, expo_pure, refsL_pure, isL_pure, k0_pure, k1_pure, ren0_pure, ren1_pure, sT_pure, sO_pure, bxGo_pure, resGo_pure, inst_pure, inst_rows, inst_bx, resP_go, viewT_pure, outs_skip, fzV_pure, bxL_pure, bxOf_pure, rowsOf_pure, rows1_pure, name1_pure, nameB1_pure, simR, reduceCtorEq, ↓reduceIte, splice, Nat.reduceAdd, Nat.reduceLT, Nat.reduceLeDiff, Nat.reduceEqDiff, Nat.reduceSub, noPtr, isPtr, notAgg, notIo, AV.capt, distinct, covers, O.keys, O.wr, okPair, disj, List.replicate, startOk]
end Go.Nv
/- BY VALUE: chapter 27, the reference (2): comparing nodes; the error of entries. -/
namespace Go.Nv
variable {S : RT}
attribute [local congr] ite_congr congr_bindOps congr_bindC congr_bindD congr_onE congr_onA congr_onBool congr_onEff congr_headC congr_ob congr_ob2 congr_onI congr_onS congr_onAg congr_onTu congr_onRow congr_obO congr_takeR congr_ldV congr_ldN congr_iaV congr_onMap congr_stP congr_appA congr_frzR congr_onFn congr_fzV congr_callM congr_callN congr_onIo congr_giveR congr_rowS congr_bxS congr_bxC congr_rnR congr_rnP congr_onFin
set_option maxRecDepth 100000
set_option maxHeartbeats 40000000
def rsOf (x : Nd) : List Int := if x.leaf = true then x.rs else []
theorem viewN_row {n E c : Nat} {l m : List (List AV)} (h : l.mapM (fun x => x.mapM (viewN n)) = some m) : viewN (n + 1) (.row E c l) = some (.sl m) := by
  have : viewN (n + 1) (.row E c l) = (match l.mapM (fun x => x.mapM (viewN n)) with | some m => some (.sl m) | none => none) := rfl
  rw [this, h]
theorem viewN_self {n E c : Nat} {l : List (List AV)} (h : allPure l = true) : viewN (n + 1) (.row E c l) = some (.sl l) :=
  viewN_row (mapM_self fun x hx => mapM_self fun y hy => viewN_pure n (List.all_eq_true.1 (List.all_eq_true.1 h x hx) y hy))
theorem mapM_map {α β γ : Type} {f : α → β} {g : α → γ} {p : β → Option γ} (h : ∀ x, p (f x) = some (g x)) : ∀ l : List α, (l.map f).mapM p = some (l.map g)
  | [] => rfl
  | x :: l => by rw [List.map_cons, List.mapM_cons, h x, mapM_map h l]; rfl
theorem viewT_nodes (l : List Nd) : viewT (.row 97 5 (l.map encR)) = some (.sl (l.map encV)) := by
  refine viewN_row (n := 3) (mapM_map (fun x => ?_) l)
  cases h : x.leaf
  · simp only [encR, encV, h, Bool.false_eq_true, if_false, List.mapM_cons, List.mapM_nil]; rfl
  · simp only [encR, encV, h, if_true, List.mapM_cons, List.mapM_nil]
    rw [viewN_self (n := 2) (allPure_ints x.rs)]; rfl
/-- A node, as it is read as an argument. -/
def encN (x : Nd) : List AV := [.int .i64 x.b, .int .i64 x.lt, .int .i64 x.rt, .str x.k, .sl (ints (rsOf x))]
def sameN (a b : Nd) : Bool := a.b == b.b && (a.lt == b.lt && (a.rt == b.rt && (a.k.toList == b.k.toList && rsOf a == rsOf b)))
theorem run57 (a b : Nd) (ha : (rsOf a).length ≤ 100000) : run T S 57 [.agg (encN a), .agg (encN b)] = some (.bool (sameN a b)) := by
  have h37 := run37 (S := S) (rsOf a) (rsOf b) ha
  cases h1 : (a.b == b.b)
  · (refine run_fn T57 ⟨rfl, by decide, by rfl⟩ ?_; rw [start57, body57, B57]; dsimp only [ov, oo, og])
    simp (config := {decide := true, contextual := true, maxSteps := 5000000}) only [encN, sameN, h1, np57, res57, ↓simPre, simPost, capt_pure, argV_ro, argV_le, expo_pure, refsL_pure, isL_pure, k0_pure, k1_pure, ren0_pure, ren1_pure, sT_pure, sO_pure, bxGo_pure, resGo_pure, inst_pure, inst_rows, inst_bx, resP_go, viewT_pure, outs_skip, fzV_pure, bxL_pure, bxOf_pure, rowsOf_pure, rows1_pure, name1_pure, nameB1_pure, simR, reduceCtorEq, ↓reduceIte, splice, Nat.reduceAdd, Nat.reduceLT, Nat.reduceLeDiff, Nat.reduceEqDiff, Nat.reduceSub, noPtr, isPtr, notAgg, notIo, AV.capt, distinct, covers, O.keys, O.wr, okPair, disj, List.replicate, startOk]
  cases h2 : (a.lt == b.lt)
  · (refine run_fn T57 ⟨rfl, by decide, by rfl⟩ ?_; rw [start57, body57, B57]; dsimp only [ov, oo, og])
    simp (config := {decide := true, contextual := true, maxSteps := 5000000}) only [encN, sameN, h1, h2, np57, res57, ↓simPre, simPost, capt_pure, argV_ro, argV_le, expo_pure, refsL_pure, isL_pure, k0_pure, k1_pure, ren0_pure, ren1_pure, sT_pure, sO_pure, bxGo_pure, resGo_pure, inst_pure, inst_rows, inst_bx, resP_go, viewT_pure, outs_skip, fzV_pure, bxL_pure, bxOf_pure, rowsOf_pure, rows1_pure, name1_pure, nameB1_pure, simR, reduceCtorEq, ↓reduceIte, splice, Nat.reduceAdd, Nat.reduceLT, Nat.reduceLeDiff, Nat.reduceEqDiff, Nat.reduceSub, noPtr, isPtr, notAgg, notIo, AV.capt, distinct, covers, O.keys, O.wr, okPair, disj, List.replicate, startOk]
  cases h3 : (a.rt == b.rt)
  · (refine run_fn T57 ⟨rfl, by decide, by rfl⟩ ?_; rw [start57, body57, B57]; dsimp only [ov, oo, og])
    simp (config := {decide := true, contextual := true, maxSteps := 5000000}) only [encN, sameN, h1, h2, h3, np57, res57, ↓simPre, simPost, capt_pure, argV_ro, argV_le, expo_pure, refsL_pure, isL_pure, k0_pure, k1_pure, ren0_pure, ren1_pure, sT_pure, sO_pure, bxGo_pure, resGo_pure, inst_pure, inst_rows, inst_bx, resP_go, viewT_pure, outs_skip, fzV_pure, bxL_pure, bxOf_pure, rowsOf_pure, rows1_pure, name1_pure, nameB1_pure, simR, reduceCtorEq, ↓reduceIte, splice, Nat.reduceAdd, Nat.reduceLT, Nat.reduceLeDiff, Nat.reduceEqDiff, Nat.reduceSub, noPtr, isPtr, notAgg, notIo, AV.capt, distinct, covers, O.keys, O.wr, okPair, disj, List.replicate, startOk]
  cases h4 : (a.k.toList == b.k.toList)
  · (refine run_fn T57 ⟨rfl, by decide, by rfl⟩ ?_; rw [start57, body57, B57]; dsimp only [ov, oo, og])
    simp (config := {decide := true, contextual := true, maxSteps := 5000000}) only [encN, sameN, h1, h2, h3, h4, np57, res57, ↓simPre, simPost, capt_pure, argV_ro, argV_le, expo_pure, refsL_pure, isL_pure, k0_pure, k1_pure, ren0_pure, ren1_pure, sT_pure, sO_pure, bxGo_pure, resGo_pure, inst_pure, inst_rows, inst_bx, resP_go, viewT_pure, outs_skip, fzV_pure, bxL_pure, bxOf_pure, rowsOf_pure, rows1_pure, name1_pure, nameB1_pure, simR, reduceCtorEq, ↓reduceIte, splice, Nat.reduceAdd, Nat.reduceLT, Nat.reduceLeDiff, Nat.reduceEqDiff, Nat.reduceSub, noPtr, isPtr, notAgg, notIo, AV.capt, distinct, covers, O.keys, O.wr, okPair, disj, List.replicate, startOk]
  · (refine run_fn T57 ⟨rfl, by decide, by rfl⟩ ?_; rw [start57, body57, B57]; dsimp only [ov, oo, og])
    simp (config := {decide := true, contextual := true, maxSteps := 5000000}) only [encN, sameN, h1, h2, h3, h4, h37, np57, res57, ↓simPre, simPost, capt_pure, argV_ro, argV_le, expo_pure, refsL_pure, isL_pure, k0_pure, k1_pure, ren0_pure, ren1_pure, sT_pure, sO_pure, bxGo_pure, resGo_pure, inst_pure, inst_rows, inst_bx, resP_go, viewT_pure, outs_skip, fzV_pure, bxL_pure, bxOf_pure, rowsOf_pure, rows1_pure, name1_pure, nameB1_pure, simR, reduceCtorEq, ↓reduceIte, splice, Nat.reduceAdd, Nat.reduceLT, Nat.reduceLeDiff, Nat.reduceEqDiff, Nat.reduceSub, noPtr, isPtr, notAgg, notIo, AV.capt, distinct, covers, O.keys, O.wr, okPair, disj, List.replicate, startOk]
/-- Row of nodes, as read as an argument. -/
def sameL : List Nd → List Nd → Bool
  | [], [] => true
  | a :: l, b :: m => sameN a b && sameL l m
  | _, _ => false
theorem run17 (a b : List Nd) (ha : a.length ≤ 100000) (hr : ∀ x ∈ a, (rsOf x).length ≤ 100000) : run T S 17 [.sl (a.map encV), .sl (b.map encV)] = some (.bool (a.length == b.length && sameL a b)) := by
  by_cases h : a.length = b.length
  · have h' : (a.length == b.length) = true := by simpa using h
    (refine run_fn T17 ⟨rfl, by decide, by rfl⟩ ?_; rw [start17, body17, B17]; dsimp only [ov, oo, og])
    simp (config := {decide := true, contextual := true, maxSteps := 5000000}) only [enc_len, h, bne_self_eq_false, beq_self_eq_true, np17, res17, ↓simPre, simPost, capt_pure, argV_ro, argV_le, expo_pure, refsL_pure, isL_pure, k0_pure, k1_pure, ren0_pure, ren1_pure, sT_pure, sO_pure, bxGo_pure, resGo_pure, inst_pure, inst_rows, inst_bx, resP_go, viewT_pure, outs_skip, fzV_pure, bxL_pure, bxOf_pure, rowsOf_pure, rows1_pure, name1_pure, nameB1_pure, simR, reduceCtorEq, ↓reduceIte, splice, Nat.reduceAdd, Nat.reduceLT, Nat.reduceLeDiff, Nat.reduceEqDiff, Nat.reduceSub, noPtr, isPtr, notAgg, notIo, AV.capt, distinct, covers, O.keys, O.wr, okPair, disj, List.replicate, startOk]
    refine headC_range a.length (fun i e => e.put (some 5) (.int .i64 i)) (fun i => some (AV.bool (sameL (a.drop i) (b.drop i)))) rfl ?_ ?_
    · have hy : sameL (a.drop b.length) (b.drop b.length) = true := by rw [← h, List.drop_length, h, List.drop_length]; rfl
      simp (config := {decide := true, contextual := true, maxSteps := 5000000}) only [enc_len, h, castNlt (Nat.lt_irrefl _), hy, np17, res17, ↓simPre, simPost, capt_pure, argV_ro, argV_le, expo_pure, refsL_pure, isL_pure, k0_pure, k1_pure, ren0_pure, ren1_pure, sT_pure, sO_pure, bxGo_pure, resGo_pure, inst_pure, inst_rows, inst_bx, resP_go, viewT_pure, outs_skip, fzV_pure, bxL_pure, bxOf_pure, rowsOf_pure, rows1_pure, name1_pure, nameB1_pure, simR, reduceCtorEq, ↓reduceIte, splice, Nat.reduceAdd, Nat.reduceLT, Nat.reduceLeDiff, Nat.reduceEqDiff, Nat.reduceSub, noPtr, isPtr, notAgg, notIo, AV.capt, distinct, covers, O.keys, O.wr, okPair, disj, List.replicate, startOk]
    · intro i hlt ih
      have hb : i < b.length := by omega
      rw [drop_cons nd0 hlt, drop_cons nd0 hb]
      have e1 := enc_get encV a i nd0 hlt
      have e2 := enc_get encV b i nd0 hb
      have h57 := run57 (S := S) (a.getD i nd0) (b.getD i nd0) (hr _ (by rw [List.getD_eq_getElem?_getD, List.getElem?_eq_getElem hlt]; exact List.getElem_mem hlt))
      generalize a.getD i nd0 = x at *
      generalize b.getD i nd0 = y at *
      cases hx : x.leaf <;> cases hy : y.leaf <;> cases h9 : sameN x y <;> simp only [encV, hx, hy, encN, rsOf, Bool.false_eq_true, if_false, if_true, ints, List.map_nil] at e1 e2 h57
      all_goals simp (config := {decide := true, contextual := true, maxSteps := 5000000}) only [enc_len, castLt hlt, castLt hb, e1, e2, h57, h9, wrap_succ hlt (by omega), sameL, ints, np17, res17, ↓simPre, simPost, capt_pure, argV_ro, argV_le, expo_pure, refsL_pure, isL_pure, k0_pure, k1_pure, ren0_pure, ren1_pure, sT_pure, sO_pure, bxGo_pure, resGo_pure, inst_pure, inst_rows, inst_bx, resP_go, viewT_pure, outs_skip, fzV_pure, bxL_pure, bxOf_pure, rowsOf_pure, rows1_pure, name1_pure, nameB1_pure, simR, reduceCtorEq, ↓reduceIte, splice, Nat.reduceAdd, Nat.reduceLT, Nat.reduceLeDiff, Nat.reduceEqDiff, Nat.reduceSub, noPtr, isPtr, notAgg, notIo, AV.capt, distinct, covers, O.keys, O.wr, okPair, disj, List.replicate, startOk]
      all_goals exact ih
  · have h' : ((a.length : Int) != (b.length : Int)) = true := by simpa [bne_iff_ne] using (fun hh => h (by omega))
    have h2 : (a.length == b.length) = false := beq_eq_false_iff_ne.2 h
    rw [h2]
    (refine run_fn T17 ⟨rfl, by decide, by rfl⟩ ?_; rw [start17, body17, B17]; dsimp only [ov, oo, og])
    simp (config := {decide := true, contextual := true, maxSteps := 5000000}) only [enc_len, h', np17, res17, ↓simPre, simPost, capt_pure, argV_ro, argV_le, expo_pure, refsL_pure, isL_pure, k0_pure, k1_pure, ren0_pure, ren1_pure, sT_pure, sO_pure, bxGo_pure, resGo_pure, inst_pure, inst_rows, inst_bx, resP_go, viewT_pure, outs_skip, fzV_pure, bxL_pure, bxOf_pure, rowsOf_pure, rows1_pure, name1_pure, nameB1_pure, simR, reduceCtorEq, ↓reduceIte, splice, Nat.reduceAdd, Nat.reduceLT, Nat.reduceLeDiff, Nat.reduceEqDiff, Nat.reduceSub, noPtr, isPtr, notAgg, notIo, AV.capt, distinct, covers, O.keys, O.wr, okPair, disj, List.replicate, startOk]
end Go.Nv
/- BY VALUE: chapter 27, the reference (5): groups of entries. -/
namespace Go.Nv
variable {S : RT}
attribute [local congr] ite_congr congr_bindOps congr_bindC congr_bindD congr_onE congr_onA congr_onBool congr_onEff congr_headC congr_ob congr_ob2 congr_onI congr_onS congr_onAg congr_onTu congr_onRow congr_obO congr_takeR congr_ldV congr_ldN congr_iaV congr_onMap congr_stP congr_appA congr_frzR congr_onFn congr_fzV congr_callM congr_callN congr_onIo congr_giveR congr_rowS congr_bxS congr_bxC congr_rnR congr_rnP congr_onFin
set_option maxRecDepth 100000
set_option maxHeartbeats 40000000
theorem run59 (l : List En) (hl : l.length ≤ 100000) : run T S 59 [.sl (l.map encE)] = some (.row 140 2 ((grpF l).map encG)) := by
    (refine run_fn T59 ⟨rfl, by decide, by rfl⟩ ?_; rw [start59, body59, B59]; dsimp only [ov, oo, og])
    simp (config := {decide := true, contextual := true, maxSteps := 5000000}) only [enc_len, np59, res59, ↓simPre, simPost, capt_pure, argV_ro, argV_le, expo_pure, refsL_pure, isL_pure, k0_pure, k1_pure, ren0_pure, ren1_pure, sT_pure, sO_pure, bxGo_pure, resGo_pure, inst_pure, inst_rows, inst_bx, resP_go, viewT_pure, outs_skip, fzV_pure, bxL_pure, bxOf_pure, rowsOf_pure, rows1_pure, name1_pure, nameB1_pure, simR, reduceCtorEq, ↓reduceIte, splice, Nat.reduceAdd, Nat.reduceLT, Nat.reduceLeDiff, Nat.reduceEqDiff, Nat.reduceSub, noPtr, isPtr, notAgg, notIo, AV.capt, distinct, covers, O.keys, O.wr, okPair, disj, List.replicate, startOk]
    refine headC_range l.length (fun i e => (e.put (some 4) (.int .i64 i)).setObj 3 ⟨0, [[]], .val [.row 140 2 (((l.take i).foldl grpS []).map encG)]⟩) (fun _ => some (AV.row 140 2 ((grpF l).map encG))) rfl ?_ ?_
    · simp (config := {decide := true, contextual := true, maxSteps := 5000000}) only [enc_len, castNlt (Nat.lt_irrefl _), List.take_length, grpF, np59, res59, ↓simPre, simPost, capt_pure, argV_ro, argV_le, expo_pure, refsL_pure, isL_pure, k0_pure, k1_pure, ren0_pure, ren1_pure, sT_pure, sO_pure, bxGo_pure, resGo_pure, inst_pure, inst_rows, inst_bx, resP_go, viewT_pure, outs_skip, fzV_pure, bxL_pure, bxOf_pure, rowsOf_pure, rows1_pure, name1_pure, nameB1_pure, simR, reduceCtorEq, ↓reduceIte, splice, Nat.reduceAdd, Nat.reduceLT, Nat.reduceLeDiff, Nat.reduceEqDiff, Nat.reduceSub, noPtr, isPtr, notAgg, notIo, AV.capt, distinct, covers, O.keys, O.wr, okPair, disj, List.replicate, startOk]
    · intro i hlt ih
      have hs : (l.take (i + 1)).foldl grpS [] = grpS ((l.take i).foldl grpS []) (l.getD i en0) := by rw [take_succ en0 hlt, List.foldl_append]; rfl
      have hb := grpF_bound (l.take i) 0 [] (Nat.le_refl _) (by simp)
      rw [List.length_take] at hb
      rw [hs] at ih
      have h9 := enc_get encE l i en0 hlt
      generalize (l.take i).foldl grpS [] = out at *
      have ha : ((out.length + 1) * 40 ≤ 140737488355328) = True := by simp; omega
      simp only [encE] at h9
      by_cases h0 : 0 < out.length
      · have w1 : IntKind.wrap .i64 ((out.length : Int) - 1) = ((out.length - 1 : Nat) : Int) := by rw [wrap_i64 (by omega) (by omega)]; omega
        have w2 : decide ((out.length : Int) > 0) = true := by simp; omega
        have e8 := enc_get? encG out (out.length - 1) gk0 (by omega)
        have f8 := enc_get encG out (out.length - 1) gk0 (by omega)
        have hr := hb.2 (out.getD (out.length - 1) gk0) (by rw [List.getD_eq_getElem?_getD, List.getElem?_eq_getElem (by omega)]; exact List.getElem_mem _)
        have hb2 : (((out.getD (out.length - 1) gk0).rs.length + 1) * 8 ≤ 140737488355328) = True := eq_true (by omega)
        simp only [encG] at e8 f8
        cases hq : ((out.getD (out.length - 1) gk0).k.toList == (l.getD i en0).k.toList)
        · simp only [grpS, h0, hq, true_and, Bool.false_eq_true, if_false] at ih
          have h5 : out.map encG ++ [[.str (l.getD i en0).k, .row 3 1 [[.int .i64 (l.getD i en0).r]]]] = (out ++ ([⟨(l.getD i en0).k, [(l.getD i en0).r]⟩] : List Gk)).map encG := by simp [encG, ints]
          simp (config := {decide := true, contextual := true, maxSteps := 5000000}) only [enc_len, castLt hlt, castLt (show out.length - 1 < out.length by omega), h9, e8, f8, w1, w2, hq, ha, h5, wrap_succ hlt (by omega), np59, res59, ↓simPre, simPost, capt_pure, argV_ro, argV_le, expo_pure, refsL_pure, isL_pure, k0_pure, k1_pure, ren0_pure, ren1_pure, sT_pure, sO_pure, bxGo_pure, resGo_pure, inst_pure, inst_rows, inst_bx, resP_go, viewT_pure, outs_skip, fzV_pure, bxL_pure, bxOf_pure, rowsOf_pure, rows1_pure, name1_pure, nameB1_pure, simR, reduceCtorEq, ↓reduceIte, splice, Nat.reduceAdd, Nat.reduceLT, Nat.reduceLeDiff, Nat.reduceEqDiff, Nat.reduceSub, noPtr, isPtr, notAgg, notIo, AV.capt, distinct, covers, O.keys, O.wr, okPair, disj, List.replicate, startOk]
          exact ih
        · simp only [grpS, h0, hq, true_and, if_true] at ih
          have s8 : ∀ y : List AV, ((out.map encG).set (out.length - 1) y)[out.length - 1]? = some y := fun y => by rw [List.getElem?_set_self (by simp; omega)]
          have t8 : ∀ y : List AV, ((out.map encG).set (out.length - 1) y).getD (out.length - 1) [] = y := fun y => by rw [List.getD_eq_getElem?_getD, s8]; rfl
          have h5 : (out.map encG).set (out.length - 1) [.str (out.getD (out.length - 1) gk0).k, .row 3 1 (ints (out.getD (out.length - 1) gk0).rs ++ [[.int .i64 (l.getD i en0).r]])] = (out.set (out.length - 1) ⟨(out.getD (out.length - 1) gk0).k, (out.getD (out.length - 1) gk0).rs ++ [(l.getD i en0).r]⟩).map encG := by
            rw [List.map_set]; simp [encG, ints]
          simp (config := {decide := true, contextual := true, maxSteps := 5000000}) only [enc_len, castLt hlt, castLt (show out.length - 1 < out.length by omega), h9, e8, f8, w1, w2, hq, hb2, ints_len, List.length_set, List.set_set, s8, t8, h5, wrap_succ hlt (by omega), np59, res59, ↓simPre, simPost, capt_pure, argV_ro, argV_le, expo_pure, refsL_pure, isL_pure, k0_pure, k1_pure, ren0_pure, ren1_pure, sT_pure, sO_pure, bxGo_pure, resGo_pure, inst_pure, inst_rows, inst_bx, resP_go, viewT_pure, outs_skip, fzV_pure, bxL_pure, bxOf_pure, rowsOf_pure, rows1_pure, name1_pure, nameB1_pure, simR, reduceCtorEq, ↓reduceIte, splice, Nat.reduceAdd, Nat.reduceLT, Nat.reduceLeDiff, Nat.reduceEqDiff, Nat.reduceSub, noPtr, isPtr, notAgg, notIo, AV.capt, distinct, covers, O.keys, O.wr, okPair, disj, List.replicate, startOk]
          exact ih
      · have : out = [] := List.length_eq_zero_iff.1 (by omega)
        subst this
        simp (config := {decide := true, contextual := true, maxSteps := 5000000}) only [enc_len, castLt hlt, h9, wrap_succ hlt (by omega), np59, res59, ↓simPre, simPost, capt_pure, argV_ro, argV_le, expo_pure, refsL_pure, isL_pure, k0_pure, k1_pure, ren0_pure, ren1_pure, sT_pure, sO_pure, bxGo_pure, resGo_pure, inst_pure, inst_rows, inst_bx, resP_go, viewT_pure, outs_skip, fzV_pure, bxL_pure, bxOf_pure, rowsOf_pure, rows1_pure, name1_pure, nameB1_pure, simR, reduceCtorEq, ↓reduceIte, splice, Nat.reduceAdd, Nat.reduceLT, Nat.reduceLeDiff, Nat.reduceEqDiff, Nat.reduceSub, noPtr, isPtr, notAgg, notIo, AV.capt, distinct, covers, O.keys, O.wr, okPair, disj, List.replicate, startOk]
        exact ih
end Go.Nv
/- BY VALUE: chapter 27, the reference (6): the tree of groups. -/
namespace Go.Nv
variable {S : RT}
attribute [local congr] ite_congr congr_bindOps congr_bindC congr_bindD congr_onE congr_onA congr_onBool congr_onEff congr_headC congr_ob congr_ob2 congr_onI congr_onS congr_onAg congr_onTu congr_onRow congr_obO congr_takeR congr_ldV congr_ldN congr_iaV congr_onMap congr_stP congr_appA congr_frzR congr_onFn congr_fzV congr_callM congr_callN congr_onIo congr_giveR congr_rowS congr_bxS congr_bxC congr_rnR congr_rnP congr_onFin
set_option maxRecDepth 100000
set_option maxHeartbeats 40000000
theorem run58 : ∀ (f : Nat) (l : List Gk) (t : List Nd) (n : Nat), l.length ≤ f → 0 < l.length → SrtG l → Len n (keysG l) → n ≤ 300 → t.length + 2 * l.length ≤ 100000 →
    run T S 58 [.row 97 5 (t.map encV), .sl (l.map encGV)] = some (.io (.row 97 5 ((growF f t l).map encV)) [.unk])
  | 0, l, t, n, h1, h2, _, _, _, _ => by omega
  | f + 1, l, t, n, h1, h2, h3, h4, h5, h6 => by
    have e0 := enc_get encGV l 0 gk0 h2
    have e3 : ((0 : Int) < (l.length : Int)) = True := by simp; omega
    have e5 : ((t.length + 1) * 64 ≤ 140737488355328) = True := by simp; omega
    simp only [encGV] at e0
    simp only [growF]
    by_cases hk : (l.length == 1) = true
    · rw [if_pos hk]
      have hk' : ((l.length : Int) == 1) = true := by simp at hk ⊢; omega
      (refine run_fn T58 ⟨rfl, by decide, by rfl⟩ ?_; rw [start58, body58, B58]; dsimp only [ov, oo, og])
      simp (config := {decide := true, contextual := true, maxSteps := 5000000}) only [enc_len, e0, e3, hk', e5, List.map_append, encV, np58, res58, ↓simPre, simPost, capt_pure, argV_ro, argV_le, expo_pure, refsL_pure, isL_pure, k0_pure, k1_pure, ren0_pure, ren1_pure, sT_pure, sO_pure, bxGo_pure, resGo_pure, inst_pure, inst_rows, inst_bx, resP_go, viewT_pure, outs_skip, fzV_pure, bxL_pure, bxOf_pure, rowsOf_pure, rows1_pure, name1_pure, nameB1_pure, simR, reduceCtorEq, ↓reduceIte, splice, Nat.reduceAdd, Nat.reduceLT, Nat.reduceLeDiff, Nat.reduceEqDiff, Nat.reduceSub, noPtr, isPtr, notAgg, notIo, AV.capt, distinct, covers, O.keys, O.wr, okPair, disj, List.replicate, startOk]
    · rw [if_neg hk]
      have hk0 : l.length ≠ 1 := by simpa using hk
      have hk' : ((l.length : Int) == 1) = false := beq_eq_false_iff_ne.2 (by omega)
      obtain ⟨c, c1, c2, c3, c4, c5, c6, c7⟩ := cutG_spec h3 h4 (by omega)
      have e1 := enc_get encGV l (l.length - 1) gk0 (by omega)
      have e2 : IntKind.wrap .i64 ((l.length : Int) - 1) = ((l.length - 1 : Nat) : Int) := by rw [wrap_i64 (by omega) (by omega)]; omega
      have e4 : (((l.length - 1 : Nat) : Int) < (l.length : Int)) = True := by simp; omega
      have ec := enc_get encGV l c gk0 c2
      simp only [encGV] at e1 ec
      have sz : ∀ j, j < l.length → (l.getD j gk0).k.size = n := fun j hj => by
        have := len_at h4 (i := j) (by rw [keysG_len]; exact hj)
        rwa [keysG_at l hj] at this
      have z0 := sz 0 h2
      have z1 := sz (l.length - 1) (by omega)
      have zc := sz c c2
      obtain ⟨d1, d2, d3⟩ := diffN_spec c7
      simp only [c3, Int.toNat_natCast]
      generalize diffN (l.getD 0 gk0).k (l.getD (l.length - 1) gk0).k = d at *
      have l1 : (l.take c).length = c := by rw [List.length_take]; omega
      have l2 : (l.drop c).length = l.length - c := List.length_drop
      have q1 := growF_len f (t ++ [⟨d, t.length + 1, 0, bs [], [], false⟩]) (l.take c) n (by omega) (by omega) (srtG_take h3 c) (by rw [keysG_take]; exact len_take h4 c)
      have r1 := run58 f (l.take c) (t ++ [⟨d, t.length + 1, 0, bs [], [], false⟩]) n (by omega) (by omega) (srtG_take h3 c) (by rw [keysG_take]; exact len_take h4 c) h5 (by simp; omega)
      generalize growF f (t ++ [⟨d, t.length + 1, 0, bs [], [], false⟩]) (l.take c) = t1 at *
      simp only [List.length_append, List.length_cons, List.length_nil, l1] at q1
      have r2 := run58 f (l.drop c) (t1.set t.length { t1.getD t.length nd0 with rt := t1.length }) n (by omega) (by omega) (srtG_drop h3 c) (by rw [keysG_drop]; exact len_drop h4 c) h5 (by simp; omega)
      generalize hX : growF f (t1.set t.length { t1.getD t.length nd0 with rt := t1.length }) (l.drop c) = Y at r2 ⊢
      rw [List.map_set, List.map_drop] at r2
      rw [List.map_append, List.map_take] at r1
      simp only [encV, List.map_cons, List.map_nil, Bool.false_eq_true, if_false] at r1
      have e6 := enc_get encV t1 t.length nd0 (by omega)
      have e11 := enc_get? encV t1 t.length nd0 (by omega)
      simp only [encV] at e6 e11 r2
      have e7 : ((c : Int) ≤ (l.length : Int)) = True := by simp; omega
      have e8 : ((t.length : Int) < (t1.length : Int)) = True := by simp; omega
      have e9 : IntKind.wrap .i64 ((t.length : Int) + 1) = (t.length : Int) + 1 := by rw [wrap_i64 (by omega) (by omega)]
      have e10 : List.take l.length (List.map encGV l) = List.map encGV l := List.take_of_length_le (by simp)
      have gl : ((l.map encGV).all fun y => y.length == 2) = true := lens_map encGV 2 (fun x => rfl) l
      (refine run_fn T58 ⟨rfl, by decide, by rfl⟩ ?_; rw [start58, body58, B58]; dsimp only [ov, oo, og])
      simp (config := {decide := true, contextual := true, maxSteps := 5000000}) only [enc_len, e0, e1, e2, e3, e4, hk', np58, res58, ↓simPre, simPost, capt_pure, argV_ro, argV_le, expo_pure, refsL_pure, isL_pure, k0_pure, k1_pure, ren0_pure, ren1_pure, sT_pure, sO_pure, bxGo_pure, resGo_pure, inst_pure, inst_rows, inst_bx, resP_go, viewT_pure, outs_skip, fzV_pure, bxL_pure, bxOf_pure, rowsOf_pure, rows1_pure, name1_pure, nameB1_pure, simR, reduceCtorEq, ↓reduceIte, splice, Nat.reduceAdd, Nat.reduceLT, Nat.reduceLeDiff, Nat.reduceEqDiff, Nat.reduceSub, noPtr, isPtr, notAgg, notIo, AV.capt, distinct, covers, O.keys, O.wr, okPair, disj, List.replicate, startOk]
      refine headC_range d (fun i e => e.put (some 5) (.int .i64 i)) (fun _ => some (AV.io (.row 97 5 (Y.map encV)) [.unk])) rfl ?_ ?_
      · have k1 := run73 (S := S) (l.getD 0 gk0).k d (by omega) (by omega)
        have k2 := run73 (S := S) (l.getD (l.length - 1) gk0).k d (by omega) (by omega)
        have kb : ((bitN (l.getD 0 gk0).k d : Int) == (bitN (l.getD (l.length - 1) gk0).k d : Int)) = false := beq_eq_false_iff_ne.2 (by omega)
        simp (config := {decide := true, contextual := true, maxSteps := 5000000}) only [enc_len, e0, e1, e2, e3, e4, k1, k2, kb, np58, res58, ↓simPre, simPost, capt_pure, argV_ro, argV_le, expo_pure, refsL_pure, isL_pure, k0_pure, k1_pure, ren0_pure, ren1_pure, sT_pure, sO_pure, bxGo_pure, resGo_pure, inst_pure, inst_rows, inst_bx, resP_go, viewT_pure, outs_skip, fzV_pure, bxL_pure, bxOf_pure, rowsOf_pure, rows1_pure, name1_pure, nameB1_pure, simR, reduceCtorEq, ↓reduceIte, splice, Nat.reduceAdd, Nat.reduceLT, Nat.reduceLeDiff, Nat.reduceEqDiff, Nat.reduceSub, noPtr, isPtr, notAgg, notIo, AV.capt, distinct, covers, O.keys, O.wr, okPair, disj, List.replicate, startOk]
        refine headC_range c (fun i e => e.put (some 6) (.int .i64 i)) (fun _ => some (AV.io (.row 97 5 (Y.map encV)) [.unk])) rfl ?_ ?_
        · have k3 := run73 (S := S) (l.getD c gk0).k d (by omega) (by omega)
          have kc : ((bitN (l.getD c gk0).k d : Int) == 0) = false := beq_eq_false_iff_ne.2 (by omega)
          simp (config := {decide := true, contextual := true, maxSteps := 5000000}) only [enc_len, ec, castLt c2, k3, kc, e5, e6, e7, e8, e9, e10, e11, r1, r2, gl, np58, res58, ↓simPre, simPost, capt_pure, argV_ro, argV_le, expo_pure, refsL_pure, isL_pure, k0_pure, k1_pure, ren0_pure, ren1_pure, sT_pure, sO_pure, bxGo_pure, resGo_pure, inst_pure, inst_rows, inst_bx, resP_go, viewT_pure, outs_skip, fzV_pure, bxL_pure, bxOf_pure, rowsOf_pure, rows1_pure, name1_pure, nameB1_pure, simR, reduceCtorEq, ↓reduceIte, splice, Nat.reduceAdd, Nat.reduceLT, Nat.reduceLeDiff, Nat.reduceEqDiff, Nat.reduceSub, noPtr, isPtr, notAgg, notIo, AV.capt, distinct, covers, O.keys, O.wr, okPair, disj, List.replicate, startOk]
        · intro i hi ih
          have ei := enc_get encGV l i gk0 (by omega)
          simp only [encGV] at ei
          have zi := sz i (by omega)
          have k3 := run73 (S := S) (l.getD i gk0).k d (by omega) (by omega)
          have kc : ((bitN (l.getD i gk0).k d : Int) == 0) = true := by rw [c5 i hi]; rfl
          simp (config := {decide := true, contextual := true, maxSteps := 5000000}) only [enc_len, ei, castLt (show i < l.length by omega), k3, kc, wrap_succ hi (by omega), np58, res58, ↓simPre, simPost, capt_pure, argV_ro, argV_le, expo_pure, refsL_pure, isL_pure, k0_pure, k1_pure, ren0_pure, ren1_pure, sT_pure, sO_pure, bxGo_pure, resGo_pure, inst_pure, inst_rows, inst_bx, resP_go, viewT_pure, outs_skip, fzV_pure, bxL_pure, bxOf_pure, rowsOf_pure, rows1_pure, name1_pure, nameB1_pure, simR, reduceCtorEq, ↓reduceIte, splice, Nat.reduceAdd, Nat.reduceLT, Nat.reduceLeDiff, Nat.reduceEqDiff, Nat.reduceSub, noPtr, isPtr, notAgg, notIo, AV.capt, distinct, covers, O.keys, O.wr, okPair, disj, List.replicate, startOk]
          exact ih
      · intro i hi ih
        have k1 := run73 (S := S) (l.getD 0 gk0).k i (by omega) (by omega)
        have k2 := run73 (S := S) (l.getD (l.length - 1) gk0).k i (by omega) (by omega)
        have kb : ((bitN (l.getD 0 gk0).k i : Int) == (bitN (l.getD (l.length - 1) gk0).k i : Int)) = true := by rw [d3 i hi]; simp
        simp (config := {decide := true, contextual := true, maxSteps := 5000000}) only [enc_len, e0, e1, e2, e3, e4, k1, k2, kb, wrap_succ hi (by omega), np58, res58, ↓simPre, simPost, capt_pure, argV_ro, argV_le, expo_pure, refsL_pure, isL_pure, k0_pure, k1_pure, ren0_pure, ren1_pure, sT_pure, sO_pure, bxGo_pure, resGo_pure, inst_pure, inst_rows, inst_bx, resP_go, viewT_pure, outs_skip, fzV_pure, bxL_pure, bxOf_pure, rowsOf_pure, rows1_pure, name1_pure, nameB1_pure, simR, reduceCtorEq, ↓reduceIte, splice, Nat.reduceAdd, Nat.reduceLT, Nat.reduceLeDiff, Nat.reduceEqDiff, Nat.reduceSub, noPtr, isPtr, notAgg, notIo, AV.capt, distinct, covers, O.keys, O.wr, okPair, disj, List.replicate, startOk]
        exact ih
end Go.Nv
/- BY VALUE: chapter 27, the reference (4): the sort by insertion. -/
namespace Go.Nv
variable {S : RT}
attribute [local congr] ite_congr congr_bindOps congr_bindC congr_bindD congr_onE congr_onA congr_onBool congr_onEff congr_headC congr_ob congr_ob2 congr_onI congr_onS congr_onAg congr_onTu congr_onRow congr_obO congr_takeR congr_ldV congr_ldN congr_iaV congr_onMap congr_stP congr_appA congr_frzR congr_onFn congr_fzV congr_callM congr_callN congr_onIo congr_giveR congr_rowS congr_bxS congr_bxC congr_rnR congr_rnP congr_onFin
set_option maxRecDepth 100000
set_option maxHeartbeats 40000000
def shiftE (x : En) : Nat → List En → List En
  | 0, out => out.set 0 x
  | k + 1, out => if lessE x (out.getD k en0) = true then shiftE x k (out.set (k + 1) (out.getD k en0)) else out.set (k + 1) x
def insE (out : List En) (x : En) : List En := shiftE x out.length (out ++ [x])
def sortR (l : List En) : List En := l.foldl insE []
theorem shiftE_len (x : En) : ∀ (k : Nat) (out : List En), (shiftE x k out).length = out.length
  | 0, out => by simp [shiftE]
  | k + 1, out => by
    simp only [shiftE]
    split
    · rw [shiftE_len x k]; simp
    · simp
theorem insE_len (out : List En) (x : En) : (insE out x).length = out.length + 1 := by simp [insE, shiftE_len]
theorem foldE_len (l out : List En) : (l.foldl insE out).length = out.length + l.length := by
  induction l generalizing out with
  | nil => simp
  | cons x l ih => rw [List.foldl_cons, ih, insE_len, List.length_cons]; omega
theorem run60 (l : List En) (hl : l.length ≤ 100000) : run T S 60 [.sl (l.map encE)] = some (.row 47 2 ((sortR l).map encE)) := by
    (refine run_fn T60 ⟨rfl, by decide, by rfl⟩ ?_; rw [start60, body60, B60]; dsimp only [ov, oo, og])
    simp (config := {decide := true, contextual := true, maxSteps := 5000000}) only [enc_len, np60, res60, ↓simPre, simPost, capt_pure, argV_ro, argV_le, expo_pure, refsL_pure, isL_pure, k0_pure, k1_pure, ren0_pure, ren1_pure, sT_pure, sO_pure, bxGo_pure, resGo_pure, inst_pure, inst_rows, inst_bx, resP_go, viewT_pure, outs_skip, fzV_pure, bxL_pure, bxOf_pure, rowsOf_pure, rows1_pure, name1_pure, nameB1_pure, simR, reduceCtorEq, ↓reduceIte, splice, Nat.reduceAdd, Nat.reduceLT, Nat.reduceLeDiff, Nat.reduceEqDiff, Nat.reduceSub, noPtr, isPtr, notAgg, notIo, AV.capt, distinct, covers, O.keys, O.wr, okPair, disj, List.replicate, startOk]
    refine headC_range l.length (fun i e => (e.put (some 4) (.int .i64 i)).setObj 3 ⟨0, [[]], .val [.row 47 2 (((l.take i).foldl insE []).map encE)]⟩) (fun _ => some (AV.row 47 2 ((sortR l).map encE))) rfl ?_ ?_
    · simp (config := {decide := true, contextual := true, maxSteps := 5000000}) only [enc_len, castNlt (Nat.lt_irrefl _), List.take_length, sortR, np60, res60, ↓simPre, simPost, capt_pure, argV_ro, argV_le, expo_pure, refsL_pure, isL_pure, k0_pure, k1_pure, ren0_pure, ren1_pure, sT_pure, sO_pure, bxGo_pure, resGo_pure, inst_pure, inst_rows, inst_bx, resP_go, viewT_pure, outs_skip, fzV_pure, bxL_pure, bxOf_pure, rowsOf_pure, rows1_pure, name1_pure, nameB1_pure, simR, reduceCtorEq, ↓reduceIte, splice, Nat.reduceAdd, Nat.reduceLT, Nat.reduceLeDiff, Nat.reduceEqDiff, Nat.reduceSub, noPtr, isPtr, notAgg, notIo, AV.capt, distinct, covers, O.keys, O.wr, okPair, disj, List.replicate, startOk]
    · intro i hlt ih
      have hi : ((l.take i).foldl insE []).length = i := by rw [foldE_len, List.length_take]; simp; omega
      have hs : (l.take (i + 1)).foldl insE [] = insE ((l.take i).foldl insE []) (l.getD i en0) := by rw [take_succ en0 hlt, List.foldl_append]; rfl
      rw [hs] at ih
      have h9 := enc_get encE l i en0 hlt
      simp only [insE, hi] at ih
      generalize (l.take i).foldl insE [] = out at *
      have ha : ((i + 1) * 24 ≤ 140737488355328) = True := by simp; omega
      simp only [encE] at h9
      have h5 : out.map encE ++ [[.str (l.getD i en0).k, .int .i64 (l.getD i en0).r]] = (out ++ [l.getD i en0]).map encE := by simp [encE]
      simp (config := {decide := true, contextual := true, maxSteps := 5000000}) only [enc_len, castLt hlt, h9, hi, ha, h5, np60, res60, ↓simPre, simPost, capt_pure, argV_ro, argV_le, expo_pure, refsL_pure, isL_pure, k0_pure, k1_pure, ren0_pure, ren1_pure, sT_pure, sO_pure, bxGo_pure, resGo_pure, inst_pure, inst_rows, inst_bx, resP_go, viewT_pure, outs_skip, fzV_pure, bxL_pure, bxOf_pure, rowsOf_pure, rows1_pure, name1_pure, nameB1_pure, simR, reduceCtorEq, ↓reduceIte, splice, Nat.reduceAdd, Nat.reduceLT, Nat.reduceLeDiff, Nat.reduceEqDiff, Nat.reduceSub, noPtr, isPtr, notAgg, notIo, AV.capt, distinct, covers, O.keys, O.wr, okPair, disj, List.replicate, startOk]
      refine headC_upd (fun (s : Nat × List En) e => (e.put (some 5) (.int .i64 s.1)).setObj 3 ⟨0, [[]], .val [.row 47 2 (s.2.map encE)]⟩) (fun _ => some (AV.row 47 2 ((sortR l).map encE))) (fun s => s.1)
        (fun s => s.1 ≤ i ∧ s.2.length = i + 1 ∧ shiftE (l.getD i en0) s.1 s.2 = shiftE (l.getD i en0) i (out ++ [l.getD i en0])) (i, out ++ [l.getD i en0]) rfl ⟨Nat.le_refl _, by simp [hi], rfl⟩ ?_
      rintro ⟨k, o⟩ ⟨hk, ho, hs⟩ ihk
      simp only at hk ho hs ihk
      have hst : ∀ (m : Nat) (x : En), (o.map encE).set m [.str x.k, .int .i64 x.r] = (o.set m x).map encE := fun m x => by rw [List.map_set]; rfl
      cases k with
      | zero =>
        simp only [shiftE] at hs
        rw [← hs] at ih
        have z0 : ((0 : Int) < ((i + 1 : Nat) : Int)) = True := by simp
        have f0 := enc_get encE o 0 en0 (by omega)
        have e0 := enc_get? encE o 0 en0 (by omega)
        simp only [encE] at e0 f0
        simp (config := {decide := true, contextual := true, maxSteps := 5000000}) only [enc_len, castLt hlt, h9, hi, ho, hst, z0, e0, f0, wrap_succ hlt (by omega), np60, res60, ↓simPre, simPost, capt_pure, argV_ro, argV_le, expo_pure, refsL_pure, isL_pure, k0_pure, k1_pure, ren0_pure, ren1_pure, sT_pure, sO_pure, bxGo_pure, resGo_pure, inst_pure, inst_rows, inst_bx, resP_go, viewT_pure, outs_skip, fzV_pure, bxL_pure, bxOf_pure, rowsOf_pure, rows1_pure, name1_pure, nameB1_pure, simR, reduceCtorEq, ↓reduceIte, splice, Nat.reduceAdd, Nat.reduceLT, Nat.reduceLeDiff, Nat.reduceEqDiff, Nat.reduceSub, noPtr, isPtr, notAgg, notIo, AV.capt, distinct, covers, O.keys, O.wr, okPair, disj, List.replicate, startOk]
        exact ih
      | succ k =>
        have h8 := enc_get encE o k en0 (by omega)
        have w1 : IntKind.wrap .i64 (((k + 1 : Nat) : Int) - 1) = (k : Int) := by rw [wrap_i64 (by omega) (by omega)]; omega
        have w2 : decide ((((k + 1 : Nat) : Int)) > 0) = true := by simp
        have e8 := enc_get? encE o k en0 (by omega)
        have e9 := enc_get? encE o (k + 1) en0 (by omega)
        have f9 := enc_get encE o (k + 1) en0 (by omega)
        have h91 := run91 (S := S) (l.getD i en0) (o.getD k en0)
        simp only [encE] at h8 h91 e8 e9 f9
        simp only [shiftE] at hs
        by_cases hq : lessE (l.getD i en0) (o.getD k en0) = true
        · rw [if_pos hq] at hs
          have ihk := ihk (k, o.set (k + 1) (o.getD k en0)) ⟨by omega, by simp [ho], hs⟩ (by simp)
          simp (config := {decide := true, contextual := true, maxSteps := 5000000}) only [enc_len, castLt hlt, castLt (show k < i + 1 by omega), castLt (show k + 1 < i + 1 by omega), h9, h8, h91, e8, e9, f9, hi, ho, hst, hq, w1, w2, np60, res60, ↓simPre, simPost, capt_pure, argV_ro, argV_le, expo_pure, refsL_pure, isL_pure, k0_pure, k1_pure, ren0_pure, ren1_pure, sT_pure, sO_pure, bxGo_pure, resGo_pure, inst_pure, inst_rows, inst_bx, resP_go, viewT_pure, outs_skip, fzV_pure, bxL_pure, bxOf_pure, rowsOf_pure, rows1_pure, name1_pure, nameB1_pure, simR, reduceCtorEq, ↓reduceIte, splice, Nat.reduceAdd, Nat.reduceLT, Nat.reduceLeDiff, Nat.reduceEqDiff, Nat.reduceSub, noPtr, isPtr, notAgg, notIo, AV.capt, distinct, covers, O.keys, O.wr, okPair, disj, List.replicate, startOk]
          exact ihk
        · rw [if_neg hq] at hs
          rw [← hs] at ih
          have hq : lessE (l.getD i en0) (o.getD k en0) = false := by simpa using hq
          simp (config := {decide := true, contextual := true, maxSteps := 5000000}) only [enc_len, castLt hlt, castLt (show k < i + 1 by omega), castLt (show k + 1 < i + 1 by omega), h9, h8, h91, e8, e9, f9, hi, ho, hst, hq, w1, w2, wrap_succ hlt (by omega), np60, res60, ↓simPre, simPost, capt_pure, argV_ro, argV_le, expo_pure, refsL_pure, isL_pure, k0_pure, k1_pure, ren0_pure, ren1_pure, sT_pure, sO_pure, bxGo_pure, resGo_pure, inst_pure, inst_rows, inst_bx, resP_go, viewT_pure, outs_skip, fzV_pure, bxL_pure, bxOf_pure, rowsOf_pure, rows1_pure, name1_pure, nameB1_pure, simR, reduceCtorEq, ↓reduceIte, splice, Nat.reduceAdd, Nat.reduceLT, Nat.reduceLeDiff, Nat.reduceEqDiff, Nat.reduceSub, noPtr, isPtr, notAgg, notIo, AV.capt, distinct, covers, O.keys, O.wr, okPair, disj, List.replicate, startOk]
          exact ih
end Go.Nv
/- Chapter 27, plain facts: both sorts give the same. -/
namespace Go.Nv
theorem less_iff {a b : En} : lessE a b = true ↔ (a.k.data.toList < b.k.data.toList ∨ (a.k = b.k ∧ a.r < b.r)) := by
  simp only [lessE, Bool.or_eq_true, Bool.and_eq_true, decide_eq_true_eq, beq_iff_eq, Go.Proofs.bytesLess_eq, ByteArray.toList_eq]
  exact or_congr Iff.rfl (and_congr ⟨ba_ext, fun h => by rw [h]⟩ Iff.rfl)
theorem leE_of_less {a b : En} (h : lessE a b = true) : leE a b := by
  rcases less_iff.1 h with h | ⟨h1, h2⟩
  · exact .inl h
  · exact .inr ⟨h1, Int.le_of_lt h2⟩
theorem leE_of_not {a b : En} (h : ¬ lessE a b = true) : leE b a := by
  rw [less_iff] at h
  by_cases h1 : b.k.data.toList < a.k.data.toList
  · exact .inl h1
  · have h2 : ¬ a.k.data.toList < b.k.data.toList := fun hh => h (.inl hh)
    have h3 : b.k = a.k := ba_ext (List.le_antisymm (List.not_lt.1 h2) (List.not_lt.1 h1))
    exact .inr ⟨h3, Int.not_lt.1 fun hh => h (.inr ⟨h3.symm, hh⟩)⟩
theorem leE_trans {a b c : En} (h1 : leE a b) (h2 : leE b c) : leE a c := by
  rcases h1 with h1 | ⟨h1, h1'⟩ <;> rcases h2 with h2 | ⟨h2, h2'⟩
  · exact .inl (List.lt_trans h1 h2)
  · exact .inl (by rw [← h2]; exact h1)
  · exact .inl (by rw [h1]; exact h2)
  · exact .inr ⟨h1.trans h2, Int.le_trans h1' h2'⟩
theorem leE_antisymm {a b : En} (h1 : leE a b) (h2 : leE b a) : a = b := by
  rcases h1 with h1 | ⟨h1, h1'⟩ <;> rcases h2 with h2 | ⟨h2, h2'⟩
  · exact absurd h2 (bytes_asymm h1)
  · rw [h2] at h1; exact absurd h1 (List.lt_irrefl _)
  · rw [h1] at h2; exact absurd h2 (List.lt_irrefl _)
  · cases a; cases b; cases h1; cases Int.le_antisymm h1' h2'; rfl
theorem shiftE_spec (x : En) : ∀ (k : Nat) (o : List En), k < o.length → ∃ r, shiftE x k o = r ++ o.drop (k + 1) ∧ r.Perm (x :: o.take k) ∧ (Srt (o.take k) → Srt r)
  | 0, o, h => by
    refine ⟨[x], ?_, List.Perm.refl _, fun _ => List.pairwise_singleton _ _⟩
    cases o with
    | nil => cases h
    | cons y o => rfl
  | k + 1, o, h => by
    simp only [shiftE]
    have hk : o.take (k + 1) = o.take k ++ [o.getD k en0] := take_succ en0 (by omega)
    split
    · rename_i hl
      obtain ⟨r, h1, h2, h3⟩ := shiftE_spec x k (o.set (k + 1) (o.getD k en0)) (by rw [List.length_set]; omega)
      have hd : (o.set (k + 1) (o.getD k en0)).drop (k + 1) = o.getD k en0 :: o.drop (k + 1 + 1) := by
        rw [List.set_eq_take_append_cons_drop, if_pos (by omega), List.drop_append_of_le_length (by rw [List.length_take]; omega), List.drop_eq_nil_of_le (by rw [List.length_take]; omega)]; rfl
      have ht : (o.set (k + 1) (o.getD k en0)).take k = o.take k := List.take_set_of_le (by omega)
      rw [ht] at h2 h3
      refine ⟨r ++ [o.getD k en0], by rw [h1, hd, List.append_assoc]; rfl, ?_, fun hs => ?_⟩
      · rw [hk]
        exact (h2.append_right _)
      · rw [hk] at hs
        obtain ⟨s1, s2, s3⟩ := List.pairwise_append.1 hs
        refine List.pairwise_append.2 ⟨h3 s1, List.pairwise_singleton _ _, fun a ha b hb => ?_⟩
        simp only [List.mem_singleton] at hb
        subst hb
        rcases List.mem_cons.1 (h2.mem_iff.1 ha) with rfl | ha'
        · exact leE_of_less hl
        · exact s3 a ha' _ (List.mem_singleton.2 rfl)
    · rename_i hl
      refine ⟨o.take (k + 1) ++ [x], ?_, List.perm_append_singleton _ _, fun hs => ?_⟩
      · rw [List.set_eq_take_append_cons_drop, if_pos h, List.append_assoc]; rfl
      · refine List.pairwise_append.2 ⟨hs, List.pairwise_singleton _ _, fun a ha b hb => ?_⟩
        simp only [List.mem_singleton] at hb
        subst hb
        have hx := leE_of_not hl
        rw [hk] at hs ha
        rcases List.mem_append.1 ha with ha | ha
        · exact leE_trans ((List.pairwise_append.1 hs).2.2 a ha _ (List.mem_singleton.2 rfl)) hx
        · simp only [List.mem_singleton] at ha; subst ha; exact hx
theorem insE_spec (out : List En) (x : En) : (insE out x).Perm (x :: out) ∧ (Srt out → Srt (insE out x)) := by
  obtain ⟨r, h1, h2, h3⟩ := shiftE_spec x out.length (out ++ [x]) (by simp)
  have hd : (out ++ [x]).drop (out.length + 1) = [] := List.drop_eq_nil_of_le (by simp)
  have ht : (out ++ [x]).take out.length = out := by simp
  rw [ht] at h2 h3
  unfold insE
  rw [h1, hd, List.append_nil]
  exact ⟨h2, h3⟩
theorem foldE_spec : ∀ (l out : List En), (l.foldl insE out).Perm (out ++ l) ∧ (Srt out → Srt (l.foldl insE out))
  | [], out => ⟨by simp, fun h => h⟩
  | x :: l, out => by
    obtain ⟨h1, h2⟩ := foldE_spec l (insE out x)
    obtain ⟨g1, g2⟩ := insE_spec out x
    refine ⟨h1.trans ((g1.append_right l).trans ?_), fun h => h2 (g2 h)⟩
    exact (List.perm_middle (l₁ := out) (a := x) (l₂ := l)).symm
theorem sortR_eq (l : List En) : sortR l = sortE l := by
  obtain ⟨h1, h2⟩ := foldE_spec l []
  refine List.Perm.eq_of_pairwise (le := leE) (fun a b _ _ => leE_antisymm) (h2 List.Pairwise.nil) (sortE_srt l) ?_
  exact h1.trans (by rw [List.nil_append]; exact (sortE_perm l).symm)
/-! ### Groups -/
theorem fold_tail : ∀ (b : List En) (p q : List Gk), q ≠ [] → b.foldl grpS (p ++ q) = p ++ b.foldl grpS q
  | [], p, q, _ => rfl
  | x :: b, p, q, hq => by
    have hl : 0 < q.length := List.length_pos_iff.2 hq
    have hg : (p ++ q).getD ((p ++ q).length - 1) gk0 = q.getD (q.length - 1) gk0 := by
      rw [List.getD_eq_getElem?_getD, List.getD_eq_getElem?_getD, List.length_append, List.getElem?_append_right (by omega)]
      congr 2; omega
    have hs : grpS (p ++ q) x = p ++ grpS q x := by
      unfold grpS
      rw [hg]
      by_cases hc : ((q.getD (q.length - 1) gk0).k.toList == x.k.toList) = true
      · rw [if_pos ⟨by rw [List.length_append]; omega, hc⟩, if_pos ⟨hl, hc⟩, List.length_append, List.set_append_right _ _ (by omega)]
        congr 2; omega
      · rw [if_neg fun h => hc h.2, if_neg fun h => hc h.2, List.append_assoc]
    rw [List.foldl_cons, List.foldl_cons, hs]
    refine fold_tail b p _ ?_
    unfold grpS
    split
    · intro hh; have := congrArg List.length hh; rw [List.length_set, List.length_nil] at this; omega
    · simp
/-- What is known of the groups of entries. -/
theorem grp_last : ∀ (l : List En) (out : List Gk) (k : ByteArray), out ≠ [] → (out.getD (out.length - 1) gk0).k = k → (l.foldl grpS out) ≠ [] ∧ ((l.foldl grpS out).getD ((l.foldl grpS out).length - 1) gk0).k = (l.getD (l.length - 1) ⟨k, 0⟩).k
  | [], out, k, h1, h2 => ⟨h1, h2⟩
  | x :: l, out, k, h1, h2 => by
    have hs : grpS out x ≠ [] ∧ ((grpS out x).getD ((grpS out x).length - 1) gk0).k = x.k := by
      unfold grpS
      split
      · rename_i hc
        refine ⟨fun hh => by have := congrArg List.length hh; rw [List.length_set, List.length_nil] at this; omega, ?_⟩
        rw [List.length_set, List.getD_eq_getElem?_getD, List.getElem?_set_self (by omega)]
        exact eq_of_keys hc.2
      · refine ⟨by simp, ?_⟩
        simp [List.getD_eq_getElem?_getD]
    obtain ⟨g1, g2⟩ := grp_last l (grpS out x) x.k hs.1 hs.2
    refine ⟨g1, g2.trans ?_⟩
    cases l with
    | nil => rfl
    | cons y l => simp [List.getD_eq_getElem?_getD]
theorem grp_first : ∀ (l : List En) (out : List Gk), out ≠ [] → ((l.foldl grpS out).getD 0 gk0).k = (out.getD 0 gk0).k
  | [], out, h1 => rfl
  | x :: l, out, h1 => by
    have hs : grpS out x ≠ [] ∧ ((grpS out x).getD 0 gk0).k = (out.getD 0 gk0).k := by
      cases out with
      | nil => exact absurd rfl h1
      | cons g out =>
        unfold grpS
        split
        · refine ⟨by simp [List.set_eq_nil_iff], ?_⟩
          cases out with
          | nil => rfl
          | cons g2 out => rfl
        · exact ⟨by simp, rfl⟩
    exact (grp_first l _ hs.1).trans hs.2
theorem grpF_cons (x : En) (l : List En) : grpF (x :: l) = l.foldl grpS [⟨x.k, [x.r]⟩] := rfl
theorem grpF_ne {l : List En} (h : 0 < l.length) : grpF l ≠ [] ∧ ((grpF l).getD 0 gk0).k = (l.getD 0 en0).k ∧ ((grpF l).getD ((grpF l).length - 1) gk0).k = (l.getD (l.length - 1) en0).k := by
  cases l with
  | nil => cases h
  | cons x l =>
    rw [grpF_cons]
    obtain ⟨h1, h2⟩ := grp_last l [⟨x.k, [x.r]⟩] x.k (by simp) rfl
    refine ⟨h1, grp_first l _ (by simp), h2.trans ?_⟩
    cases l with
    | nil => rfl
    | cons y l => simp [List.getD_eq_getElem?_getD]
theorem grpF_append {a b : List En} (ha : 0 < a.length) (hb : 0 < b.length) (h : (a.getD (a.length - 1) en0).k ≠ (b.getD 0 en0).k) : grpF (a ++ b) = grpF a ++ grpF b := by
  obtain ⟨h1, _, h2⟩ := grpF_ne ha
  cases b with
  | nil => cases hb
  | cons x b =>
    have : grpF (a ++ x :: b) = b.foldl grpS (grpS (grpF a) x) := by simp only [grpF, List.foldl_append, List.foldl_cons]
    rw [this]
    have hs : grpS (grpF a) x = grpF a ++ [⟨x.k, [x.r]⟩] := by
      unfold grpS
      rw [if_neg]
      rintro ⟨_, hc⟩
      rw [h2] at hc
      exact h (eq_of_keys hc)
    rw [hs, fold_tail b _ _ (by simp), grpF_cons]
theorem grp_same (k : ByteArray) : ∀ (l : List En) (rs : List Int), (∀ x ∈ l, x.k = k) → l.foldl grpS [⟨k, rs⟩] = [⟨k, rs ++ l.map (·.r)⟩]
  | [], rs, _ => by simp
  | x :: l, rs, h => by
    have hx : x.k = k := h x (List.mem_cons_self ..)
    have : grpS [⟨k, rs⟩] x = [⟨k, rs ++ [x.r]⟩] := by
      unfold grpS
      rw [if_pos ⟨by simp, by rw [hx]; simp [List.getD_eq_getElem?_getD]⟩]; rfl
    rw [List.foldl_cons, this, grp_same k l _ (fun y hy => h y (List.mem_cons_of_mem _ hy))]
    simp
theorem same_keys {l : List En} (hs : Srt l) (h : (l.getD 0 en0).k = (l.getD (l.length - 1) en0).k) : ∀ x ∈ l, x.k = (l.getD 0 en0).k := fun x hx => by
  obtain ⟨i, hi, rfl⟩ := List.getElem_of_mem hx
  have hd : l[i] = l.getD i en0 := by rw [List.getD_eq_getElem?_getD, List.getElem?_eq_getElem hi]; rfl
  rw [hd]
  by_cases h0 : i = 0
  · rw [h0]
  by_cases h1 : i = l.length - 1
  · rw [h1]; exact h.symm
  have a1 := srt_le hs (i := 0) (j := i) (by omega) hi
  have a2 := srt_le hs (i := i) (j := l.length - 1) (by omega) (by omega)
  rcases a1 with a1 | ⟨a1, _⟩
  · rcases a2 with a2 | ⟨a2, _⟩
    · exact absurd (h ▸ List.lt_trans a1 a2) (List.lt_irrefl _)
    · exact a2.trans h.symm
  · exact a1.symm
theorem grpF_one {l : List En} (hl : 0 < l.length) (hs : Srt l) (h : (l.getD 0 en0).k = (l.getD (l.length - 1) en0).k) : grpF l = [⟨(l.getD 0 en0).k, l.map (·.r)⟩] := by
  have hk := same_keys hs h
  cases l with
  | nil => cases hl
  | cons x l =>
    rw [grpF_cons, grp_same x.k l [x.r] (fun y hy => hk y (List.mem_cons_of_mem _ hy))]
    rfl
end Go.Nv
/- Chapter 27, plain facts: the program's tree is the reference's. -/
namespace Go.Nv
theorem grp_keys : ∀ (l : List En) (out : List Gk), ∀ g ∈ l.foldl grpS out, (∃ h ∈ out, h.k = g.k) ∨ ∃ x ∈ l, x.k = g.k
  | [], out, g, hg => .inl ⟨g, hg, rfl⟩
  | x :: l, out, g, hg => by
    rcases grp_keys l (grpS out x) g hg with ⟨h, hh, e⟩ | ⟨y, hy, e⟩
    · unfold grpS at hh
      split at hh
      · rename_i hc
        rcases List.mem_or_eq_of_mem_set hh with h1 | rfl
        · exact .inl ⟨h, h1, e⟩
        · exact .inr ⟨x, List.mem_cons_self .., by rw [← e]; exact (eq_of_keys hc.2).symm⟩
      · rcases List.mem_append.1 hh with h1 | h1
        · exact .inl ⟨h, h1, e⟩
        · simp only [List.mem_singleton] at h1
          exact .inr ⟨x, List.mem_cons_self .., by rw [← e, h1]⟩
    · exact .inr ⟨y, List.mem_cons_of_mem _ hy, e⟩
theorem grpF_Len {l : List En} {n : Nat} (h : Len n l) : Len n (keysG (grpF l)) := fun x hx => by
  simp only [keysG, List.mem_map] at hx
  obtain ⟨g, hg, rfl⟩ := hx
  rcases grp_keys l [] g hg with ⟨h, hh, _⟩ | ⟨y, hy, e⟩
  · cases hh
  · rw [← e]; exact h y hy
theorem grp_srt : ∀ (l : List En) (out : List Gk) (a : En), out ≠ [] → SrtG out → (out.getD (out.length - 1) gk0).k = a.k → (a :: l).Pairwise leE → SrtG (l.foldl grpS out)
  | [], out, a, _, h, _, _ => h
  | x :: l, out, a, hne, h, hk, hs => by
    have hax := (List.pairwise_cons.1 hs).1 x (List.mem_cons_self ..)
    have hs' := (List.pairwise_cons.1 hs).2
    have hol : 0 < out.length := List.length_pos_iff.2 hne
    have hg : grpS out x ≠ [] ∧ SrtG (grpS out x) ∧ ((grpS out x).getD ((grpS out x).length - 1) gk0).k = x.k := by
      unfold grpS
      split
      · rename_i hc
        refine ⟨fun hh => by have := congrArg List.length hh; rw [List.length_set, List.length_nil] at this; omega, ?_, ?_⟩
        · have hm : (out.set (out.length - 1) ⟨(out.getD (out.length - 1) gk0).k, (out.getD (out.length - 1) gk0).rs ++ [x.r]⟩).map (·.k) = out.map (·.k) := by
            rw [List.map_set]
            apply List.ext_getElem
            · simp
            · intro i h1 h2
              rw [List.getElem_set]
              split
              · rename_i hi
                subst hi
                simp [List.getD_eq_getElem?_getD, List.getElem?_eq_getElem (show out.length - 1 < out.length by omega)]
              · rfl
          have e1 : ∀ q : List Gk, SrtG q ↔ (q.map (·.k)).Pairwise (fun a b => a.data.toList < b.data.toList) := fun q => (List.pairwise_map (f := fun x : Gk => x.k) (R := fun a b : ByteArray => a.data.toList < b.data.toList) (l := q)).symm
          rw [e1, hm, ← e1]; exact h
        · rw [List.length_set, List.getD_eq_getElem?_getD, List.getElem?_set_self (by omega)]
          exact eq_of_keys hc.2
      · rename_i hc
        refine ⟨by simp, ?_, by simp [List.getD_eq_getElem?_getD]⟩
        have hlt : a.k.data.toList < x.k.data.toList := by
          rcases hax with hax | ⟨hax, _⟩
          · exact hax
          · exact absurd ⟨hol, by rw [hk, hax]; simp⟩ hc
        refine List.pairwise_append.2 ⟨h, List.pairwise_singleton _ _, fun g hg b hb => ?_⟩
        simp only [List.mem_singleton] at hb
        subst hb
        show g.k.data.toList < x.k.data.toList
        obtain ⟨i, hi, rfl⟩ := List.getElem_of_mem hg
        by_cases h1 : i = out.length - 1
        · subst h1
          have : (out.getD (out.length - 1) gk0).k = out[out.length - 1].k := by rw [List.getD_eq_getElem?_getD, List.getElem?_eq_getElem hi]; rfl
          rw [← this, hk]; exact hlt
        · have h2 := (List.pairwise_iff_getElem.1 h) i (out.length - 1) hi (by omega) (by omega)
          have : (out.getD (out.length - 1) gk0).k = out[out.length - 1].k := by rw [List.getD_eq_getElem?_getD, List.getElem?_eq_getElem (show out.length - 1 < out.length by omega)]; rfl
          rw [← this, hk] at h2
          exact List.lt_trans h2 hlt
    exact grp_srt l _ x hg.1 hg.2.1 hg.2.2 hs'
theorem grpF_srt {l : List En} (h : Srt l) : SrtG (grpF l) := by
  cases l with
  | nil => exact List.Pairwise.nil
  | cons x l => rw [grpF_cons]; exact grp_srt l _ x (by simp) (List.pairwise_singleton _ _) rfl h
theorem grpF_len (l : List En) : (grpF l).length ≤ l.length := by
  have := (grpF_bound l 0 [] (Nat.le_refl _) (by simp)).1
  simpa [grpF] using this
theorem grpF_pos {l : List En} (h : 0 < l.length) : 0 < (grpF l).length := List.length_pos_iff.2 (grpF_ne h).1
theorem findI_split {α : Type} (p : α → Bool) (d : α) {a b : List α} (ha : ∀ x ∈ a, p x = false) (hb : 0 < b.length) (hp : p (b.getD 0 d) = true) : findI p (a ++ b) 0 = (a.length : Int) := by
  have : ∀ (a : List α) (n : Nat), (∀ x ∈ a, p x = false) → findI p (a ++ b) n = ((n + a.length : Nat) : Int) := by
    intro a
    induction a with
    | nil =>
      intro n _
      cases b with
      | nil => cases hb
      | cons y b =>
        have hy : p y = true := hp
        simp only [List.nil_append, findI, hy, if_true, List.length_nil, Nat.add_zero]
    | cons y a ih =>
      intro n h
      have hy := h y (List.mem_cons_self ..)
      simp only [List.cons_append, findI, hy, Bool.false_eq_true, if_false]
      rw [ih (n + 1) (fun z hz => h z (List.mem_cons_of_mem _ hz)), List.length_cons]
      congr 1; omega
  rw [this a 0 ha, Nat.zero_add]
theorem grow_build : ∀ (f : Nat) (l : List En) (t : List Nd) (n : Nat), l.length ≤ f → 0 < l.length → Srt l → Len n l → growF f t (grpF l) = buildF f t l
  | 0, l, t, n, h1, h2, _, _ => by omega
  | f + 1, l, t, n, h1, h2, h3, h4 => by
    obtain ⟨g1, g2, g3⟩ := grpF_ne h2
    simp only [growF, buildF]
    by_cases hk : ((l.getD 0 en0).k.toList == (l.getD (l.length - 1) en0).k.toList) = true
    · rw [if_pos hk, grpF_one h2 h3 (eq_of_keys hk)]; rfl
    · rw [if_neg hk]
      have hk1 : ¬ ((grpF l).length == 1) = true := fun hh => by
        have hh : (grpF l).length = 1 := by simpa using hh
        rw [hh] at g3
        apply hk
        rw [← g2, ← g3]; simp
      rw [if_neg hk1, g2, g3]
      obtain ⟨c, c1, c2, c3, c4, c5, c6, c7⟩ := cut_spec h3 h4 h2 (by simpa using hk)
      rw [c3, Int.toNat_natCast]
      generalize diffN (l.getD 0 en0).k (l.getD (l.length - 1) en0).k = d at *
      have l1 : (l.take c).length = c := by rw [List.length_take]; omega
      have l2 : (l.drop c).length = l.length - c := List.length_drop
      have ha : (l.take c).getD ((l.take c).length - 1) en0 = l.getD (c - 1) en0 := by
        rw [l1]; simp only [List.getD_eq_getElem?_getD, List.getElem?_take]; rw [if_pos (by omega)]
      have hb : (l.drop c).getD 0 en0 = l.getD c en0 := by
        simp only [List.getD_eq_getElem?_getD, List.getElem?_drop, Nat.add_zero]
      have hsp : grpF l = grpF (l.take c) ++ grpF (l.drop c) := by
        have := grpF_append (a := l.take c) (b := l.drop c) (by omega) (by omega) (by
          rw [ha, hb]
          intro hh
          have h0 := c5 (c - 1) (by omega)
          rw [hh] at h0
          omega)
        rwa [List.take_append_drop] at this
      have hf : findI (isBit d) (keysG (grpF l)) 0 = ((grpF (l.take c)).length : Int) := by
        have e : keysG (grpF l) = keysG (grpF (l.take c)) ++ keysG (grpF (l.drop c)) := by rw [hsp]; simp [keysG]
        rw [e, ← keysG_len (grpF (l.take c))]
        refine findI_split _ en0 (fun x hx => ?_) (by rw [keysG_len]; exact grpF_pos (by omega)) ?_
        · simp only [keysG, List.mem_map] at hx
          obtain ⟨g, hg, rfl⟩ := hx
          rcases grp_keys _ [] g hg with ⟨h, hh, _⟩ | ⟨y, hy, e⟩
          · cases hh
          · obtain ⟨i, hi, rfl⟩ := List.getElem_of_mem hy
            have hy' : (l.take c)[i] = l.getD i en0 := by
              rw [List.getElem_take, List.getD_eq_getElem?_getD, List.getElem?_eq_getElem (by omega)]; rfl
            have := c5 i (by omega)
            rw [← hy', e] at this
            simp only [isBit, this]; rfl
        · rw [keysG_at _ (grpF_pos (by omega)), isBit]
          simp only [(grpF_ne (l := l.drop c) (by omega)).2.1, hb, c6]; rfl
      rw [hf, Int.toNat_natCast]
      have e1 : (grpF l).take (grpF (l.take c)).length = grpF (l.take c) := by rw [hsp, List.take_left]
      have e2 : (grpF l).drop (grpF (l.take c)).length = grpF (l.drop c) := by rw [hsp, List.drop_left]
      rw [e1, e2, grow_build f (l.take c) _ n (by omega) (by omega) (srt_take h3 c) (len_take h4 c)]
      exact grow_build f (l.drop c) _ n (by omega) (by omega) (srt_drop h3 c) (len_drop h4 c)
end Go.Nv
/- BY VALUE: chapter 27, the reference (7): the tree of entries. -/
namespace Go.Nv
variable {S : RT}
attribute [local congr] ite_congr congr_bindOps congr_bindC congr_bindD congr_onE congr_onA congr_onBool congr_onEff congr_headC congr_ob congr_ob2 congr_onI congr_onS congr_onAg congr_onTu congr_onRow congr_obO congr_takeR congr_ldV congr_ldN congr_iaV congr_onMap congr_stP congr_appA congr_frzR congr_onFn congr_fzV congr_callM congr_callN congr_onIo congr_giveR congr_rowS congr_bxS congr_bxC congr_rnR congr_rnP congr_onFin
set_option maxRecDepth 100000
set_option maxHeartbeats 40000000
theorem allPure_row (l : List En) : viewT (.row 47 2 (l.map encE)) = some (.sl (l.map encE)) := viewT_pure (entPure l)
theorem viewT_groups (l : List Gk) : viewT (.row 140 2 (l.map encG)) = some (.sl (l.map encGV)) := by
  have h0 : viewT (.row 140 2 (l.map encG)) = (match (l.map encG).mapM (fun x => x.mapM (viewN 3)) with | some m => some (.sl m) | none => none) := rfl
  have : (l.map encG).mapM (fun x => x.mapM (viewN 3)) = some (l.map encGV) := by
    induction l with
    | nil => rfl
    | cons x l ih =>
      rw [List.map_cons, List.mapM_cons, ih rfl]
      have hx : (encG x).mapM (viewN 3) = some (encGV x) := by
        simp only [encG, encGV, List.mapM_cons, List.mapM_nil]
        rw [viewN_self (n := 2) (allPure_ints x.rs)]; rfl
      rw [hx]; rfl
  rw [h0, this]
theorem run18 (l : List En) (n : Nat) (hl : l.length ≤ 10000) (hn : Len n l) (h3 : n ≤ 300) : run T S 18 [.sl (l.map encE)] = some (.row 97 5 ((treeF l).map encV)) := by
  by_cases h : l.length = 0
  · have : l = [] := List.length_eq_zero_iff.1 h
    subst this
    (refine run_fn T18 ⟨rfl, by decide, by rfl⟩ ?_; rw [start18, body18, B18]; dsimp only [ov, oo, og])
    simp (config := {decide := true, contextual := true, maxSteps := 5000000}) only [treeF, np18, res18, ↓simPre, simPost, capt_pure, argV_ro, argV_le, expo_pure, refsL_pure, isL_pure, k0_pure, k1_pure, ren0_pure, ren1_pure, sT_pure, sO_pure, bxGo_pure, resGo_pure, inst_pure, inst_rows, inst_bx, resP_go, viewT_pure, outs_skip, fzV_pure, bxL_pure, bxOf_pure, rowsOf_pure, rows1_pure, name1_pure, nameB1_pure, simR, reduceCtorEq, ↓reduceIte, splice, Nat.reduceAdd, Nat.reduceLT, Nat.reduceLeDiff, Nat.reduceEqDiff, Nat.reduceSub, noPtr, isPtr, notAgg, notIo, AV.capt, distinct, covers, O.keys, O.wr, okPair, disj, List.replicate, startOk]
  · have hb : ((l.length : Int) == 0) = false := beq_eq_false_iff_ne.2 (by omega)
    have sl := sortE_len l
    have k60 := run60 (S := S) l (by omega)
    rw [sortR_eq] at k60
    have k59 := run59 (S := S) (sortE l) (by omega)
    have k58 := run58 (S := S) l.length (grpF (sortE l)) [] n (by have := grpF_len (sortE l); omega) (grpF_pos (by omega)) (grpF_srt (sortE_srt l)) (grpF_Len (sortE_Len hn)) h3 (by have := grpF_len (sortE l); simp; omega)
    rw [grow_build l.length (sortE l) [] n (by omega) (by omega) (sortE_srt l) (sortE_Len hn)] at k58
    have h10 : treeF l = buildF l.length [] (sortE l) := by simp only [treeF, if_neg h]
    rw [← h10] at k58
    have v59 := viewT_groups (grpF (sortE l))
    simp only [List.map_nil] at k58
    have fl : flats ((grpF (sortE l)).map encG) = false := by
      have := grpF_pos (l := sortE l) (by omega)
      cases hg : grpF (sortE l) with
      | nil => rw [hg] at this; cases this
      | cons g q => rfl
    (refine run_fn T18 ⟨rfl, by decide, by rfl⟩ ?_; rw [start18, body18, B18]; dsimp only [ov, oo, og])
    simp (config := {decide := true, contextual := true, maxSteps := 5000000}) only [enc_len, hb, k60, k59, k58, v59, entPure, fl, np18, res18, ↓simPre, simPost, capt_pure, argV_ro, argV_le, expo_pure, refsL_pure, isL_pure, k0_pure, k1_pure, ren0_pure, ren1_pure, sT_pure, sO_pure, bxGo_pure, resGo_pure, inst_pure, inst_rows, inst_bx, resP_go, viewT_pure, outs_skip, fzV_pure, bxL_pure, bxOf_pure, rowsOf_pure, rows1_pure, name1_pure, nameB1_pure, simR, reduceCtorEq, ↓reduceIte, splice, Nat.reduceAdd, Nat.reduceLT, Nat.reduceLeDiff, Nat.reduceEqDiff, Nat.reduceSub, noPtr, isPtr, notAgg, notIo, AV.capt, distinct, covers, O.keys, O.wr, okPair, disj, List.replicate, startOk]
end Go.Nv
/- BY VALUE: chapter 27, the reference (3): the error of entries. -/
namespace Go.Nv
variable {S : RT}
attribute [local congr] ite_congr congr_bindOps congr_bindC congr_bindD congr_onE congr_onA congr_onBool congr_onEff congr_headC congr_ob congr_ob2 congr_onI congr_onS congr_onAg congr_onTu congr_onRow congr_obO congr_takeR congr_ldV congr_ldN congr_iaV congr_onMap congr_stP congr_appA congr_frzR congr_onFn congr_fzV congr_callM congr_callN congr_onIo congr_giveR congr_rowS congr_bxS congr_bxC congr_rnR congr_rnP congr_onFin
set_option maxRecDepth 100000
set_option maxHeartbeats 40000000
def rDup (l : List En) (i : Nat) : Bool := (l.take i).any (fun x => eqE x (l.getD i en0))
def rErrAt (l : List En) (i : Nat) : Int :=
  if (rEntryErr (l.getD i en0) != 0) = true then rEntryErr (l.getD i en0)
  else if (((l.getD i en0).k.size : Int) != ((l.getD 0 en0).k.size : Int)) = true then 18
  else if rDup l i = true then 13 else 0
def rListErr (l : List En) : Nat × Int := if decide ((l.length : Int) > 120) = true then (0, 2) else firstBad (rErrAt l) l.length 0
def pairA (p : Nat × Int) : AV := .tup [.int .i64 p.1, .int .i64 p.2]
theorem run16 (l : List En) (hl : l.length ≤ 100000) : run T S 16 [.sl (l.map encE)] = some (pairA (rListErr l)) := by
  by_cases h : (l.length : Int) > 120
  · have h' : decide ((l.length : Int) > 120) = true := by simpa using h
    unfold rListErr pairA
    rw [if_pos h']
    (refine run_fn T16 ⟨rfl, by decide, by rfl⟩ ?_; rw [start16, body16, B16]; dsimp only [ov, oo, og])
    simp (config := {decide := true, contextual := true, maxSteps := 5000000}) only [enc_len, h', np16, res16, ↓simPre, simPost, capt_pure, argV_ro, argV_le, expo_pure, refsL_pure, isL_pure, k0_pure, k1_pure, ren0_pure, ren1_pure, sT_pure, sO_pure, bxGo_pure, resGo_pure, inst_pure, inst_rows, inst_bx, resP_go, viewT_pure, outs_skip, fzV_pure, bxL_pure, bxOf_pure, rowsOf_pure, rows1_pure, name1_pure, nameB1_pure, simR, reduceCtorEq, ↓reduceIte, splice, Nat.reduceAdd, Nat.reduceLT, Nat.reduceLeDiff, Nat.reduceEqDiff, Nat.reduceSub, noPtr, isPtr, notAgg, notIo, AV.capt, distinct, covers, O.keys, O.wr, okPair, disj, List.replicate, startOk]
  · have h' : decide ((l.length : Int) > 120) = false := by simpa using h
    unfold rListErr
    rw [if_neg (by simpa using h)]
    (refine run_fn T16 ⟨rfl, by decide, by rfl⟩ ?_; rw [start16, body16, B16]; dsimp only [ov, oo, og])
    simp (config := {decide := true, contextual := true, maxSteps := 5000000}) only [enc_len, h', np16, res16, ↓simPre, simPost, capt_pure, argV_ro, argV_le, expo_pure, refsL_pure, isL_pure, k0_pure, k1_pure, ren0_pure, ren1_pure, sT_pure, sO_pure, bxGo_pure, resGo_pure, inst_pure, inst_rows, inst_bx, resP_go, viewT_pure, outs_skip, fzV_pure, bxL_pure, bxOf_pure, rowsOf_pure, rows1_pure, name1_pure, nameB1_pure, simR, reduceCtorEq, ↓reduceIte, splice, Nat.reduceAdd, Nat.reduceLT, Nat.reduceLeDiff, Nat.reduceEqDiff, Nat.reduceSub, noPtr, isPtr, notAgg, notIo, AV.capt, distinct, covers, O.keys, O.wr, okPair, disj, List.replicate, startOk]
    refine headC_upd (fun i e => e.put (some 4) (.int .i64 (i : Nat))) (fun i => some (pairA (firstBad (rErrAt l) (l.length - i) i))) (fun i => l.length - i) (fun i => i ≤ l.length) 0 rfl (Nat.zero_le _) ?_
    rintro i hi ih
    by_cases hlt : i < l.length
    · have h9 := enc_get encE l i en0 hlt
      have h0 := enc_get encE l 0 en0 (by omega)
      have hp : ((0 : Int) < (l.length : Int)) = True := by simp; omega
      have hf : l.length - i = (l.length - (i + 1)) + 1 := by omega
      have h56 := run56 (S := S) (l.getD i en0)
      have ih := ih (i + 1) (by omega) (by omega)
      have fb : ∀ v, rErrAt l i = v → firstBad (rErrAt l) (l.length - i) i = if (v != 0) = true then (i, v) else firstBad (rErrAt l) (l.length - (i + 1)) (i + 1) := fun v hv => by rw [hf]; simp only [firstBad, hv]
      simp only [encE] at h9 h0 h56
      by_cases q1 : (rEntryErr (l.getD i en0) != 0) = true
      · rw [fb (rEntryErr (l.getD i en0)) (by simp only [rErrAt]; rw [if_pos q1]), if_pos q1]
        simp (config := {decide := true, contextual := true, maxSteps := 5000000}) only [enc_len, castLt hlt, h9, h56, q1, pairA, np16, res16, ↓simPre, simPost, capt_pure, argV_ro, argV_le, expo_pure, refsL_pure, isL_pure, k0_pure, k1_pure, ren0_pure, ren1_pure, sT_pure, sO_pure, bxGo_pure, resGo_pure, inst_pure, inst_rows, inst_bx, resP_go, viewT_pure, outs_skip, fzV_pure, bxL_pure, bxOf_pure, rowsOf_pure, rows1_pure, name1_pure, nameB1_pure, simR, reduceCtorEq, ↓reduceIte, splice, Nat.reduceAdd, Nat.reduceLT, Nat.reduceLeDiff, Nat.reduceEqDiff, Nat.reduceSub, noPtr, isPtr, notAgg, notIo, AV.capt, distinct, covers, O.keys, O.wr, okPair, disj, List.replicate, startOk]
      have q1' : (rEntryErr (l.getD i en0) != 0) = false := by simpa using q1
      by_cases q2 : (((l.getD i en0).k.size : Int) != ((l.getD 0 en0).k.size : Int)) = true
      · rw [fb 18 (by simp only [rErrAt]; rw [if_neg q1, if_pos q2]), if_pos (by decide)]
        simp (config := {decide := true, contextual := true, maxSteps := 5000000}) only [enc_len, castLt hlt, h9, h56, q1', h0, hp, q2, pairA, np16, res16, ↓simPre, simPost, capt_pure, argV_ro, argV_le, expo_pure, refsL_pure, isL_pure, k0_pure, k1_pure, ren0_pure, ren1_pure, sT_pure, sO_pure, bxGo_pure, resGo_pure, inst_pure, inst_rows, inst_bx, resP_go, viewT_pure, outs_skip, fzV_pure, bxL_pure, bxOf_pure, rowsOf_pure, rows1_pure, name1_pure, nameB1_pure, simR, reduceCtorEq, ↓reduceIte, splice, Nat.reduceAdd, Nat.reduceLT, Nat.reduceLeDiff, Nat.reduceEqDiff, Nat.reduceSub, noPtr, isPtr, notAgg, notIo, AV.capt, distinct, covers, O.keys, O.wr, okPair, disj, List.replicate, startOk]
      have q2' : (((l.getD i en0).k.size : Int) != ((l.getD 0 en0).k.size : Int)) = false := by simpa using q2
      have q3 : rErrAt l i = if rDup l i = true then 13 else 0 := by simp only [rErrAt]; rw [if_neg q1, if_neg q2]
      have q5 : pairA (firstBad (rErrAt l) (l.length - i) i) = if ((l.take i).drop 0).any (fun x => eqE x (l.getD i en0)) = true then pairA (i, 13) else pairA (firstBad (rErrAt l) (l.length - (i + 1)) (i + 1)) := by
        rw [fb _ q3, List.drop_zero]
        show _ = if rDup l i = true then _ else _
        cases rDup l i <;> rfl
      rw [q5]
      simp (config := {decide := true, contextual := true, maxSteps := 5000000}) only [enc_len, castLt hlt, h9, h56, q1', h0, hp, q2', np16, res16, ↓simPre, simPost, capt_pure, argV_ro, argV_le, expo_pure, refsL_pure, isL_pure, k0_pure, k1_pure, ren0_pure, ren1_pure, sT_pure, sO_pure, bxGo_pure, resGo_pure, inst_pure, inst_rows, inst_bx, resP_go, viewT_pure, outs_skip, fzV_pure, bxL_pure, bxOf_pure, rowsOf_pure, rows1_pure, name1_pure, nameB1_pure, simR, reduceCtorEq, ↓reduceIte, splice, Nat.reduceAdd, Nat.reduceLT, Nat.reduceLeDiff, Nat.reduceEqDiff, Nat.reduceSub, noPtr, isPtr, notAgg, notIo, AV.capt, distinct, covers, O.keys, O.wr, okPair, disj, List.replicate, startOk]
      refine headC_range i (fun k e => e.put (some 6) (.int .i64 k)) (fun k => some (if ((l.take i).drop k).any (fun x => eqE x (l.getD i en0)) = true then pairA (i, 13) else pairA (firstBad (rErrAt l) (l.length - (i + 1)) (i + 1)))) rfl ?_ ?_
      · have hz : ((l.take i).drop i).any (fun x => eqE x (l.getD i en0)) = false := by rw [List.drop_eq_nil_of_le (by simp; omega)]; rfl
        simp (config := {decide := true, contextual := true, maxSteps := 5000000}) only [enc_len, castNlt (Nat.lt_irrefl _), hz, wrap_succ hlt (by omega), np16, res16, ↓simPre, simPost, capt_pure, argV_ro, argV_le, expo_pure, refsL_pure, isL_pure, k0_pure, k1_pure, ren0_pure, ren1_pure, sT_pure, sO_pure, bxGo_pure, resGo_pure, inst_pure, inst_rows, inst_bx, resP_go, viewT_pure, outs_skip, fzV_pure, bxL_pure, bxOf_pure, rowsOf_pure, rows1_pure, name1_pure, nameB1_pure, simR, reduceCtorEq, ↓reduceIte, splice, Nat.reduceAdd, Nat.reduceLT, Nat.reduceLeDiff, Nat.reduceEqDiff, Nat.reduceSub, noPtr, isPtr, notAgg, notIo, AV.capt, distinct, covers, O.keys, O.wr, okPair, disj, List.replicate, startOk]
        exact ih
      · intro k hk ihk
        have h4 : (l.take i).getD k en0 = l.getD k en0 := by
          simp only [List.getD_eq_getElem?_getD, List.getElem?_take]; rw [if_pos hk]
        have h8 := enc_get encE l k en0 (by omega)
        rw [drop_cons en0 (by rw [List.length_take]; omega), h4]
        simp only [encE] at h8
        cases hq : eqE (l.getD k en0) (l.getD i en0)
        · simp only [eqE] at hq
          simp (config := {decide := true, contextual := true, maxSteps := 5000000}) only [enc_len, castLt hk, castLt hlt, castLt (show k < l.length by omega), h9, h8, hq, eqE, wrap_succ hk (by omega), np16, res16, ↓simPre, simPost, capt_pure, argV_ro, argV_le, expo_pure, refsL_pure, isL_pure, k0_pure, k1_pure, ren0_pure, ren1_pure, sT_pure, sO_pure, bxGo_pure, resGo_pure, inst_pure, inst_rows, inst_bx, resP_go, viewT_pure, outs_skip, fzV_pure, bxL_pure, bxOf_pure, rowsOf_pure, rows1_pure, name1_pure, nameB1_pure, simR, reduceCtorEq, ↓reduceIte, splice, Nat.reduceAdd, Nat.reduceLT, Nat.reduceLeDiff, Nat.reduceEqDiff, Nat.reduceSub, noPtr, isPtr, notAgg, notIo, AV.capt, distinct, covers, O.keys, O.wr, okPair, disj, List.replicate, startOk]
          exact ihk
        · simp only [eqE] at hq
          simp (config := {decide := true, contextual := true, maxSteps := 5000000}) only [enc_len, castLt hk, castLt hlt, castLt (show k < l.length by omega), h9, h8, hq, eqE, pairA, np16, res16, ↓simPre, simPost, capt_pure, argV_ro, argV_le, expo_pure, refsL_pure, isL_pure, k0_pure, k1_pure, ren0_pure, ren1_pure, sT_pure, sO_pure, bxGo_pure, resGo_pure, inst_pure, inst_rows, inst_bx, resP_go, viewT_pure, outs_skip, fzV_pure, bxL_pure, bxOf_pure, rowsOf_pure, rows1_pure, name1_pure, nameB1_pure, simR, reduceCtorEq, ↓reduceIte, splice, Nat.reduceAdd, Nat.reduceLT, Nat.reduceLeDiff, Nat.reduceEqDiff, Nat.reduceSub, noPtr, isPtr, notAgg, notIo, AV.capt, distinct, covers, O.keys, O.wr, okPair, disj, List.replicate, startOk]
    · have : i = l.length := by omega
      subst this
      simp (config := {decide := true, contextual := true, maxSteps := 5000000}) only [enc_len, castNlt (Nat.lt_irrefl _), Nat.sub_self, firstBad, pairA, np16, res16, ↓simPre, simPost, capt_pure, argV_ro, argV_le, expo_pure, refsL_pure, isL_pure, k0_pure, k1_pure, ren0_pure, ren1_pure, sT_pure, sO_pure, bxGo_pure, resGo_pure, inst_pure, inst_rows, inst_bx, resP_go, viewT_pure, outs_skip, fzV_pure, bxL_pure, bxOf_pure, rowsOf_pure, rows1_pure, name1_pure, nameB1_pure, simR, reduceCtorEq, ↓reduceIte, splice, Nat.reduceAdd, Nat.reduceLT, Nat.reduceLeDiff, Nat.reduceEqDiff, Nat.reduceSub, noPtr, isPtr, notAgg, notIo, AV.capt, distinct, covers, O.keys, O.wr, okPair, disj, List.replicate, startOk]
end Go.Nv
/- Chapter 27, plain facts: the errors of entries. -/
namespace Go.Nv
theorem keyErr_iff (k : ByteArray) : keyErr k = !within (k.size : Int) 1 256 := by
  have h0 : (k.toList == (bs []).toList) = decide ((k.size : Int) < 1) := by
    rw [ByteArray.toList_eq, ByteArray.toList_eq, Bool.eq_iff_iff]
    simp only [beq_iff_eq, decide_eq_true_eq]
    constructor
    · intro h
      have := congrArg List.length h
      simp [bs] at this
      have : k.size = 0 := by rw [ByteArray.size, this]; rfl
      omega
    · intro h
      have : k.data.toList.length = 0 := by rw [Array.length_toList]; exact (by omega : k.size = 0)
      rw [List.length_eq_zero_iff.1 this]; rfl
  rw [keyErr, h0, within]
  by_cases h1 : (k.size : Int) < 1 <;> by_cases h2 : (k.size : Int) > 256 <;> simp [h1, h2] <;> omega
theorem rrnErr_iff (r : Int) : rrnErr r = !within r 1 60 := by
  rw [rrnErr, within]
  by_cases h1 : r < 1 <;> by_cases h2 : r > 60 <;> simp [h1, h2] <;> omega
theorem entryErr_eq (x : En) : entryErr x = rEntryErr x := by
  rw [entryErr, rEntryErr, keyErr_iff, rrnErr_iff]
  cases within (x.k.size : Int) 1 256 <;> cases within x.r 1 60 <;> decide
theorem eqE_symm (a b : En) : eqE a b = eqE b a := by
  unfold eqE; rw [Bool.beq_comm, Bool.beq_comm (a := a.r)]
theorem findI_any {α : Type} (p : α → Bool) : ∀ (l : List α) (n : Nat), decide (findI p l n ≥ 0) = l.any p
  | [], n => by simp [findI]
  | x :: l, n => by
    rw [List.any_cons]
    by_cases h : p x = true
    · have : findI p (x :: l) n = (n : Int) := by unfold findI; rw [if_pos h]
      rw [this, h]; simp
    · have : findI p (x :: l) n = findI p l (n + 1) := by rw [findI, if_neg h]
      have h' : p x = false := by simpa using h
      rw [this, h', Bool.false_or]; exact findI_any p l (n + 1)
theorem errAt_eq (l : List En) (i : Nat) : errAt l i = rErrAt l i := by
  have hd : decide (findI (eqE (l.getD i en0)) (l.take i) 0 ≥ 0) = rDup l i := by
    rw [findI_any]; unfold rDup
    congr 1; funext x; exact eqE_symm _ _
  unfold errAt rErrAt
  rw [hd, entryErr_eq]
  simp only [first, cond]
  cases h1 : (rEntryErr (l.getD i en0) != 0)
  · cases h2 : (((l.getD i en0).k.size : Int) != ((l.getD 0 en0).k.size : Int)) <;> cases h3 : rDup l i <;> simp
  · simp
theorem listErr_eq (l : List En) : listErr l = rListErr l := by
  unfold listErr rListErr
  have : errAt l = rErrAt l := funext fun i => errAt_eq l i
  rw [this]
end Go.Nv
/- BY VALUE: chapter 27, a law: trees. -/
namespace Go.Nv
variable {S : RT}
attribute [local congr] ite_congr congr_bindOps congr_bindC congr_bindD congr_onE congr_onA congr_onBool congr_onEff congr_headC congr_ob congr_ob2 congr_onI congr_onS congr_onAg congr_onTu congr_onRow congr_obO congr_takeR congr_ldV congr_ldN congr_iaV congr_onMap congr_stP congr_appA congr_frzR congr_onFn congr_fzV congr_callM congr_callN congr_onIo congr_giveR congr_rowS congr_bxS congr_bxC congr_rnR congr_rnP congr_onFin
set_option maxRecDepth 100000
set_option maxHeartbeats 40000000
theorem firstBad_zero (f : Nat → Int) : ∀ (n i : Nat), (firstBad f n i).2 = 0 → (firstBad f n i).1 = 0 ∧ ∀ j, i ≤ j → j < i + n → f j = 0
  | 0, i, _ => ⟨rfl, fun j h1 h2 => by omega⟩
  | n + 1, i, h => by
    unfold firstBad at h ⊢
    by_cases hc : (f i != 0) = true
    · rw [if_pos hc] at h
      simp at hc; exact absurd h hc
    · rw [if_neg hc] at h ⊢
      obtain ⟨h1, h2⟩ := firstBad_zero f n (i + 1) h
      have hc : f i = 0 := by simpa using hc
      exact ⟨h1, fun j g1 g2 => by
        by_cases hj : j = i
        · rw [hj]; exact hc
        · exact h2 j (by omega) (by omega)⟩
theorem listErr_ok {l : List En} (h : (listErr l).2 = 0) : (listErr l).1 = 0 ∧ Len (l.getD 0 en0).k.size l ∧ (0 < l.length → (l.getD 0 en0).k.size ≤ 256) := by
  unfold listErr at h ⊢
  split at h
  · cases h
  · rename_i hc
    rw [if_neg hc]
    obtain ⟨h1, h2⟩ := firstBad_zero _ _ _ h
    exact ⟨h1, errAt_len fun j hj => h2 j (Nat.zero_le _) (by omega)⟩
theorem sameL_refl : ∀ l : List Nd, sameL l l = true
  | [] => rfl
  | x :: l => by simp [sameL, sameN, sameL_refl l]
theorem buildF_rs : ∀ (f : Nat) (t : List Nd) (l : List En), ∀ x ∈ buildF f t l, (∃ y ∈ t, rsOf y = rsOf x) ∨ (rsOf x).length ≤ l.length
  | 0, t, l, x, hx => .inl ⟨x, hx, rfl⟩
  | f + 1, t, l, x, hx => by
    simp only [buildF] at hx
    split at hx
    · rcases List.mem_append.1 hx with h | h
      · exact .inl ⟨x, h, rfl⟩
      · simp only [List.mem_singleton] at h; subst h; exact .inr (by simp [rsOf])
    · generalize diffN (l.getD 0 en0).k (l.getD (l.length - 1) en0).k = d at hx
      generalize (findI (isBit d) l 0).toNat = c at hx
      have hr := buildF_rs f (t ++ [⟨d, t.length + 1, 0, bs [], [], false⟩]) (l.take c)
      have hin : ∀ y ∈ buildF f (t ++ [⟨d, t.length + 1, 0, bs [], [], false⟩]) (l.take c), (∃ z ∈ t, rsOf z = rsOf y) ∨ (rsOf y).length ≤ l.length := fun y hy => by
        rcases hr y hy with ⟨z, hz, e⟩ | h
        · rcases List.mem_append.1 hz with h | h
          · exact .inl ⟨z, h, e⟩
          · simp only [List.mem_singleton] at h; subst h; exact .inr (by rw [← e]; simp [rsOf])
        · exact .inr (Nat.le_trans h (by rw [List.length_take]; omega))
      generalize buildF f (t ++ [⟨d, t.length + 1, 0, bs [], [], false⟩]) (l.take c) = t1 at hx hin
      rcases buildF_rs f _ (l.drop c) x hx with ⟨y, hy, e⟩ | h
      · rcases List.mem_or_eq_of_mem_set hy with h | h
        · rw [← e]; exact hin y h
        · by_cases hlt : t.length < t1.length
          · have hm := hin (t1.getD t.length nd0) (by rw [List.getD_eq_getElem?_getD, List.getElem?_eq_getElem hlt]; exact List.getElem_mem hlt)
            have e2 : rsOf y = rsOf (t1.getD t.length nd0) := by rw [h]; rfl
            rw [← e, e2]; exact hm
          · refine .inr ?_
            have : t1.getD t.length nd0 = nd0 := by rw [List.getD_eq_getElem?_getD, List.getElem?_eq_none (by omega)]; rfl
            rw [← e, h, this]; simp [rsOf, nd0]
      · exact .inr (Nat.le_trans h (by rw [List.length_drop]; omega))
theorem treeF_bounds {l : List En} {n : Nat} (hn : Len n l) : (treeF l).length ≤ 2 * l.length ∧ ∀ x ∈ treeF l, (rsOf x).length ≤ l.length := by
  unfold treeF
  split
  · exact ⟨by simp, fun x hx => by cases hx⟩
  · have hb := buildF_len l.length [] (sortE l) n (by rw [sortE_len]; exact Nat.le_refl _) (by rw [sortE_len]; omega) (sortE_srt l) (sortE_Len hn)
    rw [sortE_len] at hb
    refine ⟨by have := hb.2; simp only [List.length_nil] at this; omega, fun x hx => ?_⟩
    rcases buildF_rs _ _ _ x hx with ⟨y, hy, _⟩ | h
    · cases hy
    · rwa [sortE_len] at h
theorem ndPure (l : List Nd) : allPure (l.map encV) = true := allPure_map encV (fun x => by cases h : x.leaf <;> simp [encV, h, AV.pure]) l
theorem run3 (hS : S27 S) (l : List En) : run T S 3 [.sl (l.map encE)] = some (.bool true) := by
  have k12 := run12 hS
  have k13 := run13 (S := S) l
  by_cases hf : fewE l = true
  · have hlen : l.length < 125 := by
      simp only [fewE, Bool.and_eq_true, decide_eq_true_eq] at hf; omega
    have k15 := run15 (S := S) l (by omega)
    have k14 := run14 hS l (by omega)
    have k16 := run16 (S := S) l (by omega)
    rw [← listErr_eq] at k16
    simp only [pairA] at k16
    unfold treeOf at k14
    generalize hp : listErr l = p at k14 k16
    obtain ⟨pi, pe⟩ := p
    by_cases hc : (pe != 0) = true
    · simp only [hc, if_true] at k14 k16
      have z0 : ((pi : Int) == (pi : Int)) = true := by simp
      have z1 : (pe == pe) = true := by simp
      (refine run_fn T3 ⟨rfl, by decide, by rfl⟩ ?_; rw [start3, body3, B3]; dsimp only [ov, oo, og])
      simp (config := {decide := true, contextual := true, maxSteps := 5000000}) only [k12, k13, k14, k15, k16, hf, hc, z0, z1, entPure, np3, res3, ↓simPre, simPost, capt_pure, argV_ro, argV_le, expo_pure, refsL_pure, isL_pure, k0_pure, k1_pure, ren0_pure, ren1_pure, sT_pure, sO_pure, bxGo_pure, resGo_pure, inst_pure, inst_rows, inst_bx, resP_go, viewT_pure, outs_skip, fzV_pure, bxL_pure, bxOf_pure, rowsOf_pure, rows1_pure, name1_pure, nameB1_pure, simR, reduceCtorEq, ↓reduceIte, splice, Nat.reduceAdd, Nat.reduceLT, Nat.reduceLeDiff, Nat.reduceEqDiff, Nat.reduceSub, noPtr, isPtr, notAgg, notIo, AV.capt, distinct, covers, O.keys, O.wr, okPair, disj, List.replicate, startOk]
      rfl
    · have hz : pe = 0 := by simpa using hc
      subst hz
      obtain ⟨a1, a2, a3⟩ := listErr_ok (l := l) (by rw [hp])
      rw [hp] at a1
      simp only at a1
      subst a1
      simp only [bne_self_eq_false, Bool.false_eq_true, if_false] at k14 k16
      have k18 := run18 (S := S) l (if 0 < l.length then (l.getD 0 en0).k.size else 0) (by omega) (by
        split
        · exact a2
        · have : l = [] := List.length_eq_zero_iff.1 (by omega)
          subst this; intro x hx; cases hx) (by split <;> omega)
      have vt := viewT_nodes (treeF l)
      have vb := treeF_bounds a2
      have k17 := run17 (S := S) (treeF l) (treeF l) (by omega) (fun x hx => by have := vb.2 x hx; omega)
      rw [beq_self_eq_true, sameL_refl] at k17
      have vp := ndPure (treeF l)
      cases hfl : flats ((treeF l).map encR)
      · (refine run_fn T3 ⟨rfl, by decide, by rfl⟩ ?_; rw [start3, body3, B3]; dsimp only [ov, oo, og])
        simp (config := {decide := true, contextual := true, maxSteps := 5000000}) only [k12, k13, k14, k15, k16, k18, hf, entPure, vt, vp, k17, hfl, np3, res3, ↓simPre, simPost, capt_pure, argV_ro, argV_le, expo_pure, refsL_pure, isL_pure, k0_pure, k1_pure, ren0_pure, ren1_pure, sT_pure, sO_pure, bxGo_pure, resGo_pure, inst_pure, inst_rows, inst_bx, resP_go, viewT_pure, outs_skip, fzV_pure, bxL_pure, bxOf_pure, rowsOf_pure, rows1_pure, name1_pure, nameB1_pure, simR, reduceCtorEq, ↓reduceIte, splice, Nat.reduceAdd, Nat.reduceLT, Nat.reduceLeDiff, Nat.reduceEqDiff, Nat.reduceSub, noPtr, isPtr, notAgg, notIo, AV.capt, distinct, covers, O.keys, O.wr, okPair, disj, List.replicate, startOk]
      · (refine run_fn T3 ⟨rfl, by decide, by rfl⟩ ?_; rw [start3, body3, B3]; dsimp only [ov, oo, og])
        simp (config := {decide := true, contextual := true, maxSteps := 5000000}) only [k12, k13, k14, k15, k16, k18, hf, entPure, vt, vp, k17, hfl, np3, res3, ↓simPre, simPost, capt_pure, argV_ro, argV_le, expo_pure, refsL_pure, isL_pure, k0_pure, k1_pure, ren0_pure, ren1_pure, sT_pure, sO_pure, bxGo_pure, resGo_pure, inst_pure, inst_rows, inst_bx, resP_go, viewT_pure, outs_skip, fzV_pure, bxL_pure, bxOf_pure, rowsOf_pure, rows1_pure, name1_pure, nameB1_pure, simR, reduceCtorEq, ↓reduceIte, splice, Nat.reduceAdd, Nat.reduceLT, Nat.reduceLeDiff, Nat.reduceEqDiff, Nat.reduceSub, noPtr, isPtr, notAgg, notIo, AV.capt, distinct, covers, O.keys, O.wr, okPair, disj, List.replicate, startOk]
  · have hf' : fewE l = false := by simpa using hf
    (refine run_fn T3 ⟨rfl, by decide, by rfl⟩ ?_; rw [start3, body3, B3]; dsimp only [ov, oo, og])
    simp (config := {decide := true, contextual := true, maxSteps := 5000000}) only [k12, k13, hf', np3, res3, ↓simPre, simPost, capt_pure, argV_ro, argV_le, expo_pure, refsL_pure, isL_pure, k0_pure, k1_pure, ren0_pure, ren1_pure, sT_pure, sO_pure, bxGo_pure, resGo_pure, inst_pure, inst_rows, inst_bx, resP_go, viewT_pure, outs_skip, fzV_pure, bxL_pure, bxOf_pure, rowsOf_pure, rows1_pure, name1_pure, nameB1_pure, simR, reduceCtorEq, ↓reduceIte, splice, Nat.reduceAdd, Nat.reduceLT, Nat.reduceLeDiff, Nat.reduceEqDiff, Nat.reduceSub, noPtr, isPtr, notAgg, notIo, AV.capt, distinct, covers, O.keys, O.wr, okPair, disj, List.replicate, startOk]
end Go.Nv
/- BY VALUE: chapter 27, the order of entries. -/
namespace Go.Nv
variable {S : RT}
attribute [local congr] ite_congr congr_bindOps congr_bindC congr_bindD congr_onE congr_onA congr_onBool congr_onEff congr_headC congr_ob congr_ob2 congr_onI congr_onS congr_onAg congr_onTu congr_onRow congr_obO congr_takeR congr_ldV congr_ldN congr_iaV congr_onMap congr_stP congr_appA congr_frzR congr_onFn congr_fzV congr_callM congr_callN congr_onIo congr_giveR congr_rowS congr_bxS congr_bxC congr_rnR congr_rnP congr_onFin
set_option maxRecDepth 100000
set_option maxHeartbeats 40000000
theorem run142 (a : Int) : run T S 142 [.int .i64 a] = some (.bool false) := by
  have h : (a != a) = false := by simp
  (refine run_fn T142 ⟨rfl, by decide, by rfl⟩ ?_; rw [start142, body142, B142]; dsimp only [ov, oo, og])
  simp (config := {decide := true, contextual := true, maxSteps := 5000000}) only [h, np142, res142, ↓simPre, simPost, capt_pure, argV_ro, argV_le, expo_pure, refsL_pure, isL_pure, k0_pure, k1_pure, ren0_pure, ren1_pure, sT_pure, sO_pure, bxGo_pure, resGo_pure, inst_pure, inst_rows, inst_bx, resP_go, viewT_pure, outs_skip, fzV_pure, bxL_pure, bxOf_pure, rowsOf_pure, rows1_pure, name1_pure, nameB1_pure, simR, reduceCtorEq, ↓reduceIte, splice, Nat.reduceAdd, Nat.reduceLT, Nat.reduceLeDiff, Nat.reduceEqDiff, Nat.reduceSub, noPtr, isPtr, notAgg, notIo, AV.capt, distinct, covers, O.keys, O.wr, okPair, disj, List.replicate, startOk]
def cmpI (a b : Int) : Int := if a < b then -1 else if a > b then 1 else 0
theorem run123 (a b : Int) : run T S 123 [.int .i64 a, .int .i64 b] = some (.int .i64 (cmpI a b)) := by
  by_cases h1 : a < b
  · have h1' : decide (a < b) = true := by simpa using h1
    (refine run_fn T123 ⟨rfl, by decide, by rfl⟩ ?_; rw [start123, body123, B123]; dsimp only [ov, oo, og])
    simp (config := {decide := true, contextual := true, maxSteps := 5000000}) only [run142, cmpI, h1, h1', np123, res123, ↓simPre, simPost, capt_pure, argV_ro, argV_le, expo_pure, refsL_pure, isL_pure, k0_pure, k1_pure, ren0_pure, ren1_pure, sT_pure, sO_pure, bxGo_pure, resGo_pure, inst_pure, inst_rows, inst_bx, resP_go, viewT_pure, outs_skip, fzV_pure, bxL_pure, bxOf_pure, rowsOf_pure, rows1_pure, name1_pure, nameB1_pure, simR, reduceCtorEq, ↓reduceIte, splice, Nat.reduceAdd, Nat.reduceLT, Nat.reduceLeDiff, Nat.reduceEqDiff, Nat.reduceSub, noPtr, isPtr, notAgg, notIo, AV.capt, distinct, covers, O.keys, O.wr, okPair, disj, List.replicate, startOk]
  · have h1' : decide (a < b) = false := by simpa using h1
    by_cases h2 : a > b
    · have h2' : decide (a > b) = true := by simpa using h2
      (refine run_fn T123 ⟨rfl, by decide, by rfl⟩ ?_; rw [start123, body123, B123]; dsimp only [ov, oo, og])
      simp (config := {decide := true, contextual := true, maxSteps := 5000000}) only [run142, cmpI, h1, h1', h2, h2', np123, res123, ↓simPre, simPost, capt_pure, argV_ro, argV_le, expo_pure, refsL_pure, isL_pure, k0_pure, k1_pure, ren0_pure, ren1_pure, sT_pure, sO_pure, bxGo_pure, resGo_pure, inst_pure, inst_rows, inst_bx, resP_go, viewT_pure, outs_skip, fzV_pure, bxL_pure, bxOf_pure, rowsOf_pure, rows1_pure, name1_pure, nameB1_pure, simR, reduceCtorEq, ↓reduceIte, splice, Nat.reduceAdd, Nat.reduceLT, Nat.reduceLeDiff, Nat.reduceEqDiff, Nat.reduceSub, noPtr, isPtr, notAgg, notIo, AV.capt, distinct, covers, O.keys, O.wr, okPair, disj, List.replicate, startOk]
    · have h2' : decide (a > b) = false := by simpa using h2
      (refine run_fn T123 ⟨rfl, by decide, by rfl⟩ ?_; rw [start123, body123, B123]; dsimp only [ov, oo, og])
      simp (config := {decide := true, contextual := true, maxSteps := 5000000}) only [run142, cmpI, h1, h1', h2, h2', np123, res123, ↓simPre, simPost, capt_pure, argV_ro, argV_le, expo_pure, refsL_pure, isL_pure, k0_pure, k1_pure, ren0_pure, ren1_pure, sT_pure, sO_pure, bxGo_pure, resGo_pure, inst_pure, inst_rows, inst_bx, resP_go, viewT_pure, outs_skip, fzV_pure, bxL_pure, bxOf_pure, rowsOf_pure, rows1_pure, name1_pure, nameB1_pure, simR, reduceCtorEq, ↓reduceIte, splice, Nat.reduceAdd, Nat.reduceLT, Nat.reduceLeDiff, Nat.reduceEqDiff, Nat.reduceSub, noPtr, isPtr, notAgg, notIo, AV.capt, distinct, covers, O.keys, O.wr, okPair, disj, List.replicate, startOk]
theorem run121 (l : List Int) (hl : l.length ≤ 1000) : run T S 121 [.sl (ints l)] = some (.int .i64 (first l)) := by
  (refine run_fn T121 ⟨rfl, by decide, by rfl⟩ ?_; rw [start121, body121, B121]; dsimp only [ov, oo, og])
  simp (config := {decide := true, contextual := true, maxSteps := 5000000}) only [ints_len, np121, res121, ↓simPre, simPost, capt_pure, argV_ro, argV_le, expo_pure, refsL_pure, isL_pure, k0_pure, k1_pure, ren0_pure, ren1_pure, sT_pure, sO_pure, bxGo_pure, resGo_pure, inst_pure, inst_rows, inst_bx, resP_go, viewT_pure, outs_skip, fzV_pure, bxL_pure, bxOf_pure, rowsOf_pure, rows1_pure, name1_pure, nameB1_pure, simR, reduceCtorEq, ↓reduceIte, splice, Nat.reduceAdd, Nat.reduceLT, Nat.reduceLeDiff, Nat.reduceEqDiff, Nat.reduceSub, noPtr, isPtr, notAgg, notIo, AV.capt, distinct, covers, O.keys, O.wr, okPair, disj, List.replicate, startOk]
  refine headC_range l.length (fun i e => e.put (some 8) (.int .i64 i)) (fun i => some (AV.int .i64 (first (l.drop i)))) rfl ?_ ?_
  · simp (config := {decide := true, contextual := true, maxSteps := 5000000}) only [ints_len, castNlt (Nat.lt_irrefl _), List.drop_length, first, np121, res121, ↓simPre, simPost, capt_pure, argV_ro, argV_le, expo_pure, refsL_pure, isL_pure, k0_pure, k1_pure, ren0_pure, ren1_pure, sT_pure, sO_pure, bxGo_pure, resGo_pure, inst_pure, inst_rows, inst_bx, resP_go, viewT_pure, outs_skip, fzV_pure, bxL_pure, bxOf_pure, rowsOf_pure, rows1_pure, name1_pure, nameB1_pure, simR, reduceCtorEq, ↓reduceIte, splice, Nat.reduceAdd, Nat.reduceLT, Nat.reduceLeDiff, Nat.reduceEqDiff, Nat.reduceSub, noPtr, isPtr, notAgg, notIo, AV.capt, distinct, covers, O.keys, O.wr, okPair, disj, List.replicate, startOk]
  · intro i hlt ih
    rw [drop_cons 0 hlt]
    simp (config := {decide := true, contextual := true, maxSteps := 5000000}) only [ints_len, castLt hlt, ints_get l i hlt, wrap_succ hlt (by omega), first, np121, res121, ↓simPre, simPost, capt_pure, argV_ro, argV_le, expo_pure, refsL_pure, isL_pure, k0_pure, k1_pure, ren0_pure, ren1_pure, sT_pure, sO_pure, bxGo_pure, resGo_pure, inst_pure, inst_rows, inst_bx, resP_go, viewT_pure, outs_skip, fzV_pure, bxL_pure, bxOf_pure, rowsOf_pure, rows1_pure, name1_pure, nameB1_pure, simR, reduceCtorEq, ↓reduceIte, splice, Nat.reduceAdd, Nat.reduceLT, Nat.reduceLeDiff, Nat.reduceEqDiff, Nat.reduceSub, noPtr, isPtr, notAgg, notIo, AV.capt, distinct, covers, O.keys, O.wr, okPair, disj, List.replicate, startOk]
    split
    · rfl
    · exact ih
def cmpS (a b : ByteArray) : Int := if a.data.toList < b.data.toList then -1 else if a = b then 0 else 1
theorem run122 (hS : Cmp27 S) (a b : ByteArray) : run T S 122 [.str a, .str b] = some (.int .i64 (cmpS a b)) := by
  have h : run T S 141 [.str a, .str b] = some (.int .i64 (cmpS a b)) := run_ext rfl (hS a b)
  (refine run_fn T122 ⟨rfl, by decide, by rfl⟩ ?_; rw [start122, body122, B122]; dsimp only [ov, oo, og])
  simp (config := {decide := true, contextual := true, maxSteps := 5000000}) only [h, np122, res122, ↓simPre, simPost, capt_pure, argV_ro, argV_le, expo_pure, refsL_pure, isL_pure, k0_pure, k1_pure, ren0_pure, ren1_pure, sT_pure, sO_pure, bxGo_pure, resGo_pure, inst_pure, inst_rows, inst_bx, resP_go, viewT_pure, outs_skip, fzV_pure, bxL_pure, bxOf_pure, rowsOf_pure, rows1_pure, name1_pure, nameB1_pure, simR, reduceCtorEq, ↓reduceIte, splice, Nat.reduceAdd, Nat.reduceLT, Nat.reduceLeDiff, Nat.reduceEqDiff, Nat.reduceSub, noPtr, isPtr, notAgg, notIo, AV.capt, distinct, covers, O.keys, O.wr, okPair, disj, List.replicate, startOk]
def cmpE (a b : En) : Int := first [cmpS a.k b.k, cmpI a.r b.r]
theorem run90 (hS : Cmp27 S) (a b : En) : run T S 90 [.agg (encE a), .agg (encE b)] = some (.int .i64 (cmpE a b)) := by
  have h1 := run122 hS a.k b.k
  have h2 := run123 (S := S) a.r b.r
  have h3 := run121 (S := S) [cmpS a.k b.k, cmpI a.r b.r] (by simp)
  simp only [ints, List.map_cons, List.map_nil] at h3
  (refine run_fn T90 ⟨rfl, by decide, by rfl⟩ ?_; rw [start90, body90, B90]; dsimp only [ov, oo, og])
  simp (config := {decide := true, contextual := true, maxSteps := 5000000}) only [encE, h1, h2, h3, cmpE, np90, res90, ↓simPre, simPost, capt_pure, argV_ro, argV_le, expo_pure, refsL_pure, isL_pure, k0_pure, k1_pure, ren0_pure, ren1_pure, sT_pure, sO_pure, bxGo_pure, resGo_pure, inst_pure, inst_rows, inst_bx, resP_go, viewT_pure, outs_skip, fzV_pure, bxL_pure, bxOf_pure, rowsOf_pure, rows1_pure, name1_pure, nameB1_pure, simR, reduceCtorEq, ↓reduceIte, splice, Nat.reduceAdd, Nat.reduceLT, Nat.reduceLeDiff, Nat.reduceEqDiff, Nat.reduceSub, noPtr, isPtr, notAgg, notIo, AV.capt, distinct, covers, O.keys, O.wr, okPair, disj, List.replicate, startOk]
end Go.Nv
/- BY VALUE: chapter 27, trees (1): comparing; the error of a leaf; entries. -/
namespace Go.Nv
variable {S : RT}
attribute [local congr] ite_congr congr_bindOps congr_bindC congr_bindD congr_onE congr_onA congr_onBool congr_onEff congr_headC congr_ob congr_ob2 congr_onI congr_onS congr_onAg congr_onTu congr_onRow congr_obO congr_takeR congr_ldV congr_ldN congr_iaV congr_onMap congr_stP congr_appA congr_frzR congr_onFn congr_fzV congr_callM congr_callN congr_onIo congr_giveR congr_rowS congr_bxS congr_bxC congr_rnR congr_rnP congr_onFin
set_option maxRecDepth 100000
set_option maxHeartbeats 40000000
def strs (l : List ByteArray) : List (List AV) := l.map fun s => [.str s]
theorem strs_len (l : List ByteArray) : (strs l).length = l.length := by simp [strs]
theorem strs_get (l : List ByteArray) (i : Nat) (h : i < l.length) : (strs l).getD i [] = [.str (l.getD i (bs []))] := by
  simp [strs, List.getD_eq_getElem?_getD, List.getElem?_map, List.getElem?_eq_getElem h]
theorem strs_pure (l : List ByteArray) : allPure (strs l) = true := by simp [allPure, strs, AV.pure]
def eqK (s : ByteArray) (x : ByteArray) : Bool := s.toList == x.toList
theorem run124 (l : List ByteArray) (s : ByteArray) (hl : l.length ≤ 100000) : run T S 124 [.sl (strs l), .str s] = some (.int .i64 (findI (eqK s) l 0)) := by
  (refine run_fn T124 ⟨rfl, by decide, by rfl⟩ ?_; rw [start124, body124, B124]; dsimp only [ov, oo, og])
  simp (config := {decide := true, contextual := true, maxSteps := 5000000}) only [strs_len, np124, res124, ↓simPre, simPost, capt_pure, argV_ro, argV_le, expo_pure, refsL_pure, isL_pure, k0_pure, k1_pure, ren0_pure, ren1_pure, sT_pure, sO_pure, bxGo_pure, resGo_pure, inst_pure, inst_rows, inst_bx, resP_go, viewT_pure, outs_skip, fzV_pure, bxL_pure, bxOf_pure, rowsOf_pure, rows1_pure, name1_pure, nameB1_pure, simR, reduceCtorEq, ↓reduceIte, splice, Nat.reduceAdd, Nat.reduceLT, Nat.reduceLeDiff, Nat.reduceEqDiff, Nat.reduceSub, noPtr, isPtr, notAgg, notIo, AV.capt, distinct, covers, O.keys, O.wr, okPair, disj, List.replicate, startOk]
  refine headC_range l.length (fun i e => e.put (some 8) (.int .i64 i)) (fun i => some (AV.int .i64 (findI (eqK s) (l.drop i) i))) rfl ?_ ?_
  · simp (config := {decide := true, contextual := true, maxSteps := 5000000}) only [strs_len, castNlt (Nat.lt_irrefl _), List.drop_length, findI, np124, res124, ↓simPre, simPost, capt_pure, argV_ro, argV_le, expo_pure, refsL_pure, isL_pure, k0_pure, k1_pure, ren0_pure, ren1_pure, sT_pure, sO_pure, bxGo_pure, resGo_pure, inst_pure, inst_rows, inst_bx, resP_go, viewT_pure, outs_skip, fzV_pure, bxL_pure, bxOf_pure, rowsOf_pure, rows1_pure, name1_pure, nameB1_pure, simR, reduceCtorEq, ↓reduceIte, splice, Nat.reduceAdd, Nat.reduceLT, Nat.reduceLeDiff, Nat.reduceEqDiff, Nat.reduceSub, noPtr, isPtr, notAgg, notIo, AV.capt, distinct, covers, O.keys, O.wr, okPair, disj, List.replicate, startOk]
  · intro i hlt ih
    rw [drop_cons (bs []) hlt]
    simp (config := {decide := true, contextual := true, maxSteps := 5000000}) only [strs_len, castLt hlt, strs_get l i hlt, wrap_succ hlt (by omega), findI, eqK, np124, res124, ↓simPre, simPost, capt_pure, argV_ro, argV_le, expo_pure, refsL_pure, isL_pure, k0_pure, k1_pure, ren0_pure, ren1_pure, sT_pure, sO_pure, bxGo_pure, resGo_pure, inst_pure, inst_rows, inst_bx, resP_go, viewT_pure, outs_skip, fzV_pure, bxL_pure, bxOf_pure, rowsOf_pure, rows1_pure, name1_pure, nameB1_pure, simR, reduceCtorEq, ↓reduceIte, splice, Nat.reduceAdd, Nat.reduceLT, Nat.reduceLeDiff, Nat.reduceEqDiff, Nat.reduceSub, noPtr, isPtr, notAgg, notIo, AV.capt, distinct, covers, O.keys, O.wr, okPair, disj, List.replicate, startOk]
    (split <;> rename_i hc <;> (try simp only [hc, if_true, if_false, Bool.false_eq_true]) <;> first | rfl | exact ih)
theorem run93 (l : List ByteArray) (s : ByteArray) (hl : l.length ≤ 100000) : run T S 93 [.sl (strs l), .str s] = some (.bool (decide (findI (eqK s) l 0 ≥ 0))) := by
  have h := run124 (S := S) l s hl
  (refine run_fn T93 ⟨rfl, by decide, by rfl⟩ ?_; rw [start93, body93, B93]; dsimp only [ov, oo, og])
  simp (config := {decide := true, contextual := true, maxSteps := 5000000}) only [h, np93, res93, ↓simPre, simPost, capt_pure, argV_ro, argV_le, expo_pure, refsL_pure, isL_pure, k0_pure, k1_pure, ren0_pure, ren1_pure, sT_pure, sO_pure, bxGo_pure, resGo_pure, inst_pure, inst_rows, inst_bx, resP_go, viewT_pure, outs_skip, fzV_pure, bxL_pure, bxOf_pure, rowsOf_pure, rows1_pure, name1_pure, nameB1_pure, simR, reduceCtorEq, ↓reduceIte, splice, Nat.reduceAdd, Nat.reduceLT, Nat.reduceLeDiff, Nat.reduceEqDiff, Nat.reduceSub, noPtr, isPtr, notAgg, notIo, AV.capt, distinct, covers, O.keys, O.wr, okPair, disj, List.replicate, startOk]
theorem run94 (a b : List Int) (ha : a.length ≤ 100000) : run T S 94 [.sl (ints a), .sl (ints b)] = some (.bool (a == b)) := by
  by_cases h : a.length = b.length
  · (refine run_fn T94 ⟨rfl, by decide, by rfl⟩ ?_; rw [start94, body94, B94]; dsimp only [ov, oo, og])
    simp (config := {decide := true, contextual := true, maxSteps := 5000000}) only [ints_len, h, bne_self_eq_false, np94, res94, ↓simPre, simPost, capt_pure, argV_ro, argV_le, expo_pure, refsL_pure, isL_pure, k0_pure, k1_pure, ren0_pure, ren1_pure, sT_pure, sO_pure, bxGo_pure, resGo_pure, inst_pure, inst_rows, inst_bx, resP_go, viewT_pure, outs_skip, fzV_pure, bxL_pure, bxOf_pure, rowsOf_pure, rows1_pure, name1_pure, nameB1_pure, simR, reduceCtorEq, ↓reduceIte, splice, Nat.reduceAdd, Nat.reduceLT, Nat.reduceLeDiff, Nat.reduceEqDiff, Nat.reduceSub, noPtr, isPtr, notAgg, notIo, AV.capt, distinct, covers, O.keys, O.wr, okPair, disj, List.replicate, startOk]
    refine headC_range a.length (fun i e => e.put (some 13) (.int .i64 i)) (fun i => some (AV.bool (a.drop i == b.drop i))) rfl ?_ ?_
    · have hy : (a.drop b.length == b.drop b.length) = true := by rw [← h, List.drop_length, h, List.drop_length]; rfl
      simp (config := {decide := true, contextual := true, maxSteps := 5000000}) only [ints_len, h, castNlt (Nat.lt_irrefl _), hy, np94, res94, ↓simPre, simPost, capt_pure, argV_ro, argV_le, expo_pure, refsL_pure, isL_pure, k0_pure, k1_pure, ren0_pure, ren1_pure, sT_pure, sO_pure, bxGo_pure, resGo_pure, inst_pure, inst_rows, inst_bx, resP_go, viewT_pure, outs_skip, fzV_pure, bxL_pure, bxOf_pure, rowsOf_pure, rows1_pure, name1_pure, nameB1_pure, simR, reduceCtorEq, ↓reduceIte, splice, Nat.reduceAdd, Nat.reduceLT, Nat.reduceLeDiff, Nat.reduceEqDiff, Nat.reduceSub, noPtr, isPtr, notAgg, notIo, AV.capt, distinct, covers, O.keys, O.wr, okPair, disj, List.replicate, startOk]
    · intro i hlt ih
      have hb : i < b.length := by omega
      rw [drop_cons 0 hlt, drop_cons 0 hb]
      cases h9 : (a.getD i 0 == b.getD i 0)
      · simp (config := {decide := true, contextual := true, maxSteps := 5000000}) only [ints_len, castLt hlt, castLt hb, ints_get a i hlt, ints_get b i hb, wrap_succ hlt (by omega), List.cons_beq_cons, bne, h9, np94, res94, ↓simPre, simPost, capt_pure, argV_ro, argV_le, expo_pure, refsL_pure, isL_pure, k0_pure, k1_pure, ren0_pure, ren1_pure, sT_pure, sO_pure, bxGo_pure, resGo_pure, inst_pure, inst_rows, inst_bx, resP_go, viewT_pure, outs_skip, fzV_pure, bxL_pure, bxOf_pure, rowsOf_pure, rows1_pure, name1_pure, nameB1_pure, simR, reduceCtorEq, ↓reduceIte, splice, Nat.reduceAdd, Nat.reduceLT, Nat.reduceLeDiff, Nat.reduceEqDiff, Nat.reduceSub, noPtr, isPtr, notAgg, notIo, AV.capt, distinct, covers, O.keys, O.wr, okPair, disj, List.replicate, startOk]
      · simp (config := {decide := true, contextual := true, maxSteps := 5000000}) only [ints_len, castLt hlt, castLt hb, ints_get a i hlt, ints_get b i hb, wrap_succ hlt (by omega), List.cons_beq_cons, bne, h9, np94, res94, ↓simPre, simPost, capt_pure, argV_ro, argV_le, expo_pure, refsL_pure, isL_pure, k0_pure, k1_pure, ren0_pure, ren1_pure, sT_pure, sO_pure, bxGo_pure, resGo_pure, inst_pure, inst_rows, inst_bx, resP_go, viewT_pure, outs_skip, fzV_pure, bxL_pure, bxOf_pure, rowsOf_pure, rows1_pure, name1_pure, nameB1_pure, simR, reduceCtorEq, ↓reduceIte, splice, Nat.reduceAdd, Nat.reduceLT, Nat.reduceLeDiff, Nat.reduceEqDiff, Nat.reduceSub, noPtr, isPtr, notAgg, notIo, AV.capt, distinct, covers, O.keys, O.wr, okPair, disj, List.replicate, startOk]
        exact ih
  · have h' : ((a.length : Int) != (b.length : Int)) = true := by simpa [bne_iff_ne] using (fun hh => h (by omega))
    have h2 : (a == b) = false := beq_eq_false_iff_ne.2 (fun hh => h (by rw [hh]))
    rw [h2]
    (refine run_fn T94 ⟨rfl, by decide, by rfl⟩ ?_; rw [start94, body94, B94]; dsimp only [ov, oo, og])
    simp (config := {decide := true, contextual := true, maxSteps := 5000000}) only [ints_len, h', np94, res94, ↓simPre, simPost, capt_pure, argV_ro, argV_le, expo_pure, refsL_pure, isL_pure, k0_pure, k1_pure, ren0_pure, ren1_pure, sT_pure, sO_pure, bxGo_pure, resGo_pure, inst_pure, inst_rows, inst_bx, resP_go, viewT_pure, outs_skip, fzV_pure, bxL_pure, bxOf_pure, rowsOf_pure, rows1_pure, name1_pure, nameB1_pure, simR, reduceCtorEq, ↓reduceIte, splice, Nat.reduceAdd, Nat.reduceLT, Nat.reduceLeDiff, Nat.reduceEqDiff, Nat.reduceSub, noPtr, isPtr, notAgg, notIo, AV.capt, distinct, covers, O.keys, O.wr, okPair, disj, List.replicate, startOk]
theorem run63 (a b : Nd) (ha : (rsOf a).length ≤ 100000) : run T S 63 [.agg (encN a), .agg (encN b)] = some (.bool (sameN a b)) := by
  have h37 := run94 (S := S) (rsOf a) (rsOf b) ha
  cases h1 : (a.b == b.b)
  · (refine run_fn T63 ⟨rfl, by decide, by rfl⟩ ?_; rw [start63, body63, B63]; dsimp only [ov, oo, og])
    simp (config := {decide := true, contextual := true, maxSteps := 5000000}) only [encN, sameN, h1, np63, res63, ↓simPre, simPost, capt_pure, argV_ro, argV_le, expo_pure, refsL_pure, isL_pure, k0_pure, k1_pure, ren0_pure, ren1_pure, sT_pure, sO_pure, bxGo_pure, resGo_pure, inst_pure, inst_rows, inst_bx, resP_go, viewT_pure, outs_skip, fzV_pure, bxL_pure, bxOf_pure, rowsOf_pure, rows1_pure, name1_pure, nameB1_pure, simR, reduceCtorEq, ↓reduceIte, splice, Nat.reduceAdd, Nat.reduceLT, Nat.reduceLeDiff, Nat.reduceEqDiff, Nat.reduceSub, noPtr, isPtr, notAgg, notIo, AV.capt, distinct, covers, O.keys, O.wr, okPair, disj, List.replicate, startOk]
  cases h2 : (a.lt == b.lt)
  · (refine run_fn T63 ⟨rfl, by decide, by rfl⟩ ?_; rw [start63, body63, B63]; dsimp only [ov, oo, og])
    simp (config := {decide := true, contextual := true, maxSteps := 5000000}) only [encN, sameN, h1, h2, np63, res63, ↓simPre, simPost, capt_pure, argV_ro, argV_le, expo_pure, refsL_pure, isL_pure, k0_pure, k1_pure, ren0_pure, ren1_pure, sT_pure, sO_pure, bxGo_pure, resGo_pure, inst_pure, inst_rows, inst_bx, resP_go, viewT_pure, outs_skip, fzV_pure, bxL_pure, bxOf_pure, rowsOf_pure, rows1_pure, name1_pure, nameB1_pure, simR, reduceCtorEq, ↓reduceIte, splice, Nat.reduceAdd, Nat.reduceLT, Nat.reduceLeDiff, Nat.reduceEqDiff, Nat.reduceSub, noPtr, isPtr, notAgg, notIo, AV.capt, distinct, covers, O.keys, O.wr, okPair, disj, List.replicate, startOk]
  cases h3 : (a.rt == b.rt)
  · (refine run_fn T63 ⟨rfl, by decide, by rfl⟩ ?_; rw [start63, body63, B63]; dsimp only [ov, oo, og])
    simp (config := {decide := true, contextual := true, maxSteps := 5000000}) only [encN, sameN, h1, h2, h3, np63, res63, ↓simPre, simPost, capt_pure, argV_ro, argV_le, expo_pure, refsL_pure, isL_pure, k0_pure, k1_pure, ren0_pure, ren1_pure, sT_pure, sO_pure, bxGo_pure, resGo_pure, inst_pure, inst_rows, inst_bx, resP_go, viewT_pure, outs_skip, fzV_pure, bxL_pure, bxOf_pure, rowsOf_pure, rows1_pure, name1_pure, nameB1_pure, simR, reduceCtorEq, ↓reduceIte, splice, Nat.reduceAdd, Nat.reduceLT, Nat.reduceLeDiff, Nat.reduceEqDiff, Nat.reduceSub, noPtr, isPtr, notAgg, notIo, AV.capt, distinct, covers, O.keys, O.wr, okPair, disj, List.replicate, startOk]
  cases h4 : (a.k.toList == b.k.toList)
  · (refine run_fn T63 ⟨rfl, by decide, by rfl⟩ ?_; rw [start63, body63, B63]; dsimp only [ov, oo, og])
    simp (config := {decide := true, contextual := true, maxSteps := 5000000}) only [encN, sameN, h1, h2, h3, h4, np63, res63, ↓simPre, simPost, capt_pure, argV_ro, argV_le, expo_pure, refsL_pure, isL_pure, k0_pure, k1_pure, ren0_pure, ren1_pure, sT_pure, sO_pure, bxGo_pure, resGo_pure, inst_pure, inst_rows, inst_bx, resP_go, viewT_pure, outs_skip, fzV_pure, bxL_pure, bxOf_pure, rowsOf_pure, rows1_pure, name1_pure, nameB1_pure, simR, reduceCtorEq, ↓reduceIte, splice, Nat.reduceAdd, Nat.reduceLT, Nat.reduceLeDiff, Nat.reduceEqDiff, Nat.reduceSub, noPtr, isPtr, notAgg, notIo, AV.capt, distinct, covers, O.keys, O.wr, okPair, disj, List.replicate, startOk]
  · (refine run_fn T63 ⟨rfl, by decide, by rfl⟩ ?_; rw [start63, body63, B63]; dsimp only [ov, oo, og])
    simp (config := {decide := true, contextual := true, maxSteps := 5000000}) only [encN, sameN, h1, h2, h3, h4, h37, np63, res63, ↓simPre, simPost, capt_pure, argV_ro, argV_le, expo_pure, refsL_pure, isL_pure, k0_pure, k1_pure, ren0_pure, ren1_pure, sT_pure, sO_pure, bxGo_pure, resGo_pure, inst_pure, inst_rows, inst_bx, resP_go, viewT_pure, outs_skip, fzV_pure, bxL_pure, bxOf_pure, rowsOf_pure, rows1_pure, name1_pure, nameB1_pure, simR, reduceCtorEq, ↓reduceIte, splice, Nat.reduceAdd, Nat.reduceLT, Nat.reduceLeDiff, Nat.reduceEqDiff, Nat.reduceSub, noPtr, isPtr, notAgg, notIo, AV.capt, distinct, covers, O.keys, O.wr, okPair, disj, List.replicate, startOk]
def entsErr (k : ByteArray) (rs : List Int) : Int := first (rs.map fun r => entryErr ⟨k, r⟩)
def leafE (x : Nd) : Int := if (rsOf x).length = 0 then 1 else entsErr x.k (rsOf x)
theorem run92 (x : Nd) (hx : (rsOf x).length ≤ 100000) : run T S 92 [.agg (encN x)] = some (.int .i64 (leafE x)) := by
  unfold leafE
  by_cases h : (rsOf x).length = 0
  · have : rsOf x = [] := List.length_eq_zero_iff.1 h
    (refine run_fn T92 ⟨rfl, by decide, by rfl⟩ ?_; rw [start92, body92, B92]; dsimp only [ov, oo, og])
    simp (config := {decide := true, contextual := true, maxSteps := 5000000}) only [encN, this, ints, np92, res92, ↓simPre, simPost, capt_pure, argV_ro, argV_le, expo_pure, refsL_pure, isL_pure, k0_pure, k1_pure, ren0_pure, ren1_pure, sT_pure, sO_pure, bxGo_pure, resGo_pure, inst_pure, inst_rows, inst_bx, resP_go, viewT_pure, outs_skip, fzV_pure, bxL_pure, bxOf_pure, rowsOf_pure, rows1_pure, name1_pure, nameB1_pure, simR, reduceCtorEq, ↓reduceIte, splice, Nat.reduceAdd, Nat.reduceLT, Nat.reduceLeDiff, Nat.reduceEqDiff, Nat.reduceSub, noPtr, isPtr, notAgg, notIo, AV.capt, distinct, covers, O.keys, O.wr, okPair, disj, List.replicate, startOk]
  · have hb : (((rsOf x).length : Int) == 0) = false := beq_eq_false_iff_ne.2 (by omega)
    rw [if_neg h]
    generalize hr : rsOf x = rs at *
    (refine run_fn T92 ⟨rfl, by decide, by rfl⟩ ?_; rw [start92, body92, B92]; dsimp only [ov, oo, og])
    simp (config := {decide := true, contextual := true, maxSteps := 5000000}) only [encN, hr, ints_len, hb, np92, res92, ↓simPre, simPost, capt_pure, argV_ro, argV_le, expo_pure, refsL_pure, isL_pure, k0_pure, k1_pure, ren0_pure, ren1_pure, sT_pure, sO_pure, bxGo_pure, resGo_pure, inst_pure, inst_rows, inst_bx, resP_go, viewT_pure, outs_skip, fzV_pure, bxL_pure, bxOf_pure, rowsOf_pure, rows1_pure, name1_pure, nameB1_pure, simR, reduceCtorEq, ↓reduceIte, splice, Nat.reduceAdd, Nat.reduceLT, Nat.reduceLeDiff, Nat.reduceEqDiff, Nat.reduceSub, noPtr, isPtr, notAgg, notIo, AV.capt, distinct, covers, O.keys, O.wr, okPair, disj, List.replicate, startOk]
    refine headC_range rs.length (fun i e => e.put (some 13) (.int .i64 i)) (fun i => some (AV.int .i64 (entsErr x.k (rs.drop i)))) rfl ?_ ?_
    · simp (config := {decide := true, contextual := true, maxSteps := 5000000}) only [castNlt (Nat.lt_irrefl _), List.drop_length, entsErr, first, ints_len, np92, res92, ↓simPre, simPost, capt_pure, argV_ro, argV_le, expo_pure, refsL_pure, isL_pure, k0_pure, k1_pure, ren0_pure, ren1_pure, sT_pure, sO_pure, bxGo_pure, resGo_pure, inst_pure, inst_rows, inst_bx, resP_go, viewT_pure, outs_skip, fzV_pure, bxL_pure, bxOf_pure, rowsOf_pure, rows1_pure, name1_pure, nameB1_pure, simR, reduceCtorEq, ↓reduceIte, splice, Nat.reduceAdd, Nat.reduceLT, Nat.reduceLeDiff, Nat.reduceEqDiff, Nat.reduceSub, noPtr, isPtr, notAgg, notIo, AV.capt, distinct, covers, O.keys, O.wr, okPair, disj, List.replicate, startOk]
    · intro i hlt ih
      have h52 := run52 (S := S) ⟨x.k, rs.getD i 0⟩
      simp only [encE] at h52
      rw [drop_cons 0 hlt]
      cases h9 : (entryErr ⟨x.k, rs.getD i 0⟩ != 0)
      · simp (config := {decide := true, contextual := true, maxSteps := 5000000}) only [ints_len, castLt hlt, ints_get rs i hlt, h52, wrap_succ hlt (by omega), entsErr, List.map_cons, first, h9, np92, res92, ↓simPre, simPost, capt_pure, argV_ro, argV_le, expo_pure, refsL_pure, isL_pure, k0_pure, k1_pure, ren0_pure, ren1_pure, sT_pure, sO_pure, bxGo_pure, resGo_pure, inst_pure, inst_rows, inst_bx, resP_go, viewT_pure, outs_skip, fzV_pure, bxL_pure, bxOf_pure, rowsOf_pure, rows1_pure, name1_pure, nameB1_pure, simR, reduceCtorEq, ↓reduceIte, splice, Nat.reduceAdd, Nat.reduceLT, Nat.reduceLeDiff, Nat.reduceEqDiff, Nat.reduceSub, noPtr, isPtr, notAgg, notIo, AV.capt, distinct, covers, O.keys, O.wr, okPair, disj, List.replicate, startOk]
        exact ih
      · simp (config := {decide := true, contextual := true, maxSteps := 5000000}) only [ints_len, castLt hlt, ints_get rs i hlt, h52, wrap_succ hlt (by omega), entsErr, List.map_cons, first, h9, np92, res92, ↓simPre, simPost, capt_pure, argV_ro, argV_le, expo_pure, refsL_pure, isL_pure, k0_pure, k1_pure, ren0_pure, ren1_pure, sT_pure, sO_pure, bxGo_pure, resGo_pure, inst_pure, inst_rows, inst_bx, resP_go, viewT_pure, outs_skip, fzV_pure, bxL_pure, bxOf_pure, rowsOf_pure, rows1_pure, name1_pure, nameB1_pure, simR, reduceCtorEq, ↓reduceIte, splice, Nat.reduceAdd, Nat.reduceLT, Nat.reduceLeDiff, Nat.reduceEqDiff, Nat.reduceSub, noPtr, isPtr, notAgg, notIo, AV.capt, distinct, covers, O.keys, O.wr, okPair, disj, List.replicate, startOk]
end Go.Nv
/- BY VALUE: chapter 27, trees (2): the entries of leaves. -/
namespace Go.Nv
variable {S : RT}
attribute [local congr] ite_congr congr_bindOps congr_bindC congr_bindD congr_onE congr_onA congr_onBool congr_onEff congr_headC congr_ob congr_ob2 congr_onI congr_onS congr_onAg congr_onTu congr_onRow congr_obO congr_takeR congr_ldV congr_ldN congr_iaV congr_onMap congr_stP congr_appA congr_frzR congr_onFn congr_fzV congr_callM congr_callN congr_onIo congr_giveR congr_rowS congr_bxS congr_bxC congr_rnR congr_rnP congr_onFin
set_option maxRecDepth 100000
set_option maxHeartbeats 40000000
/-- The entries of nodes. -/
def entsN (x : Nd) : List En := (rsOf x).map fun r => ⟨x.k, r⟩
def entsX (x : Nd) : List En := if (x.b != -1) = true then [] else entsN x
def entsF (l : List Nd) : List En := l.flatMap entsX
theorem entsN_len (x : Nd) : (entsN x).length = (rsOf x).length := by simp [entsN]
theorem entsF_bound (n : Nat) : ∀ l : List Nd, (∀ x ∈ l, (rsOf x).length ≤ n) → (entsF l).length ≤ n * l.length
  | [], _ => by simp [entsF]
  | x :: l, h => by
    have ih := entsF_bound n l (fun y hy => h y (List.mem_cons_of_mem _ hy))
    have hx := h x (List.mem_cons_self ..)
    have e : (entsF (x :: l)).length = (entsX x).length + (entsF l).length := by simp [entsF]
    have : (entsX x).length ≤ n := by
      unfold entsX; split
      · simp
      · rw [entsN_len]; exact hx
    rw [e, List.length_cons, Nat.mul_succ]; omega
theorem entsF_succ {l : List Nd} {i : Nat} (h : i < l.length) : entsF (l.take (i + 1)) = entsF (l.take i) ++ entsX (l.getD i nd0) := by
  rw [take_succ nd0 h]; simp [entsF]
theorem run62 (l : List Nd) (hl : l.length ≤ 1000) (hr : ∀ x ∈ l, (rsOf x).length ≤ 1000) : run T S 62 [.sl (l.map encN)] = some (.row 47 2 ((entsF l).map encE)) := by
  (refine run_fn T62 ⟨rfl, by decide, by rfl⟩ ?_; rw [start62, body62, B62]; dsimp only [ov, oo, og])
  simp (config := {decide := true, contextual := true, maxSteps := 5000000}) only [enc_len, np62, res62, ↓simPre, simPost, capt_pure, argV_ro, argV_le, expo_pure, refsL_pure, isL_pure, k0_pure, k1_pure, ren0_pure, ren1_pure, sT_pure, sO_pure, bxGo_pure, resGo_pure, inst_pure, inst_rows, inst_bx, resP_go, viewT_pure, outs_skip, fzV_pure, bxL_pure, bxOf_pure, rowsOf_pure, rows1_pure, name1_pure, nameB1_pure, simR, reduceCtorEq, ↓reduceIte, splice, Nat.reduceAdd, Nat.reduceLT, Nat.reduceLeDiff, Nat.reduceEqDiff, Nat.reduceSub, noPtr, isPtr, notAgg, notIo, AV.capt, distinct, covers, O.keys, O.wr, okPair, disj, List.replicate, startOk]
  refine headC_range l.length (fun i e => (e.put (some 10) (.int .i64 i)).setObj 3 ⟨0, [[]], .val [.row 47 2 ((entsF (l.take i)).map encE)]⟩) (fun _ => some (AV.row 47 2 ((entsF l).map encE))) rfl ?_ ?_
  · simp (config := {decide := true, contextual := true, maxSteps := 5000000}) only [enc_len, castNlt (Nat.lt_irrefl _), List.take_length, np62, res62, ↓simPre, simPost, capt_pure, argV_ro, argV_le, expo_pure, refsL_pure, isL_pure, k0_pure, k1_pure, ren0_pure, ren1_pure, sT_pure, sO_pure, bxGo_pure, resGo_pure, inst_pure, inst_rows, inst_bx, resP_go, viewT_pure, outs_skip, fzV_pure, bxL_pure, bxOf_pure, rowsOf_pure, rows1_pure, name1_pure, nameB1_pure, simR, reduceCtorEq, ↓reduceIte, splice, Nat.reduceAdd, Nat.reduceLT, Nat.reduceLeDiff, Nat.reduceEqDiff, Nat.reduceSub, noPtr, isPtr, notAgg, notIo, AV.capt, distinct, covers, O.keys, O.wr, okPair, disj, List.replicate, startOk]
  · intro i hlt ih
    have h9 := enc_get encN l i nd0 hlt
    have hx : (rsOf (l.getD i nd0)).length ≤ 1000 := hr _ (by rw [List.getD_eq_getElem?_getD, List.getElem?_eq_getElem hlt]; exact List.getElem_mem hlt)
    have hb := entsF_bound 1000 (l.take i) (fun x hx => hr x (List.mem_of_mem_take hx))
    rw [List.length_take] at hb
    have hb2 : (entsF (l.take i)).length ≤ 1000000 := by
      have : 1000 * min i l.length ≤ 1000 * 1000 := Nat.mul_le_mul_left _ (by omega)
      omega
    rw [entsF_succ hlt] at ih
    generalize entsF (l.take i) = out at *
    generalize l.getD i nd0 = x at *
    simp only [encN] at h9
    by_cases hn : (x.b != -1) = true
    · have : entsX x = [] := by unfold entsX; rw [if_pos hn]
      rw [this, List.append_nil] at ih
      simp (config := {decide := true, contextual := true, maxSteps := 5000000}) only [enc_len, castLt hlt, h9, hn, wrap_succ hlt (by omega), np62, res62, ↓simPre, simPost, capt_pure, argV_ro, argV_le, expo_pure, refsL_pure, isL_pure, k0_pure, k1_pure, ren0_pure, ren1_pure, sT_pure, sO_pure, bxGo_pure, resGo_pure, inst_pure, inst_rows, inst_bx, resP_go, viewT_pure, outs_skip, fzV_pure, bxL_pure, bxOf_pure, rowsOf_pure, rows1_pure, name1_pure, nameB1_pure, simR, reduceCtorEq, ↓reduceIte, splice, Nat.reduceAdd, Nat.reduceLT, Nat.reduceLeDiff, Nat.reduceEqDiff, Nat.reduceSub, noPtr, isPtr, notAgg, notIo, AV.capt, distinct, covers, O.keys, O.wr, okPair, disj, List.replicate, startOk]
      exact ih
    · have hx2 : entsX x = entsN x := by unfold entsX; rw [if_neg hn]
      rw [hx2] at ih
      have hn' : (x.b != -1) = false := by simpa using hn
      generalize hrs : rsOf x = rs at *
      simp (config := {decide := true, contextual := true, maxSteps := 5000000}) only [enc_len, castLt hlt, h9, hn', ints_len, np62, res62, ↓simPre, simPost, capt_pure, argV_ro, argV_le, expo_pure, refsL_pure, isL_pure, k0_pure, k1_pure, ren0_pure, ren1_pure, sT_pure, sO_pure, bxGo_pure, resGo_pure, inst_pure, inst_rows, inst_bx, resP_go, viewT_pure, outs_skip, fzV_pure, bxL_pure, bxOf_pure, rowsOf_pure, rows1_pure, name1_pure, nameB1_pure, simR, reduceCtorEq, ↓reduceIte, splice, Nat.reduceAdd, Nat.reduceLT, Nat.reduceLeDiff, Nat.reduceEqDiff, Nat.reduceSub, noPtr, isPtr, notAgg, notIo, AV.capt, distinct, covers, O.keys, O.wr, okPair, disj, List.replicate, startOk]
      refine headC_range rs.length (fun k e => (e.put (some 20) (.int .i64 k)).setObj 3 ⟨0, [[]], .val [.row 47 2 ((out ++ (entsN x).take k).map encE)]⟩) (fun _ => some (AV.row 47 2 ((entsF l).map encE))) (by simp only [List.take_zero, List.append_nil]; rfl) ?_ ?_
      · have ht : (entsN x).take rs.length = entsN x := List.take_of_length_le (by rw [entsN_len, hrs]; exact Nat.le_refl _)
        simp (config := {decide := true, contextual := true, maxSteps := 5000000}) only [enc_len, castNlt (Nat.lt_irrefl _), ht, wrap_succ hlt (by omega), np62, res62, ↓simPre, simPost, capt_pure, argV_ro, argV_le, expo_pure, refsL_pure, isL_pure, k0_pure, k1_pure, ren0_pure, ren1_pure, sT_pure, sO_pure, bxGo_pure, resGo_pure, inst_pure, inst_rows, inst_bx, resP_go, viewT_pure, outs_skip, fzV_pure, bxL_pure, bxOf_pure, rowsOf_pure, rows1_pure, name1_pure, nameB1_pure, simR, reduceCtorEq, ↓reduceIte, splice, Nat.reduceAdd, Nat.reduceLT, Nat.reduceLeDiff, Nat.reduceEqDiff, Nat.reduceSub, noPtr, isPtr, notAgg, notIo, AV.capt, distinct, covers, O.keys, O.wr, okPair, disj, List.replicate, startOk]
        exact ih
      · intro k hk ihk
        have hk2 : k < (entsN x).length := by rw [entsN_len, hrs]; exact hk
        have hg : (entsN x).getD k en0 = ⟨x.k, rs.getD k 0⟩ := by
          simp only [entsN, hrs, List.getD_eq_getElem?_getD, List.getElem?_map, List.getElem?_eq_getElem hk, Option.map_some, Option.getD_some]
        have hlen : (out ++ (entsN x).take k).length = out.length + k := by rw [List.length_append, List.length_take]; omega
        rw [take_succ en0 hk2, hg, ← List.append_assoc] at ihk
        generalize out ++ (entsN x).take k = o2 at *
        have ha : ((o2.length + 1) * 24 ≤ 140737488355328) = True := eq_true (by omega)
        have h5 : o2.map encE ++ [[.str x.k, .int .i64 (rs.getD k 0)]] = (o2 ++ ([⟨x.k, rs.getD k 0⟩] : List En)).map encE := by simp [encE]
        simp (config := {decide := true, contextual := true, maxSteps := 5000000}) only [enc_len, castLt hk, ints_len, ints_get rs k hk, ha, h5, wrap_succ hk (by omega), np62, res62, ↓simPre, simPost, capt_pure, argV_ro, argV_le, expo_pure, refsL_pure, isL_pure, k0_pure, k1_pure, ren0_pure, ren1_pure, sT_pure, sO_pure, bxGo_pure, resGo_pure, inst_pure, inst_rows, inst_bx, resP_go, viewT_pure, outs_skip, fzV_pure, bxL_pure, bxOf_pure, rowsOf_pure, rows1_pure, name1_pure, nameB1_pure, simR, reduceCtorEq, ↓reduceIte, splice, Nat.reduceAdd, Nat.reduceLT, Nat.reduceLeDiff, Nat.reduceEqDiff, Nat.reduceSub, noPtr, isPtr, notAgg, notIo, AV.capt, distinct, covers, O.keys, O.wr, okPair, disj, List.replicate, startOk]
        exact ihk
end Go.Nv
/- BY VALUE: chapter 27, trees (3): the error of the leaves. -/
namespace Go.Nv
variable {S : RT}
attribute [local congr] ite_congr congr_bindOps congr_bindC congr_bindD congr_onE congr_onA congr_onBool congr_onEff congr_headC congr_ob congr_ob2 congr_onI congr_onS congr_onAg congr_onTu congr_onRow congr_obO congr_takeR congr_ldV congr_ldN congr_iaV congr_onMap congr_stP congr_appA congr_frzR congr_onFn congr_fzV congr_callM congr_callN congr_onIo congr_giveR congr_rowS congr_bxS congr_bxC congr_rnR congr_rnP congr_onFin
set_option maxRecDepth 100000
set_option maxHeartbeats 40000000
def risD : List Int → Bool
  | a :: b :: t => decide (a < b) && risD (b :: t)
  | _ => true
def otherK (keys : List ByteArray) (x : Nd) : Bool := decide ((keys.length : Int) > 0) && (((keys.getD 0 (bs [])).size : Int) != (x.k.size : Int))
def lvB (keys : List ByteArray) (x : Nd) (ρ : Bool) : Int := first [cond (otherK keys x) 18, cond (!ρ) 14, cond (decide (findI (eqK x.k) keys 0 ≥ 0)) 13]
/-- The error of the leaves, with an index. -/
def lvE : List Nd → Nat → List ByteArray → Nat → Nat × Int
  | [], _, _, c => (0, cond (decide ((c : Int) > 120)) 30)
  | x :: l, i, keys, c =>
    if (x.b != -1) = true then lvE l (i + 1) keys c
    else if (leafE x != 0) = true then (i, leafE x)
    else if (lvB keys x (risD (rsOf x)) != 0) = true then (i, lvB keys x (risD (rsOf x)))
    else lvE l (i + 1) (keys ++ [x.k]) (c + (rsOf x).length)
def pairN (p : Nat × Int) : AV := .tup [.int .i64 p.1, .int .i64 p.2]
theorem run61 (l : List Nd) (hl : l.length ≤ 1000) (hr : ∀ x ∈ l, (rsOf x).length ≤ 1000) : run T S 61 [.sl (l.map encN)] = some (pairN (lvE l 0 [] 0)) := by
  (refine run_fn T61 ⟨rfl, by decide, by rfl⟩ ?_; rw [start61, body61, B61]; dsimp only [ov, oo, og])
  simp (config := {decide := true, contextual := true, maxSteps := 5000000}) only [enc_len, np61, res61, ↓simPre, simPost, capt_pure, argV_ro, argV_le, expo_pure, refsL_pure, isL_pure, k0_pure, k1_pure, ren0_pure, ren1_pure, sT_pure, sO_pure, bxGo_pure, resGo_pure, inst_pure, inst_rows, inst_bx, resP_go, viewT_pure, outs_skip, fzV_pure, bxL_pure, bxOf_pure, rowsOf_pure, rows1_pure, name1_pure, nameB1_pure, simR, reduceCtorEq, ↓reduceIte, splice, Nat.reduceAdd, Nat.reduceLT, Nat.reduceLeDiff, Nat.reduceEqDiff, Nat.reduceSub, noPtr, isPtr, notAgg, notIo, AV.capt, distinct, covers, O.keys, O.wr, okPair, disj, List.replicate, startOk]
  refine headC_upd (fun (s : Nat × List ByteArray × Nat) e => ((e.put (some 15) (.int .i64 s.1)).put (some 5) (.int .i64 s.2.2)).setObj 4 ⟨0, [[]], .val [.row 9 1 (strs s.2.1)]⟩) (fun s => some (pairN (lvE (l.drop s.1) s.1 s.2.1 s.2.2))) (fun s => l.length - s.1)
    (fun s => s.1 ≤ l.length ∧ s.2.1.length ≤ s.1 ∧ s.2.2 ≤ 1000 * s.1) (0, [], 0) rfl ⟨Nat.zero_le _, Nat.le_refl _, Nat.le_refl _⟩ ?_
  rintro ⟨i, keys, c⟩ ⟨hi, hk, hc⟩ ih
  simp only at hi hk hc ih
  by_cases hlt : i < l.length
  · have h9 := enc_get encN l i nd0 hlt
    have hx : (rsOf (l.getD i nd0)).length ≤ 1000 := hr _ (by rw [List.getD_eq_getElem?_getD, List.getElem?_eq_getElem hlt]; exact List.getElem_mem hlt)
    rw [drop_cons nd0 hlt]
    generalize l.getD i nd0 = x at *
    have h92 := run92 (S := S) x (by omega)
    simp only [encN] at h9 h92
    simp only [lvE]
    by_cases hn : (x.b != -1) = true
    · have ih := ih (i + 1, keys, c) ⟨hlt, (show keys.length ≤ i + 1 by omega), (show c ≤ 1000 * (i + 1) by omega)⟩ (by omega)
      rw [if_pos hn]
      simp (config := {decide := true, contextual := true, maxSteps := 5000000}) only [enc_len, castLt hlt, h9, hn, wrap_succ hlt (by omega), np61, res61, ↓simPre, simPost, capt_pure, argV_ro, argV_le, expo_pure, refsL_pure, isL_pure, k0_pure, k1_pure, ren0_pure, ren1_pure, sT_pure, sO_pure, bxGo_pure, resGo_pure, inst_pure, inst_rows, inst_bx, resP_go, viewT_pure, outs_skip, fzV_pure, bxL_pure, bxOf_pure, rowsOf_pure, rows1_pure, name1_pure, nameB1_pure, simR, reduceCtorEq, ↓reduceIte, splice, Nat.reduceAdd, Nat.reduceLT, Nat.reduceLeDiff, Nat.reduceEqDiff, Nat.reduceSub, noPtr, isPtr, notAgg, notIo, AV.capt, distinct, covers, O.keys, O.wr, okPair, disj, List.replicate, startOk]
      exact ih
    have hn' : (x.b != -1) = false := by simpa using hn
    rw [if_neg hn]
    by_cases hq : (leafE x != 0) = true
    · rw [if_pos hq]
      simp (config := {decide := true, contextual := true, maxSteps := 5000000}) only [enc_len, castLt hlt, h9, hn', h92, hq, pairN, np61, res61, ↓simPre, simPost, capt_pure, argV_ro, argV_le, expo_pure, refsL_pure, isL_pure, k0_pure, k1_pure, ren0_pure, ren1_pure, sT_pure, sO_pure, bxGo_pure, resGo_pure, inst_pure, inst_rows, inst_bx, resP_go, viewT_pure, outs_skip, fzV_pure, bxL_pure, bxOf_pure, rowsOf_pure, rows1_pure, name1_pure, nameB1_pure, simR, reduceCtorEq, ↓reduceIte, splice, Nat.reduceAdd, Nat.reduceLT, Nat.reduceLeDiff, Nat.reduceEqDiff, Nat.reduceSub, noPtr, isPtr, notAgg, notIo, AV.capt, distinct, covers, O.keys, O.wr, okPair, disj, List.replicate, startOk]
    have hq' : (leafE x != 0) = false := by simpa using hq
    rw [if_neg hq]
    have hne : 0 < (rsOf x).length := Nat.pos_of_ne_zero fun hh => by
      apply hq; unfold leafE; rw [if_pos hh]; rfl
    have ih := ih (i + 1, keys ++ [x.k], c + (rsOf x).length) ⟨hlt, (show (keys ++ [x.k]).length ≤ i + 1 by rw [List.length_append, List.length_singleton]; omega), (show c + (rsOf x).length ≤ 1000 * (i + 1) by omega)⟩ (by omega)
    simp only at ih
    generalize hX : pairN (lvE (l.drop (i + 1)) (i + 1) (keys ++ [x.k]) (c + (rsOf x).length)) = Y at ih
    have hY : ∀ p : Bool, p = risD (rsOf x) → pairN (if (lvB keys x (risD (rsOf x)) != 0) = true then (i, lvB keys x (risD (rsOf x))) else lvE (l.drop (i + 1)) (i + 1) (keys ++ [x.k]) (c + (rsOf x).length)) = if (lvB keys x p != 0) = true then pairN (i, lvB keys x p) else Y := fun p hp => by
      subst hp; rw [← hX]; split <;> rfl
    rw [hY (risD (rsOf x)) rfl]
    generalize hrs : rsOf x = rs at *
    simp (config := {decide := true, contextual := true, maxSteps := 5000000}) only [enc_len, castLt hlt, h9, hn', h92, hq', np61, res61, ↓simPre, simPost, capt_pure, argV_ro, argV_le, expo_pure, refsL_pure, isL_pure, k0_pure, k1_pure, ren0_pure, ren1_pure, sT_pure, sO_pure, bxGo_pure, resGo_pure, inst_pure, inst_rows, inst_bx, resP_go, viewT_pure, outs_skip, fzV_pure, bxL_pure, bxOf_pure, rowsOf_pure, rows1_pure, name1_pure, nameB1_pure, simR, reduceCtorEq, ↓reduceIte, splice, Nat.reduceAdd, Nat.reduceLT, Nat.reduceLeDiff, Nat.reduceEqDiff, Nat.reduceSub, noPtr, isPtr, notAgg, notIo, AV.capt, distinct, covers, O.keys, O.wr, okPair, disj, List.replicate, startOk]
    refine headC_upd (fun (s : Nat × Bool) e => (e.put (some 10) (.int .i64 s.1)).put (some 9) (.bool s.2)) (fun s => some (if (lvB keys x (s.2 && risD (rs.drop (s.1 - 1))) != 0) = true then pairN (i, lvB keys x (s.2 && risD (rs.drop (s.1 - 1)))) else Y)) (fun s => rs.length - s.1)
      (fun s => 1 ≤ s.1 ∧ s.1 ≤ rs.length) (1, true) rfl ⟨Nat.le_refl _, hne⟩ ?_
    rintro ⟨k, ρ⟩ ⟨hk1, hk2⟩ ihk
    simp only at hk1 hk2 ihk
    by_cases hkl : k < rs.length
    · have w1 : IntKind.wrap .i64 ((k : Int) - 1) = ((k - 1 : Nat) : Int) := by rw [wrap_i64 (by omega) (by omega)]; omega
      have hd : rs.drop (k - 1) = rs.getD (k - 1) 0 :: rs.getD k 0 :: rs.drop (k + 1) := by
        rw [drop_cons 0 (show k - 1 < rs.length by omega), show k - 1 + 1 = k by omega, drop_cons 0 hkl]
      have hd2 : rs.drop (k + 1 - 1) = rs.getD k 0 :: rs.drop (k + 1) := by rw [Nat.add_sub_cancel, drop_cons 0 hkl]
      have ihk := ihk (k + 1, ρ && decide (rs.getD (k - 1) 0 < rs.getD k 0)) ⟨by omega, by omega⟩ (by omega)
      simp only [hd2] at ihk
      rw [hd]
      simp only [risD]
      rw [Bool.and_assoc] at ihk
      cases ρ
      · simp only [Bool.false_and] at ihk ⊢
        simp (config := {decide := true, contextual := true, maxSteps := 5000000}) only [enc_len, castLt hkl, ints_len, w1, ints_get rs k hkl, ints_get rs (k - 1) (by omega), castLt (show k - 1 < rs.length by omega), wrap_succ hkl (by omega), np61, res61, ↓simPre, simPost, capt_pure, argV_ro, argV_le, expo_pure, refsL_pure, isL_pure, k0_pure, k1_pure, ren0_pure, ren1_pure, sT_pure, sO_pure, bxGo_pure, resGo_pure, inst_pure, inst_rows, inst_bx, resP_go, viewT_pure, outs_skip, fzV_pure, bxL_pure, bxOf_pure, rowsOf_pure, rows1_pure, name1_pure, nameB1_pure, simR, reduceCtorEq, ↓reduceIte, splice, Nat.reduceAdd, Nat.reduceLT, Nat.reduceLeDiff, Nat.reduceEqDiff, Nat.reduceSub, noPtr, isPtr, notAgg, notIo, AV.capt, distinct, covers, O.keys, O.wr, okPair, disj, List.replicate, startOk]
        exact ihk
      · simp only [Bool.true_and] at ihk ⊢
        simp (config := {decide := true, contextual := true, maxSteps := 5000000}) only [enc_len, castLt hkl, ints_len, w1, ints_get rs k hkl, ints_get rs (k - 1) (by omega), castLt (show k - 1 < rs.length by omega), wrap_succ hkl (by omega), np61, res61, ↓simPre, simPost, capt_pure, argV_ro, argV_le, expo_pure, refsL_pure, isL_pure, k0_pure, k1_pure, ren0_pure, ren1_pure, sT_pure, sO_pure, bxGo_pure, resGo_pure, inst_pure, inst_rows, inst_bx, resP_go, viewT_pure, outs_skip, fzV_pure, bxL_pure, bxOf_pure, rowsOf_pure, rows1_pure, name1_pure, nameB1_pure, simR, reduceCtorEq, ↓reduceIte, splice, Nat.reduceAdd, Nat.reduceLT, Nat.reduceLeDiff, Nat.reduceEqDiff, Nat.reduceSub, noPtr, isPtr, notAgg, notIo, AV.capt, distinct, covers, O.keys, O.wr, okPair, disj, List.replicate, startOk]
        exact ihk
    · have : k = rs.length := by omega
      subst this
      have hd : risD (rs.drop (rs.length - 1)) = true := by
        rw [drop_cons 0 (show rs.length - 1 < rs.length by omega), List.drop_eq_nil_of_le (by omega)]; rfl
      rw [hd, Bool.and_true]
      have h93 := run93 (S := S) keys x.k (by omega)
      have h53 := fun (b : Bool) (e : Int) => run53 (S := S) b e
      have h51 := run51_3 (S := S) (cond (otherK keys x) 18) (cond (!ρ) 14) (cond (decide (findI (eqK x.k) keys 0 ≥ 0)) 13)
      have ha : ((keys.length + 1) * 16 ≤ 140737488355328) = True := eq_true (by omega)
      have h5 : strs keys ++ [[.str x.k]] = strs (keys ++ [x.k]) := by simp [strs]
      have w2 : IntKind.wrap .i64 ((c : Int) + (rs.length : Int)) = ((c + rs.length : Nat) : Int) := by rw [wrap_i64 (by omega) (by omega)]; omega
      have hv : first [cond (otherK keys x) 18, cond (!ρ) 14, cond (decide (findI (eqK x.k) keys 0 ≥ 0)) 13] = lvB keys x ρ := rfl
      rw [hv] at h51
      by_cases h0 : 0 < keys.length
      · have g0 := strs_get keys 0 h0
        have g1 : (strs keys)[0]? = some [.str (keys.getD 0 (bs []))] := by
          simp only [strs, List.getElem?_map, List.getElem?_eq_getElem h0, List.getD_eq_getElem?_getD, Option.map_some, Option.getD_some]
        have z0 : ((0 : Int) < (keys.length : Int)) = True := by simp; omega
        have z1 : decide ((keys.length : Int) > 0) = true := by simp; omega
        have ho : (((keys.getD 0 (bs [])).size : Int) != (x.k.size : Int)) = otherK keys x := by unfold otherK; rw [z1, Bool.true_and]
        cases hq2 : (lvB keys x ρ != 0)
        · simp only [Bool.false_eq_true, if_false]
          simp (config := {decide := true, contextual := true, maxSteps := 5000000}) only [enc_len, castNlt (Nat.lt_irrefl _), ints_len, strs_len, g0, g1, z0, z1, ho, h53, h93, h51, strs_pure, hq2, ha, h5, w2, wrap_succ hlt (by omega), np61, res61, ↓simPre, simPost, capt_pure, argV_ro, argV_le, expo_pure, refsL_pure, isL_pure, k0_pure, k1_pure, ren0_pure, ren1_pure, sT_pure, sO_pure, bxGo_pure, resGo_pure, inst_pure, inst_rows, inst_bx, resP_go, viewT_pure, outs_skip, fzV_pure, bxL_pure, bxOf_pure, rowsOf_pure, rows1_pure, name1_pure, nameB1_pure, simR, reduceCtorEq, ↓reduceIte, splice, Nat.reduceAdd, Nat.reduceLT, Nat.reduceLeDiff, Nat.reduceEqDiff, Nat.reduceSub, noPtr, isPtr, notAgg, notIo, AV.capt, distinct, covers, O.keys, O.wr, okPair, disj, List.replicate, startOk]
          exact ih
        · simp only [if_true]
          simp (config := {decide := true, contextual := true, maxSteps := 5000000}) only [enc_len, castNlt (Nat.lt_irrefl _), ints_len, strs_len, g0, g1, z0, z1, ho, h53, h93, h51, strs_pure, hq2, pairN, np61, res61, ↓simPre, simPost, capt_pure, argV_ro, argV_le, expo_pure, refsL_pure, isL_pure, k0_pure, k1_pure, ren0_pure, ren1_pure, sT_pure, sO_pure, bxGo_pure, resGo_pure, inst_pure, inst_rows, inst_bx, resP_go, viewT_pure, outs_skip, fzV_pure, bxL_pure, bxOf_pure, rowsOf_pure, rows1_pure, name1_pure, nameB1_pure, simR, reduceCtorEq, ↓reduceIte, splice, Nat.reduceAdd, Nat.reduceLT, Nat.reduceLeDiff, Nat.reduceEqDiff, Nat.reduceSub, noPtr, isPtr, notAgg, notIo, AV.capt, distinct, covers, O.keys, O.wr, okPair, disj, List.replicate, startOk]
      · have hk0 : keys = [] := List.length_eq_zero_iff.1 (by omega)
        have ho : otherK keys x = false := by rw [hk0]; rfl
        have z1 : decide ((keys.length : Int) > 0) = false := by rw [hk0]; rfl
        rw [ho] at h51
        cases hq2 : (lvB keys x ρ != 0)
        · simp only [Bool.false_eq_true, if_false]
          simp (config := {decide := true, contextual := true, maxSteps := 5000000}) only [enc_len, castNlt (Nat.lt_irrefl _), ints_len, strs_len, z1, h53, h93, h51, strs_pure, hq2, ha, h5, w2, wrap_succ hlt (by omega), np61, res61, ↓simPre, simPost, capt_pure, argV_ro, argV_le, expo_pure, refsL_pure, isL_pure, k0_pure, k1_pure, ren0_pure, ren1_pure, sT_pure, sO_pure, bxGo_pure, resGo_pure, inst_pure, inst_rows, inst_bx, resP_go, viewT_pure, outs_skip, fzV_pure, bxL_pure, bxOf_pure, rowsOf_pure, rows1_pure, name1_pure, nameB1_pure, simR, reduceCtorEq, ↓reduceIte, splice, Nat.reduceAdd, Nat.reduceLT, Nat.reduceLeDiff, Nat.reduceEqDiff, Nat.reduceSub, noPtr, isPtr, notAgg, notIo, AV.capt, distinct, covers, O.keys, O.wr, okPair, disj, List.replicate, startOk]
          exact ih
        · simp only [if_true]
          simp (config := {decide := true, contextual := true, maxSteps := 5000000}) only [enc_len, castNlt (Nat.lt_irrefl _), ints_len, strs_len, z1, h53, h93, h51, strs_pure, hq2, pairN, np61, res61, ↓simPre, simPost, capt_pure, argV_ro, argV_le, expo_pure, refsL_pure, isL_pure, k0_pure, k1_pure, ren0_pure, ren1_pure, sT_pure, sO_pure, bxGo_pure, resGo_pure, inst_pure, inst_rows, inst_bx, resP_go, viewT_pure, outs_skip, fzV_pure, bxL_pure, bxOf_pure, rowsOf_pure, rows1_pure, name1_pure, nameB1_pure, simR, reduceCtorEq, ↓reduceIte, splice, Nat.reduceAdd, Nat.reduceLT, Nat.reduceLeDiff, Nat.reduceEqDiff, Nat.reduceSub, noPtr, isPtr, notAgg, notIo, AV.capt, distinct, covers, O.keys, O.wr, okPair, disj, List.replicate, startOk]
  · have : i = l.length := by omega
    subst this
    have h53 := run53 (S := S) (decide ((c : Int) > 120)) 30
    simp (config := {decide := true, contextual := true, maxSteps := 5000000}) only [enc_len, castNlt (Nat.lt_irrefl _), List.drop_length, lvE, pairN, h53, np61, res61, ↓simPre, simPost, capt_pure, argV_ro, argV_le, expo_pure, refsL_pure, isL_pure, k0_pure, k1_pure, ren0_pure, ren1_pure, sT_pure, sO_pure, bxGo_pure, resGo_pure, inst_pure, inst_rows, inst_bx, resP_go, viewT_pure, outs_skip, fzV_pure, bxL_pure, bxOf_pure, rowsOf_pure, rows1_pure, name1_pure, nameB1_pure, simR, reduceCtorEq, ↓reduceIte, splice, Nat.reduceAdd, Nat.reduceLT, Nat.reduceLeDiff, Nat.reduceEqDiff, Nat.reduceSub, noPtr, isPtr, notAgg, notIo, AV.capt, distinct, covers, O.keys, O.wr, okPair, disj, List.replicate, startOk]
end Go.Nv
/- BY VALUE: chapter 27, trees (4): the reference: copies, entries, bounds. -/
namespace Go.Nv
variable {S : RT}
attribute [local congr] ite_congr congr_bindOps congr_bindC congr_bindD congr_onE congr_onA congr_onBool congr_onEff congr_headC congr_ob congr_ob2 congr_onI congr_onS congr_onAg congr_onTu congr_onRow congr_obO congr_takeR congr_ldV congr_ldN congr_iaV congr_onMap congr_stP congr_appA congr_frzR congr_onFn congr_fzV congr_callM congr_callN congr_onIo congr_giveR congr_rowS congr_bxS congr_bxC congr_rnR congr_rnP congr_onFin
set_option maxRecDepth 100000
set_option maxHeartbeats 40000000
theorem run64 (l : List Int) (hl : l.length ≤ 100000) : run T S 64 [.sl (ints l)] = some (.row 3 1 (ints l)) := by
  have h : ((l.length : Int) * 8 ≤ 140737488355328) = True := by simp; omega
  have h' : (l.length * 8 ≤ 140737488355328) = True := by simp; omega
  have hc : ((ints l).all fun y => y.length == 1) = true := by simp [ints]
  (refine run_fn T64 ⟨rfl, by decide, by rfl⟩ ?_; rw [start64, body64, B64]; dsimp only [ov, oo, og])
  simp (config := {decide := true, contextual := true, maxSteps := 5000000}) only [ints_len, allPure_ints, h, h', hc, np64, res64, ↓simPre, simPost, capt_pure, argV_ro, argV_le, expo_pure, refsL_pure, isL_pure, k0_pure, k1_pure, ren0_pure, ren1_pure, sT_pure, sO_pure, bxGo_pure, resGo_pure, inst_pure, inst_rows, inst_bx, resP_go, viewT_pure, outs_skip, fzV_pure, bxL_pure, bxOf_pure, rowsOf_pure, rows1_pure, name1_pure, nameB1_pure, simR, reduceCtorEq, ↓reduceIte, splice, Nat.reduceAdd, Nat.reduceLT, Nat.reduceLeDiff, Nat.reduceEqDiff, Nat.reduceSub, noPtr, isPtr, notAgg, notIo, AV.capt, distinct, covers, O.keys, O.wr, okPair, disj, List.replicate, startOk]
/-- A node in memory of its own. -/
def lf (x : Nd) : Nd := ⟨x.b, x.lt, x.rt, x.k, rsOf x, true⟩
def ownF (l : List Nd) : List Nd := l.map lf
theorem encR_lf (x : Nd) : encR (lf x) = [.int .i64 x.b, .int .i64 x.lt, .int .i64 x.rt, .str x.k, .row 3 1 (ints (rsOf x))] := rfl
theorem encV_lf (x : Nd) : encV (lf x) = encN x := rfl
theorem run21 (l : List Nd) (hl : l.length ≤ 1000) (hr : ∀ x ∈ l, (rsOf x).length ≤ 1000) : run T S 21 [.sl (l.map encN)] = some (.row 97 5 ((ownF l).map encR)) := by
  (refine run_fn T21 ⟨rfl, by decide, by rfl⟩ ?_; rw [start21, body21, B21]; dsimp only [ov, oo, og])
  simp (config := {decide := true, contextual := true, maxSteps := 5000000}) only [enc_len, np21, res21, ↓simPre, simPost, capt_pure, argV_ro, argV_le, expo_pure, refsL_pure, isL_pure, k0_pure, k1_pure, ren0_pure, ren1_pure, sT_pure, sO_pure, bxGo_pure, resGo_pure, inst_pure, inst_rows, inst_bx, resP_go, viewT_pure, outs_skip, fzV_pure, bxL_pure, bxOf_pure, rowsOf_pure, rows1_pure, name1_pure, nameB1_pure, simR, reduceCtorEq, ↓reduceIte, splice, Nat.reduceAdd, Nat.reduceLT, Nat.reduceLeDiff, Nat.reduceEqDiff, Nat.reduceSub, noPtr, isPtr, notAgg, notIo, AV.capt, distinct, covers, O.keys, O.wr, okPair, disj, List.replicate, startOk]
  refine headC_range l.length (fun i e => (e.put (some 4) (.int .i64 i)).setObj 3 ⟨0, [[]], .val [.row 97 5 ((ownF (l.take i)).map encR)]⟩) (fun _ => some (AV.row 97 5 ((ownF l).map encR))) rfl ?_ ?_
  · simp (config := {decide := true, contextual := true, maxSteps := 5000000}) only [enc_len, castNlt (Nat.lt_irrefl _), List.take_length, np21, res21, ↓simPre, simPost, capt_pure, argV_ro, argV_le, expo_pure, refsL_pure, isL_pure, k0_pure, k1_pure, ren0_pure, ren1_pure, sT_pure, sO_pure, bxGo_pure, resGo_pure, inst_pure, inst_rows, inst_bx, resP_go, viewT_pure, outs_skip, fzV_pure, bxL_pure, bxOf_pure, rowsOf_pure, rows1_pure, name1_pure, nameB1_pure, simR, reduceCtorEq, ↓reduceIte, splice, Nat.reduceAdd, Nat.reduceLT, Nat.reduceLeDiff, Nat.reduceEqDiff, Nat.reduceSub, noPtr, isPtr, notAgg, notIo, AV.capt, distinct, covers, O.keys, O.wr, okPair, disj, List.replicate, startOk]
  · intro i hlt ih
    have h9 := enc_get encN l i nd0 hlt
    have hx : (rsOf (l.getD i nd0)).length ≤ 1000 := hr _ (by rw [List.getD_eq_getElem?_getD, List.getElem?_eq_getElem hlt]; exact List.getElem_mem hlt)
    have hb : (ownF (l.take i)).length = i := by simp [ownF]; omega
    have hs : ownF (l.take (i + 1)) = ownF (l.take i) ++ [lf (l.getD i nd0)] := by rw [take_succ nd0 hlt]; simp [ownF]
    rw [hs] at ih
    generalize ownF (l.take i) = out at *
    generalize l.getD i nd0 = x at *
    have h64 := run64 (S := S) (rsOf x) (by omega)
    have ha : ((i + 1) * 64 ≤ 140737488355328) = True := eq_true (by omega)
    have h5 : out.map encR ++ [[.int .i64 x.b, .int .i64 x.lt, .int .i64 x.rt, .str x.k, .row 3 1 (ints (rsOf x))]] = (out ++ [lf x]).map encR := by rw [List.map_append]; rfl
    simp only [encN] at h9
    simp (config := {decide := true, contextual := true, maxSteps := 5000000}) only [enc_len, castLt hlt, h9, h64, hb, ha, h5, wrap_succ hlt (by omega), np21, res21, ↓simPre, simPost, capt_pure, argV_ro, argV_le, expo_pure, refsL_pure, isL_pure, k0_pure, k1_pure, ren0_pure, ren1_pure, sT_pure, sO_pure, bxGo_pure, resGo_pure, inst_pure, inst_rows, inst_bx, resP_go, viewT_pure, outs_skip, fzV_pure, bxL_pure, bxOf_pure, rowsOf_pure, rows1_pure, name1_pure, nameB1_pure, simR, reduceCtorEq, ↓reduceIte, splice, Nat.reduceAdd, Nat.reduceLT, Nat.reduceLeDiff, Nat.reduceEqDiff, Nat.reduceSub, noPtr, isPtr, notAgg, notIo, AV.capt, distinct, covers, O.keys, O.wr, okPair, disj, List.replicate, startOk]
    exact ih
theorem run66 (l : List Nd) (hl : l.length ≤ 1000) (hr : ∀ x ∈ l, (rsOf x).length ≤ 1000) : run T S 66 [.sl (l.map encN)] = some (.row 47 2 ((entsF l).map encE)) := by
  (refine run_fn T66 ⟨rfl, by decide, by rfl⟩ ?_; rw [start66, body66, B66]; dsimp only [ov, oo, og])
  simp (config := {decide := true, contextual := true, maxSteps := 5000000}) only [enc_len, np66, res66, ↓simPre, simPost, capt_pure, argV_ro, argV_le, expo_pure, refsL_pure, isL_pure, k0_pure, k1_pure, ren0_pure, ren1_pure, sT_pure, sO_pure, bxGo_pure, resGo_pure, inst_pure, inst_rows, inst_bx, resP_go, viewT_pure, outs_skip, fzV_pure, bxL_pure, bxOf_pure, rowsOf_pure, rows1_pure, name1_pure, nameB1_pure, simR, reduceCtorEq, ↓reduceIte, splice, Nat.reduceAdd, Nat.reduceLT, Nat.reduceLeDiff, Nat.reduceEqDiff, Nat.reduceSub, noPtr, isPtr, notAgg, notIo, AV.capt, distinct, covers, O.keys, O.wr, okPair, disj, List.replicate, startOk]
  refine headC_range l.length (fun i e => (e.put (some 4) (.int .i64 i)).setObj 3 ⟨0, [[]], .val [.row 47 2 ((entsF (l.take i)).map encE)]⟩) (fun _ => some (AV.row 47 2 ((entsF l).map encE))) rfl ?_ ?_
  · simp (config := {decide := true, contextual := true, maxSteps := 5000000}) only [enc_len, castNlt (Nat.lt_irrefl _), List.take_length, np66, res66, ↓simPre, simPost, capt_pure, argV_ro, argV_le, expo_pure, refsL_pure, isL_pure, k0_pure, k1_pure, ren0_pure, ren1_pure, sT_pure, sO_pure, bxGo_pure, resGo_pure, inst_pure, inst_rows, inst_bx, resP_go, viewT_pure, outs_skip, fzV_pure, bxL_pure, bxOf_pure, rowsOf_pure, rows1_pure, name1_pure, nameB1_pure, simR, reduceCtorEq, ↓reduceIte, splice, Nat.reduceAdd, Nat.reduceLT, Nat.reduceLeDiff, Nat.reduceEqDiff, Nat.reduceSub, noPtr, isPtr, notAgg, notIo, AV.capt, distinct, covers, O.keys, O.wr, okPair, disj, List.replicate, startOk]
  · intro i hlt ih
    have h9 := enc_get encN l i nd0 hlt
    have hx : (rsOf (l.getD i nd0)).length ≤ 1000 := hr _ (by rw [List.getD_eq_getElem?_getD, List.getElem?_eq_getElem hlt]; exact List.getElem_mem hlt)
    have hb := entsF_bound 1000 (l.take i) (fun x hx => hr x (List.mem_of_mem_take hx))
    rw [List.length_take] at hb
    have hb2 : (entsF (l.take i)).length ≤ 1000000 := by
      have : 1000 * min i l.length ≤ 1000 * 1000 := Nat.mul_le_mul_left _ (by omega)
      omega
    rw [entsF_succ hlt] at ih
    generalize entsF (l.take i) = out at *
    generalize l.getD i nd0 = x at *
    simp only [encN] at h9
    generalize hrs : rsOf x = rs at *
    by_cases hn : (x.b != -1) = true
    · have : entsX x = [] := by unfold entsX; rw [if_pos hn]
      have hn' : (x.b == -1) = false := by simpa [bne] using hn
      rw [this, List.append_nil] at ih
      simp (config := {decide := true, contextual := true, maxSteps := 5000000}) only [enc_len, castLt hlt, np66, res66, ↓simPre, simPost, capt_pure, argV_ro, argV_le, expo_pure, refsL_pure, isL_pure, k0_pure, k1_pure, ren0_pure, ren1_pure, sT_pure, sO_pure, bxGo_pure, resGo_pure, inst_pure, inst_rows, inst_bx, resP_go, viewT_pure, outs_skip, fzV_pure, bxL_pure, bxOf_pure, rowsOf_pure, rows1_pure, name1_pure, nameB1_pure, simR, reduceCtorEq, ↓reduceIte, splice, Nat.reduceAdd, Nat.reduceLT, Nat.reduceLeDiff, Nat.reduceEqDiff, Nat.reduceSub, noPtr, isPtr, notAgg, notIo, AV.capt, distinct, covers, O.keys, O.wr, okPair, disj, List.replicate, startOk]
      refine headC_range 0 (fun k e => e.put (some 5) (.int .i64 k)) (fun k => some (AV.row 47 2 ((entsF l).map encE))) rfl ?_ (fun k hk => by omega)
      simp (config := {decide := true, contextual := true, maxSteps := 5000000}) only [enc_len, castLt hlt, h9, hn', wrap_succ hlt (by omega), np66, res66, ↓simPre, simPost, capt_pure, argV_ro, argV_le, expo_pure, refsL_pure, isL_pure, k0_pure, k1_pure, ren0_pure, ren1_pure, sT_pure, sO_pure, bxGo_pure, resGo_pure, inst_pure, inst_rows, inst_bx, resP_go, viewT_pure, outs_skip, fzV_pure, bxL_pure, bxOf_pure, rowsOf_pure, rows1_pure, name1_pure, nameB1_pure, simR, reduceCtorEq, ↓reduceIte, splice, Nat.reduceAdd, Nat.reduceLT, Nat.reduceLeDiff, Nat.reduceEqDiff, Nat.reduceSub, noPtr, isPtr, notAgg, notIo, AV.capt, distinct, covers, O.keys, O.wr, okPair, disj, List.replicate, startOk]
      exact ih
    · have hx2 : entsX x = entsN x := by unfold entsX; rw [if_neg hn]
      rw [hx2] at ih
      have hn' : (x.b == -1) = true := by simpa [bne] using hn
      simp (config := {decide := true, contextual := true, maxSteps := 5000000}) only [enc_len, castLt hlt, np66, res66, ↓simPre, simPost, capt_pure, argV_ro, argV_le, expo_pure, refsL_pure, isL_pure, k0_pure, k1_pure, ren0_pure, ren1_pure, sT_pure, sO_pure, bxGo_pure, resGo_pure, inst_pure, inst_rows, inst_bx, resP_go, viewT_pure, outs_skip, fzV_pure, bxL_pure, bxOf_pure, rowsOf_pure, rows1_pure, name1_pure, nameB1_pure, simR, reduceCtorEq, ↓reduceIte, splice, Nat.reduceAdd, Nat.reduceLT, Nat.reduceLeDiff, Nat.reduceEqDiff, Nat.reduceSub, noPtr, isPtr, notAgg, notIo, AV.capt, distinct, covers, O.keys, O.wr, okPair, disj, List.replicate, startOk]
      refine headC_range rs.length (fun k e => (e.put (some 5) (.int .i64 k)).setObj 3 ⟨0, [[]], .val [.row 47 2 ((out ++ (entsN x).take k).map encE)]⟩) (fun _ => some (AV.row 47 2 ((entsF l).map encE))) (by simp only [List.take_zero, List.append_nil]; rfl) ?_ ?_
      · have ht : (entsN x).take rs.length = entsN x := List.take_of_length_le (by rw [entsN_len, hrs]; exact Nat.le_refl _)
        simp (config := {decide := true, contextual := true, maxSteps := 5000000}) only [enc_len, castLt hlt, h9, hn', ints_len, castNlt (Nat.lt_irrefl _), ht, wrap_succ hlt (by omega), np66, res66, ↓simPre, simPost, capt_pure, argV_ro, argV_le, expo_pure, refsL_pure, isL_pure, k0_pure, k1_pure, ren0_pure, ren1_pure, sT_pure, sO_pure, bxGo_pure, resGo_pure, inst_pure, inst_rows, inst_bx, resP_go, viewT_pure, outs_skip, fzV_pure, bxL_pure, bxOf_pure, rowsOf_pure, rows1_pure, name1_pure, nameB1_pure, simR, reduceCtorEq, ↓reduceIte, splice, Nat.reduceAdd, Nat.reduceLT, Nat.reduceLeDiff, Nat.reduceEqDiff, Nat.reduceSub, noPtr, isPtr, notAgg, notIo, AV.capt, distinct, covers, O.keys, O.wr, okPair, disj, List.replicate, startOk]
        exact ih
      · intro k hk ihk
        have hk2 : k < (entsN x).length := by rw [entsN_len, hrs]; exact hk
        have hg : (entsN x).getD k en0 = ⟨x.k, rs.getD k 0⟩ := by
          simp only [entsN, hrs, List.getD_eq_getElem?_getD, List.getElem?_map, List.getElem?_eq_getElem hk, Option.map_some, Option.getD_some]
        have hlen : (out ++ (entsN x).take k).length = out.length + k := by rw [List.length_append, List.length_take]; omega
        rw [take_succ en0 hk2, hg, ← List.append_assoc] at ihk
        generalize out ++ (entsN x).take k = o2 at *
        have ha : ((o2.length + 1) * 24 ≤ 140737488355328) = True := eq_true (by omega)
        have h5 : o2.map encE ++ [[.str x.k, .int .i64 (rs.getD k 0)]] = (o2 ++ ([⟨x.k, rs.getD k 0⟩] : List En)).map encE := by simp [encE]
        simp (config := {decide := true, contextual := true, maxSteps := 5000000}) only [enc_len, castLt hlt, h9, hn', castLt hk, ints_len, ints_get rs k hk, ha, h5, wrap_succ hk (by omega), np66, res66, ↓simPre, simPost, capt_pure, argV_ro, argV_le, expo_pure, refsL_pure, isL_pure, k0_pure, k1_pure, ren0_pure, ren1_pure, sT_pure, sO_pure, bxGo_pure, resGo_pure, inst_pure, inst_rows, inst_bx, resP_go, viewT_pure, outs_skip, fzV_pure, bxL_pure, bxOf_pure, rowsOf_pure, rows1_pure, name1_pure, nameB1_pure, simR, reduceCtorEq, ↓reduceIte, splice, Nat.reduceAdd, Nat.reduceLT, Nat.reduceLeDiff, Nat.reduceEqDiff, Nat.reduceSub, noPtr, isPtr, notAgg, notIo, AV.capt, distinct, covers, O.keys, O.wr, okPair, disj, List.replicate, startOk]
        exact ihk
def fewN (x : Nd) : Bool := !decide ((x.k.size : Int) > 300) && !decide (((rsOf x).length : Int) > 130)
def fewT (l : List Nd) : Bool := !decide ((l.length : Int) > 250) && l.all fewN
theorem run19 (l : List Nd) : run T S 19 [.sl (l.map encN)] = some (.bool (fewT l)) := by
  by_cases h : (l.length : Int) > 250
  · have h' : decide ((l.length : Int) > 250) = true := by simpa using h
    (refine run_fn T19 ⟨rfl, by decide, by rfl⟩ ?_; rw [start19, body19, B19]; dsimp only [ov, oo, og])
    simp (config := {decide := true, contextual := true, maxSteps := 5000000}) only [enc_len, h', fewT, np19, res19, ↓simPre, simPost, capt_pure, argV_ro, argV_le, expo_pure, refsL_pure, isL_pure, k0_pure, k1_pure, ren0_pure, ren1_pure, sT_pure, sO_pure, bxGo_pure, resGo_pure, inst_pure, inst_rows, inst_bx, resP_go, viewT_pure, outs_skip, fzV_pure, bxL_pure, bxOf_pure, rowsOf_pure, rows1_pure, name1_pure, nameB1_pure, simR, reduceCtorEq, ↓reduceIte, splice, Nat.reduceAdd, Nat.reduceLT, Nat.reduceLeDiff, Nat.reduceEqDiff, Nat.reduceSub, noPtr, isPtr, notAgg, notIo, AV.capt, distinct, covers, O.keys, O.wr, okPair, disj, List.replicate, startOk]
  · have h' : decide ((l.length : Int) > 250) = false := by simpa using h
    unfold fewT
    (refine run_fn T19 ⟨rfl, by decide, by rfl⟩ ?_; rw [start19, body19, B19]; dsimp only [ov, oo, og])
    simp (config := {decide := true, contextual := true, maxSteps := 5000000}) only [enc_len, h', np19, res19, ↓simPre, simPost, capt_pure, argV_ro, argV_le, expo_pure, refsL_pure, isL_pure, k0_pure, k1_pure, ren0_pure, ren1_pure, sT_pure, sO_pure, bxGo_pure, resGo_pure, inst_pure, inst_rows, inst_bx, resP_go, viewT_pure, outs_skip, fzV_pure, bxL_pure, bxOf_pure, rowsOf_pure, rows1_pure, name1_pure, nameB1_pure, simR, reduceCtorEq, ↓reduceIte, splice, Nat.reduceAdd, Nat.reduceLT, Nat.reduceLeDiff, Nat.reduceEqDiff, Nat.reduceSub, noPtr, isPtr, notAgg, notIo, AV.capt, distinct, covers, O.keys, O.wr, okPair, disj, List.replicate, startOk]
    refine headC_range l.length (fun i e => e.put (some 3) (.int .i64 i)) (fun i => some (AV.bool ((l.drop i).all fewN))) rfl ?_ ?_
    · simp (config := {decide := true, contextual := true, maxSteps := 5000000}) only [enc_len, castNlt (Nat.lt_irrefl _), List.drop_length, np19, res19, ↓simPre, simPost, capt_pure, argV_ro, argV_le, expo_pure, refsL_pure, isL_pure, k0_pure, k1_pure, ren0_pure, ren1_pure, sT_pure, sO_pure, bxGo_pure, resGo_pure, inst_pure, inst_rows, inst_bx, resP_go, viewT_pure, outs_skip, fzV_pure, bxL_pure, bxOf_pure, rowsOf_pure, rows1_pure, name1_pure, nameB1_pure, simR, reduceCtorEq, ↓reduceIte, splice, Nat.reduceAdd, Nat.reduceLT, Nat.reduceLeDiff, Nat.reduceEqDiff, Nat.reduceSub, noPtr, isPtr, notAgg, notIo, AV.capt, distinct, covers, O.keys, O.wr, okPair, disj, List.replicate, startOk]
    · intro i hlt ih
      have h9 := enc_get encN l i nd0 hlt
      rw [drop_cons nd0 hlt]
      generalize l.getD i nd0 = x at *
      simp only [encN] at h9
      cases q1 : decide ((x.k.size : Int) > 300)
      · cases q2 : decide (((rsOf x).length : Int) > 130)
        · simp (config := {decide := true, contextual := true, maxSteps := 5000000}) only [enc_len, castLt hlt, h9, q1, q2, ints_len, fewN, wrap_succ hlt (by omega), np19, res19, ↓simPre, simPost, capt_pure, argV_ro, argV_le, expo_pure, refsL_pure, isL_pure, k0_pure, k1_pure, ren0_pure, ren1_pure, sT_pure, sO_pure, bxGo_pure, resGo_pure, inst_pure, inst_rows, inst_bx, resP_go, viewT_pure, outs_skip, fzV_pure, bxL_pure, bxOf_pure, rowsOf_pure, rows1_pure, name1_pure, nameB1_pure, simR, reduceCtorEq, ↓reduceIte, splice, Nat.reduceAdd, Nat.reduceLT, Nat.reduceLeDiff, Nat.reduceEqDiff, Nat.reduceSub, noPtr, isPtr, notAgg, notIo, AV.capt, distinct, covers, O.keys, O.wr, okPair, disj, List.replicate, startOk]
          exact ih
        · simp (config := {decide := true, contextual := true, maxSteps := 5000000}) only [enc_len, castLt hlt, h9, q1, q2, ints_len, fewN, np19, res19, ↓simPre, simPost, capt_pure, argV_ro, argV_le, expo_pure, refsL_pure, isL_pure, k0_pure, k1_pure, ren0_pure, ren1_pure, sT_pure, sO_pure, bxGo_pure, resGo_pure, inst_pure, inst_rows, inst_bx, resP_go, viewT_pure, outs_skip, fzV_pure, bxL_pure, bxOf_pure, rowsOf_pure, rows1_pure, name1_pure, nameB1_pure, simR, reduceCtorEq, ↓reduceIte, splice, Nat.reduceAdd, Nat.reduceLT, Nat.reduceLeDiff, Nat.reduceEqDiff, Nat.reduceSub, noPtr, isPtr, notAgg, notIo, AV.capt, distinct, covers, O.keys, O.wr, okPair, disj, List.replicate, startOk]
      · simp (config := {decide := true, contextual := true, maxSteps := 5000000}) only [enc_len, castLt hlt, h9, q1, ints_len, fewN, np19, res19, ↓simPre, simPost, capt_pure, argV_ro, argV_le, expo_pure, refsL_pure, isL_pure, k0_pure, k1_pure, ren0_pure, ren1_pure, sT_pure, sO_pure, bxGo_pure, resGo_pure, inst_pure, inst_rows, inst_bx, resP_go, viewT_pure, outs_skip, fzV_pure, bxL_pure, bxOf_pure, rowsOf_pure, rows1_pure, name1_pure, nameB1_pure, simR, reduceCtorEq, ↓reduceIte, splice, Nat.reduceAdd, Nat.reduceLT, Nat.reduceLeDiff, Nat.reduceEqDiff, Nat.reduceSub, noPtr, isPtr, notAgg, notIo, AV.capt, distinct, covers, O.keys, O.wr, okPair, disj, List.replicate, startOk]
end Go.Nv
/- BY VALUE: chapter 27, trees (5): the reference: the error of a leaf. -/
namespace Go.Nv
variable {S : RT}
attribute [local congr] ite_congr congr_bindOps congr_bindC congr_bindD congr_onE congr_onA congr_onBool congr_onEff congr_headC congr_ob congr_ob2 congr_onI congr_onS congr_onAg congr_onTu congr_onRow congr_obO congr_takeR congr_ldV congr_ldN congr_iaV congr_onMap congr_stP congr_appA congr_frzR congr_onFn congr_fzV congr_callM congr_callN congr_onIo congr_giveR congr_rowS congr_bxS congr_bxC congr_rnR congr_rnP congr_onFin
set_option maxRecDepth 100000
set_option maxHeartbeats 40000000
def rEnts (k : ByteArray) (rs : List Int) : Int := first (rs.map fun r => rEntryErr ⟨k, r⟩)
def sameKeyLeaf (x y : Nd) : Bool := (y.b == -1) && (y.k.toList == x.k.toList)
/-- The reference's error of a leaf. -/
def rLeafE (l : List Nd) (i f : Nat) : Int :=
  if (rsOf (l.getD i nd0)).length = 0 then 1
  else if (rEnts (l.getD i nd0).k (rsOf (l.getD i nd0)) != 0) = true then rEnts (l.getD i nd0).k (rsOf (l.getD i nd0))
  else if (((l.getD i nd0).k.size : Int) != ((l.getD f nd0).k.size : Int)) = true then 18
  else if risD (rsOf (l.getD i nd0)) = true then (if (l.take i).any (sameKeyLeaf (l.getD i nd0)) = true then 13 else 0) else 14
theorem run65 (l : List Nd) (i f : Nat) (hi : i < l.length) (hf : f < l.length) (hl : l.length ≤ 1000) (hr : ∀ x ∈ l, (rsOf x).length ≤ 1000) : run T S 65 [.sl (l.map encN), .int .i64 i, .int .i64 f] = some (.int .i64 (rLeafE l i f)) := by
  have hx : (rsOf (l.getD i nd0)).length ≤ 1000 := hr _ (by rw [List.getD_eq_getElem?_getD, List.getElem?_eq_getElem hi]; exact List.getElem_mem hi)
  have h9 := enc_get encN l i nd0 hi
  have h8 := enc_get encN l f nd0 hf
  unfold rLeafE
  have hdk : ∀ k, k < i → (l.take i).drop k = l.getD k nd0 :: (l.take i).drop (k + 1) := fun k hk => by
    rw [drop_cons nd0 (show k < (l.take i).length by rw [List.length_take]; omega)]
    congr 1
    simp only [List.getD_eq_getElem?_getD, List.getElem?_take]; rw [if_pos hk]
  generalize l.getD i nd0 = x at *
  simp only [encN] at h9 h8
  generalize hrs : rsOf x = rs at *
  by_cases h0 : rs.length = 0
  · have h0' : ((rs.length : Int) == 0) = true := by rw [h0]; rfl
    rw [if_pos h0]
    (refine run_fn T65 ⟨rfl, by decide, by rfl⟩ ?_; rw [start65, body65, B65]; dsimp only [ov, oo, og])
    simp (config := {decide := true, contextual := true, maxSteps := 5000000}) only [enc_len, castLt hi, h9, ints_len, h0', np65, res65, ↓simPre, simPost, capt_pure, argV_ro, argV_le, expo_pure, refsL_pure, isL_pure, k0_pure, k1_pure, ren0_pure, ren1_pure, sT_pure, sO_pure, bxGo_pure, resGo_pure, inst_pure, inst_rows, inst_bx, resP_go, viewT_pure, outs_skip, fzV_pure, bxL_pure, bxOf_pure, rowsOf_pure, rows1_pure, name1_pure, nameB1_pure, simR, reduceCtorEq, ↓reduceIte, splice, Nat.reduceAdd, Nat.reduceLT, Nat.reduceLeDiff, Nat.reduceEqDiff, Nat.reduceSub, noPtr, isPtr, notAgg, notIo, AV.capt, distinct, covers, O.keys, O.wr, okPair, disj, List.replicate, startOk]
  have h0' : ((rs.length : Int) == 0) = false := beq_eq_false_iff_ne.2 (by omega)
  rw [if_neg h0]
  (refine run_fn T65 ⟨rfl, by decide, by rfl⟩ ?_; rw [start65, body65, B65]; dsimp only [ov, oo, og])
  simp (config := {decide := true, contextual := true, maxSteps := 5000000}) only [enc_len, castLt hi, h9, ints_len, h0', np65, res65, ↓simPre, simPost, capt_pure, argV_ro, argV_le, expo_pure, refsL_pure, isL_pure, k0_pure, k1_pure, ren0_pure, ren1_pure, sT_pure, sO_pure, bxGo_pure, resGo_pure, inst_pure, inst_rows, inst_bx, resP_go, viewT_pure, outs_skip, fzV_pure, bxL_pure, bxOf_pure, rowsOf_pure, rows1_pure, name1_pure, nameB1_pure, simR, reduceCtorEq, ↓reduceIte, splice, Nat.reduceAdd, Nat.reduceLT, Nat.reduceLeDiff, Nat.reduceEqDiff, Nat.reduceSub, noPtr, isPtr, notAgg, notIo, AV.capt, distinct, covers, O.keys, O.wr, okPair, disj, List.replicate, startOk]
  generalize hE2 : (if ((x.k.size : Int) != ((l.getD f nd0).k.size : Int)) = true then (18 : Int) else if risD rs = true then (if (l.take i).any (sameKeyLeaf x) = true then 13 else 0) else 14) = E2
  refine headC_range rs.length (fun j e => e.put (some 8) (.int .i64 j)) (fun j => some (AV.int .i64 (if (rEnts x.k (rs.drop j) != 0) = true then rEnts x.k (rs.drop j) else E2))) rfl ?_ ?_
  · have hz : rEnts x.k (rs.drop rs.length) = 0 := by rw [List.drop_length]; rfl
    rw [hz]
    simp only [bne_self_eq_false, Bool.false_eq_true, if_false]
    rw [← hE2]
    by_cases q2 : ((x.k.size : Int) != ((l.getD f nd0).k.size : Int)) = true
    · rw [if_pos q2]
      simp (config := {decide := true, contextual := true, maxSteps := 5000000}) only [enc_len, castLt hi, castLt hf, h8, ints_len, castNlt (Nat.lt_irrefl _), q2, np65, res65, ↓simPre, simPost, capt_pure, argV_ro, argV_le, expo_pure, refsL_pure, isL_pure, k0_pure, k1_pure, ren0_pure, ren1_pure, sT_pure, sO_pure, bxGo_pure, resGo_pure, inst_pure, inst_rows, inst_bx, resP_go, viewT_pure, outs_skip, fzV_pure, bxL_pure, bxOf_pure, rowsOf_pure, rows1_pure, name1_pure, nameB1_pure, simR, reduceCtorEq, ↓reduceIte, splice, Nat.reduceAdd, Nat.reduceLT, Nat.reduceLeDiff, Nat.reduceEqDiff, Nat.reduceSub, noPtr, isPtr, notAgg, notIo, AV.capt, distinct, covers, O.keys, O.wr, okPair, disj, List.replicate, startOk]
    · rw [if_neg q2]
      have q2' : ((x.k.size : Int) != ((l.getD f nd0).k.size : Int)) = false := by simpa using q2
      simp (config := {decide := true, contextual := true, maxSteps := 5000000}) only [enc_len, castLt hi, castLt hf, h8, ints_len, castNlt (Nat.lt_irrefl _), q2', np65, res65, ↓simPre, simPost, capt_pure, argV_ro, argV_le, expo_pure, refsL_pure, isL_pure, k0_pure, k1_pure, ren0_pure, ren1_pure, sT_pure, sO_pure, bxGo_pure, resGo_pure, inst_pure, inst_rows, inst_bx, resP_go, viewT_pure, outs_skip, fzV_pure, bxL_pure, bxOf_pure, rowsOf_pure, rows1_pure, name1_pure, nameB1_pure, simR, reduceCtorEq, ↓reduceIte, splice, Nat.reduceAdd, Nat.reduceLT, Nat.reduceLeDiff, Nat.reduceEqDiff, Nat.reduceSub, noPtr, isPtr, notAgg, notIo, AV.capt, distinct, covers, O.keys, O.wr, okPair, disj, List.replicate, startOk]
      refine headC_upd (fun k e => e.put (some 10) (.int .i64 (k : Nat))) (fun k => some (AV.int .i64 (if risD (rs.drop (k - 1)) = true then (if (l.take i).any (sameKeyLeaf x) = true then 13 else 0) else 14))) (fun k => rs.length - k) (fun k => 1 ≤ k ∧ k ≤ rs.length) 1 rfl ⟨Nat.le_refl _, by omega⟩ ?_
      rintro k ⟨k1, k2⟩ ihk
      by_cases hkl : k < rs.length
      · have w1 : IntKind.wrap .i64 ((k : Int) - 1) = ((k - 1 : Nat) : Int) := by rw [wrap_i64 (by omega) (by omega)]; omega
        have hd : rs.drop (k - 1) = rs.getD (k - 1) 0 :: rs.getD k 0 :: rs.drop (k + 1) := by
          rw [drop_cons 0 (show k - 1 < rs.length by omega), show k - 1 + 1 = k by omega, drop_cons 0 hkl]
        have hd2 : rs.drop (k + 1 - 1) = rs.getD k 0 :: rs.drop (k + 1) := by rw [Nat.add_sub_cancel, drop_cons 0 hkl]
        have ihk := ihk (k + 1) ⟨by omega, by omega⟩ (by omega)
        rw [hd2] at ihk
        rw [hd]
        simp only [risD]
        by_cases hq : rs.getD (k - 1) 0 < rs.getD k 0
        · have hq1 : decide (rs.getD k 0 ≤ rs.getD (k - 1) 0) = false := decide_eq_false (by omega)
          have hq2 : decide (rs.getD (k - 1) 0 < rs.getD k 0) = true := by simpa using hq
          simp only [hq2, Bool.true_and]
          simp (config := {decide := true, contextual := true, maxSteps := 5000000}) only [enc_len, castLt hkl, ints_len, w1, ints_get rs k hkl, ints_get rs (k - 1) (by omega), castLt (show k - 1 < rs.length by omega), hq1, wrap_succ hkl (by omega), np65, res65, ↓simPre, simPost, capt_pure, argV_ro, argV_le, expo_pure, refsL_pure, isL_pure, k0_pure, k1_pure, ren0_pure, ren1_pure, sT_pure, sO_pure, bxGo_pure, resGo_pure, inst_pure, inst_rows, inst_bx, resP_go, viewT_pure, outs_skip, fzV_pure, bxL_pure, bxOf_pure, rowsOf_pure, rows1_pure, name1_pure, nameB1_pure, simR, reduceCtorEq, ↓reduceIte, splice, Nat.reduceAdd, Nat.reduceLT, Nat.reduceLeDiff, Nat.reduceEqDiff, Nat.reduceSub, noPtr, isPtr, notAgg, notIo, AV.capt, distinct, covers, O.keys, O.wr, okPair, disj, List.replicate, startOk]
          exact ihk
        · have hq1 : decide (rs.getD k 0 ≤ rs.getD (k - 1) 0) = true := decide_eq_true (by omega)
          have hq2 : decide (rs.getD (k - 1) 0 < rs.getD k 0) = false := by simpa using hq
          simp only [hq2, Bool.false_and, Bool.false_eq_true, if_false]
          simp (config := {decide := true, contextual := true, maxSteps := 5000000}) only [enc_len, castLt hkl, ints_len, w1, ints_get rs k hkl, ints_get rs (k - 1) (by omega), castLt (show k - 1 < rs.length by omega), hq1, np65, res65, ↓simPre, simPost, capt_pure, argV_ro, argV_le, expo_pure, refsL_pure, isL_pure, k0_pure, k1_pure, ren0_pure, ren1_pure, sT_pure, sO_pure, bxGo_pure, resGo_pure, inst_pure, inst_rows, inst_bx, resP_go, viewT_pure, outs_skip, fzV_pure, bxL_pure, bxOf_pure, rowsOf_pure, rows1_pure, name1_pure, nameB1_pure, simR, reduceCtorEq, ↓reduceIte, splice, Nat.reduceAdd, Nat.reduceLT, Nat.reduceLeDiff, Nat.reduceEqDiff, Nat.reduceSub, noPtr, isPtr, notAgg, notIo, AV.capt, distinct, covers, O.keys, O.wr, okPair, disj, List.replicate, startOk]
      · have : k = rs.length := by omega
        subst this
        have hd : risD (rs.drop (rs.length - 1)) = true := by
          rw [drop_cons 0 (show rs.length - 1 < rs.length by omega), List.drop_eq_nil_of_le (by omega)]; rfl
        rw [hd]
        simp only [if_true]
        have hst : (l.take i).any (sameKeyLeaf x) = ((l.take i).drop 0).any (sameKeyLeaf x) := by rw [List.drop_zero]
        rw [hst]
        simp (config := {decide := true, contextual := true, maxSteps := 5000000}) only [enc_len, castNlt (Nat.lt_irrefl _), ints_len, np65, res65, ↓simPre, simPost, capt_pure, argV_ro, argV_le, expo_pure, refsL_pure, isL_pure, k0_pure, k1_pure, ren0_pure, ren1_pure, sT_pure, sO_pure, bxGo_pure, resGo_pure, inst_pure, inst_rows, inst_bx, resP_go, viewT_pure, outs_skip, fzV_pure, bxL_pure, bxOf_pure, rowsOf_pure, rows1_pure, name1_pure, nameB1_pure, simR, reduceCtorEq, ↓reduceIte, splice, Nat.reduceAdd, Nat.reduceLT, Nat.reduceLeDiff, Nat.reduceEqDiff, Nat.reduceSub, noPtr, isPtr, notAgg, notIo, AV.capt, distinct, covers, O.keys, O.wr, okPair, disj, List.replicate, startOk]
        refine headC_range i (fun j e => e.put (some 11) (.int .i64 j)) (fun j => some (AV.int .i64 (if ((l.take i).drop j).any (sameKeyLeaf x) = true then 13 else 0))) rfl ?_ ?_
        · have hz : ((l.take i).drop i).any (sameKeyLeaf x) = false := by rw [List.drop_eq_nil_of_le (by simp; omega)]; rfl
          rw [hz]
          simp (config := {decide := true, contextual := true, maxSteps := 5000000}) only [castNlt (Nat.lt_irrefl _), np65, res65, ↓simPre, simPost, capt_pure, argV_ro, argV_le, expo_pure, refsL_pure, isL_pure, k0_pure, k1_pure, ren0_pure, ren1_pure, sT_pure, sO_pure, bxGo_pure, resGo_pure, inst_pure, inst_rows, inst_bx, resP_go, viewT_pure, outs_skip, fzV_pure, bxL_pure, bxOf_pure, rowsOf_pure, rows1_pure, name1_pure, nameB1_pure, simR, reduceCtorEq, ↓reduceIte, splice, Nat.reduceAdd, Nat.reduceLT, Nat.reduceLeDiff, Nat.reduceEqDiff, Nat.reduceSub, noPtr, isPtr, notAgg, notIo, AV.capt, distinct, covers, O.keys, O.wr, okPair, disj, List.replicate, startOk]
        · intro j hj ihj
          have g9 := enc_get encN l j nd0 (by omega)
          rw [hdk j hj]
          rw [List.any_cons]
          generalize l.getD j nd0 = y at *
          simp only [encN] at g9
          cases hq : (y.b == -1)
          · have hs : sameKeyLeaf x y = false := by unfold sameKeyLeaf; rw [hq]; rfl
            rw [hs, Bool.false_or]
            simp (config := {decide := true, contextual := true, maxSteps := 5000000}) only [enc_len, castLt hj, castLt (show j < l.length by omega), g9, hq, wrap_succ hj (by omega), np65, res65, ↓simPre, simPost, capt_pure, argV_ro, argV_le, expo_pure, refsL_pure, isL_pure, k0_pure, k1_pure, ren0_pure, ren1_pure, sT_pure, sO_pure, bxGo_pure, resGo_pure, inst_pure, inst_rows, inst_bx, resP_go, viewT_pure, outs_skip, fzV_pure, bxL_pure, bxOf_pure, rowsOf_pure, rows1_pure, name1_pure, nameB1_pure, simR, reduceCtorEq, ↓reduceIte, splice, Nat.reduceAdd, Nat.reduceLT, Nat.reduceLeDiff, Nat.reduceEqDiff, Nat.reduceSub, noPtr, isPtr, notAgg, notIo, AV.capt, distinct, covers, O.keys, O.wr, okPair, disj, List.replicate, startOk]
            exact ihj
          · cases hq2 : (y.k.toList == x.k.toList)
            · have hs : sameKeyLeaf x y = false := by unfold sameKeyLeaf; rw [hq, hq2]; rfl
              rw [hs, Bool.false_or]
              simp (config := {decide := true, contextual := true, maxSteps := 5000000}) only [enc_len, castLt hj, castLt (show j < l.length by omega), g9, hq, hq2, wrap_succ hj (by omega), np65, res65, ↓simPre, simPost, capt_pure, argV_ro, argV_le, expo_pure, refsL_pure, isL_pure, k0_pure, k1_pure, ren0_pure, ren1_pure, sT_pure, sO_pure, bxGo_pure, resGo_pure, inst_pure, inst_rows, inst_bx, resP_go, viewT_pure, outs_skip, fzV_pure, bxL_pure, bxOf_pure, rowsOf_pure, rows1_pure, name1_pure, nameB1_pure, simR, reduceCtorEq, ↓reduceIte, splice, Nat.reduceAdd, Nat.reduceLT, Nat.reduceLeDiff, Nat.reduceEqDiff, Nat.reduceSub, noPtr, isPtr, notAgg, notIo, AV.capt, distinct, covers, O.keys, O.wr, okPair, disj, List.replicate, startOk]
              exact ihj
            · have hs : sameKeyLeaf x y = true := by unfold sameKeyLeaf; rw [hq, hq2]; rfl
              rw [hs, Bool.true_or]
              simp (config := {decide := true, contextual := true, maxSteps := 5000000}) only [enc_len, castLt hj, castLt (show j < l.length by omega), g9, hq, hq2, np65, res65, ↓simPre, simPost, capt_pure, argV_ro, argV_le, expo_pure, refsL_pure, isL_pure, k0_pure, k1_pure, ren0_pure, ren1_pure, sT_pure, sO_pure, bxGo_pure, resGo_pure, inst_pure, inst_rows, inst_bx, resP_go, viewT_pure, outs_skip, fzV_pure, bxL_pure, bxOf_pure, rowsOf_pure, rows1_pure, name1_pure, nameB1_pure, simR, reduceCtorEq, ↓reduceIte, splice, Nat.reduceAdd, Nat.reduceLT, Nat.reduceLeDiff, Nat.reduceEqDiff, Nat.reduceSub, noPtr, isPtr, notAgg, notIo, AV.capt, distinct, covers, O.keys, O.wr, okPair, disj, List.replicate, startOk]
  · intro j hj ih
    have h56 := run56 (S := S) ⟨x.k, rs.getD j 0⟩
    simp only [encE] at h56
    rw [drop_cons 0 hj]
    cases q : (rEntryErr ⟨x.k, rs.getD j 0⟩ != 0)
    · have hz : rEnts x.k (rs.getD j 0 :: rs.drop (j + 1)) = rEnts x.k (rs.drop (j + 1)) := by simp only [rEnts, List.map_cons, first, q, Bool.false_eq_true, if_false]
      rw [hz]
      simp (config := {decide := true, contextual := true, maxSteps := 5000000}) only [ints_len, castLt hj, ints_get rs j hj, h56, q, wrap_succ hj (by omega), np65, res65, ↓simPre, simPost, capt_pure, argV_ro, argV_le, expo_pure, refsL_pure, isL_pure, k0_pure, k1_pure, ren0_pure, ren1_pure, sT_pure, sO_pure, bxGo_pure, resGo_pure, inst_pure, inst_rows, inst_bx, resP_go, viewT_pure, outs_skip, fzV_pure, bxL_pure, bxOf_pure, rowsOf_pure, rows1_pure, name1_pure, nameB1_pure, simR, reduceCtorEq, ↓reduceIte, splice, Nat.reduceAdd, Nat.reduceLT, Nat.reduceLeDiff, Nat.reduceEqDiff, Nat.reduceSub, noPtr, isPtr, notAgg, notIo, AV.capt, distinct, covers, O.keys, O.wr, okPair, disj, List.replicate, startOk]
      exact ih
    · have hz : rEnts x.k (rs.getD j 0 :: rs.drop (j + 1)) = rEntryErr ⟨x.k, rs.getD j 0⟩ := by simp only [rEnts, List.map_cons, first, q, if_true]
      rw [hz, q]
      simp (config := {decide := true, contextual := true, maxSteps := 5000000}) only [ints_len, castLt hj, ints_get rs j hj, h56, q, np65, res65, ↓simPre, simPost, capt_pure, argV_ro, argV_le, expo_pure, refsL_pure, isL_pure, k0_pure, k1_pure, ren0_pure, ren1_pure, sT_pure, sO_pure, bxGo_pure, resGo_pure, inst_pure, inst_rows, inst_bx, resP_go, viewT_pure, outs_skip, fzV_pure, bxL_pure, bxOf_pure, rowsOf_pure, rows1_pure, name1_pure, nameB1_pure, simR, reduceCtorEq, ↓reduceIte, splice, Nat.reduceAdd, Nat.reduceLT, Nat.reduceLeDiff, Nat.reduceEqDiff, Nat.reduceSub, noPtr, isPtr, notAgg, notIo, AV.capt, distinct, covers, O.keys, O.wr, okPair, disj, List.replicate, startOk]
end Go.Nv
